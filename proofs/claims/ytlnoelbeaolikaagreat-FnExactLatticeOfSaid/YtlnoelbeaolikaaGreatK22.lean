/- The hypotheses for ink: both calls. -/
import Derived.Test.YtlnoelbeaolikaaGreatK17
import Derived.Test.YtlnoelbeaolikaaGreatK20
import Derived.Test.YtlnoelbeaolikaaGreatK21
import Derived.Test.YtlnoelbeaolikaaGreatK05
import Derived.Test.YtlnoelbeaolikaaGreatK04
import Derived.Test.YtlnoelbeaolikaaGreatK06
import Derived.Deep.RegionHeld3
import Derived.Deep.DrawnRows
import Derived.StillTailTactics
import Derived.IntWalk
import Derived.Test.YtlnoelbeaolikaaGreatK03
import Derived.ArgAppend
import Derived.Test.YtlnoelbeaolikaaGreatK01
import Derived.Deep.AppendLies
import Derived.Shelf.Spec.SlicesInsertGrow
namespace Go.Proofs.YtlnoelbeaolikaaGreat
open Go.RowKit
def hypM (X : XTemplateS) (Q : Int) (m : DMatch) : DHyp := ⟨((X[m.ix.toNat]?).getD (⟨#[]⟩, [])).1, m.cost + Q⟩
theorem hypM_eq {X : XTemplateS} {Q c : Int} {i : Nat} {t : XTemplate} (h : X[i]? = some t) : hypM X Q ⟨i, c⟩ = ⟨t.1, c + Q⟩ := by
 unfold hypM
 rw [Int.toNat_natCast, h]; rfl
def hypTo (X : XTemplateS) (Q : Int) (ms : List DMatch) (k : Nat) : List DHyp := (ms.take k).map (hypM X Q)
theorem hypTo_len {X : XTemplateS} {Q : Int} {ms : List DMatch} {k : Nat} (h : k ≤ ms.length) : (hypTo X Q ms k).length = k := by
 unfold hypTo; rw [List.length_map, List.length_take]; omega
theorem hypTo_push {X : XTemplateS} {Q : Int} {ms : List DMatch} {k : Nat} {m : DMatch} (h : ms[k]? = some m) : hypTo X Q ms k ++ [hypM X Q m] = hypTo X Q ms (k + 1) := by
 unfold hypTo
 rw [List.take_add_one, h, List.map_append]; rfl
def insTo (X : XTemplateS) (Q : Int) (ms : List DMatch) (k : Nat) : List DHyp := (hypTo X Q ms k).foldl insH []
theorem insTo_push {X : XTemplateS} {Q : Int} {ms : List DMatch} {k : Nat} {m : DMatch} (h : ms[k]? = some m) : insH (insTo X Q ms k) (hypM X Q m) = insTo X Q ms (k + 1) := by
 unfold insTo
 rw [← hypTo_push h, List.foldl_append]; rfl
theorem insTo_len {X : XTemplateS} {Q : Int} {ms : List DMatch} : ∀ k, k ≤ ms.length → (insTo X Q ms k).length ≤ k
 | 0, _ => by simp [insTo, hypTo]
 | k + 1, hk => by
  obtain ⟨m, hm⟩ : ∃ m, ms[k]? = some m := ⟨ms[k]'(by omega), List.getElem?_eq_getElem (by omega)⟩
  have ih := insTo_len (X := X) (Q := Q) (ms := ms) k (by omega)
  rw [← insTo_push hm]
  have := insH_len (insTo X Q ms k) (hypM X Q m)
  omega
/-- the matches of ink -/
noncomputable def matI (x : XStore) (X : XInk) (q : Nat) : List DMatch := matTo x.2 (featsI X q) x.1.toNat x.2.length
noncomputable def hypsI (x : XStore) (X : XInk) (q : Nat) (pen : Int) (most : Nat) : List DHyp := (insTo x.2 (pen * ((X.length : Int) - 1)) (matI x X q) (matI x X q).length).take most
theorem dedup_ins {Y L : List DHyp} (hp : Y.Perm L) (hu : Up ltH Y) : dedup Y = L.foldl insH [] := by
 have h0 : IsBest [] [] := ⟨List.Pairwise.nil, List.Pairwise.nil, fun x => ⟨fun h => by simp at h, fun h => by simp at h⟩⟩
 have h1 := fold_best L [] [] h0
 rw [List.nil_append] at h1
 exact isBest_uniq (dedup_best hp hu) h1
theorem nest_sl {w : World} {u : Value} {X : XInk} (h : Strokes w u X) : ∃ sa sc, u = .slice sa X.length sc := by
 obtain ⟨_, _, ao, cap, _, rfl, _⟩ := h.slice
 exact ⟨_, _, rfl⟩
set_option maxRecDepth 100000 in
set_option maxHeartbeats 4000000 in
theorem l13Of_any (ps pi pt : Nat) (vs vi : Value) (x : XStore) (X : XInk) (q most : Nat) (pen : Int) (w : World) (s0 : w.cell? ⟨ps, 0, none⟩ = some (.int .i64 x.1)) (s1 : w.cell? ⟨ps, 1, none⟩ = some vs) (i0 : w.cell? ⟨pi, 0, none⟩ = some vi)
  (t0 : w.cell? ⟨pt, 0, none⟩ = some (.int .i64 (q + 1))) (t1 : w.cell? ⟨pt, 1, none⟩ = some (.int .i64 most)) (t2 : w.cell? ⟨pt, 2, none⟩ = some (.int .i64 pen))
  (hs : Tmps w vs x.2) (hi : Strokes w vi X) (ok : okInk X) (hvs : validStore x = true) (hvi : validInk X = true) (h0 : 0 < X.length) (hq : 1 ≤ q) (hq2 : q ≤ 23) (hm : most ≤ 8) (hp0 : 0 ≤ pen) (hp1 : pen ≤ 1000) (hf : X.length * (q + 1) ≤ 72) :
  Calls Tryz.prog 29 #[.pointer (some ⟨ps, 0, none⟩), .pointer (some ⟨pi, 0, none⟩), .pointer (some ⟨pt, 0, none⟩)] w (RetOwn eHyp 76 (hypsI x X q pen most) w) := by
 have hX16 := validInk_len hvi
 obtain ⟨bs1, bs2, bs3⟩ := validStore_bd hvs
 have hFl := featsI_len X q
 have hF1 : 1 ≤ (featsI X q).length := by
  rw [hFl]
  have := Nat.mul_le_mul h0 (show 1 ≤ q + 1 by omega)
  omega
 have oF := featsI_ok hvi h0 hq
 have CF := l08Of_any pi 0 vi X q w i0 hi ok hvi h0 hq hq2
 have hmb := mat_bd hvs oF hF1 (by rw [hFl]; exact hf) (r := x.1.toNat) x.2.length (Nat.le_refl _)
 have hml := matTo_len x.2 (featsI X q) x.1.toNat x.2.length
 have HM := hid (show matTo x.2 (featsI X q) x.1.toNat x.2.length = matI x X q from rfl)
 obtain ⟨va, vc, rfl⟩ := tmps_arr hs
 obtain ⟨ia, ic, rfl⟩ := nest_sl hi
 obtain ⟨Q, hQ⟩ : ∃ Q, Q = pen * ((X.length : Int) - 1) := ⟨_, rfl⟩
 have hQ0 : 0 ≤ Q := by rw [hQ]; exact Int.mul_nonneg hp0 (by omega)
 have hQ1 : Q ≤ 15000 := by
  rw [hQ]
  have := Int.mul_le_mul (show pen ≤ 1000 by omega) (show (X.length : Int) - 1 ≤ 15 by omega) (by omega) (by omega)
  omega
 have HR := hid (show hypsI x X q pen most = (insTo x.2 Q (matI x X q) (matI x X q).length).take most by rw [hQ]; rfl)
 have wq1 : IntKind.i64.wrap ((X.length : Int) - 1) = (X.length : Int) - 1 := IntWalk.i64_in _ (by omega)
 have wq2 : IntKind.i64.wrap (pen * ((X.length : Int) - 1)) = Q := by rw [← hQ]; exact IntWalk.i64_in _ (by omega)
 have HFL := hid hFl
 have HSX := hid hs
 have HFF := hid hf
 clear hFl hQ hf
 go_enter Tryz.func29, Tryz.ntmps29
 go_wp2_with fail
 refine CF.mono ?_
 rintro e w2 ⟨uF, rfl, hoF, hb2⟩
 have s0b := cell_later hb2 s0
 have s1b := cell_later hb2 s1
 have CM := l11Matches_any ps _ uF x (featsI X q) w2 s0b s1b (hs.below hb2) hoF.arr hvs oF hF1 (by rw [HFL.out]; exact HFF.out)
 rw [HM.out] at CM hmb hml
 obtain ⟨MS, hMS⟩ : ∃ M, M = matI x X q := ⟨_, rfl⟩
 rw [← hMS] at CM HR hmb hml
 have HMB := hid hmb
 clear hMS hmb CF
 go_wp2_with fail
 refine CM.mono ?_
 rintro e w3 ⟨uM, rfl, hoM, hb3⟩
 have hb23 := hb2.trans (hb3.mono hb2.size)
 obtain ⟨ma, mc, huM⟩ := hoM.isSlice
 subst huM
 obtain ⟨mb, moff, mao, mcap, hmv, hmn, hmm, hma, hmc⟩ := hoM.arr
 simp only [Value.slice.injEq] at hmv
 obtain ⟨rfl, _, rfl⟩ := hmv
 unfold maxLen at hmm
 go_upto_region 4 with fail
 obtain ⟨w4, hw4⟩ : ∃ u, u = w3.alloc (.cells #[] 76) := ⟨_, rfl⟩
 obtain ⟨pe, hpe⟩ : ∃ p, p = w3.heap.size := ⟨_, rfl⟩
 rw [← hw4, ← hpe]
 have hb4 : Below w3.heap.size w3 w4 := by rw [hw4]; exact below_alloc _ _
 have ha4 : Arr eHyp w4 (.slice (some ⟨pe, 0, none⟩) 0 0) (insTo x.2 Q MS 0) := by rw [hw4, hpe]; exact (Own.empty (E := eHyp) 76 w3 (Nat.le_refl _)).arr
 have hb34 := hb23.trans (hb4.mono hb23.size)
 clear hw4 hpe CM hoF hoM
 go_loopw [8, 9] (fun l i wr => ∃ k : Nat, k ≤ MS.length ∧ i = .int .i64 k ∧ Arr eHyp wr l (insTo x.2 Q MS k) ∧ Below w3.heap.size w3 wr) (fun _ i _ => MS.length - (intOf i).toNat)
 case atStart => exact ⟨0, Nat.zero_le _, rfl, ha4, hb4⟩
 case round =>
  clear ha4
  obtain ⟨w5, rfl⟩ : ∃ u, u = wr := ⟨wr, rfl⟩
  obtain ⟨k, hk, rfl, hA, hbl⟩ := hrel
  have hb5 := hb23.trans (hbl.mono hb23.size)
  have hil := insTo_len (X := x.2) (Q := Q) k hk
  have c2 := cell_later hb5 t1
  by_cases hlt : k < MS.length
  ·have hli : (k : Int) < (MS.length : Int) := by omega
   obtain ⟨hma', hmw⟩ := hma (by omega)
   subst hma'
   obtain ⟨m, hmk⟩ : ∃ m, MS[k]? = some m := ⟨_, List.getElem?_eq_getElem hlt⟩
   obtain ⟨ix, hix, hixl, hc0, hc1⟩ := HMB.out m (List.mem_of_getElem? hmk)
   obtain ⟨mx, mcst⟩ := m
   simp only at hix hc0 hc1
   subst hix
   obtain ⟨t, ht⟩ : ∃ t, x.2[ix]? = some t := ⟨_, List.getElem?_eq_getElem hixl⟩
   obtain ⟨d0, d1⟩ := eMatch_cells (hmc.below hbl hmw) hmk
   obtain ⟨tb, toff, tc, sa, sc, hsl, _, _, f0, f1, _⟩ := (HSX.out.below hb5).get ht
   simp only [Value.slice.injEq] at hsl
   obtain ⟨rfl, _, rfl⟩ := hsl
   have e0 := cell_later hb5 t2
   have g0 := cell_later hb5 i0
   have g1 := cell_later hb5 s1
   have hixi : (ix : Int) < (x.2.length : Int) := by omega
   have HT := hid (insTo_push (X := x.2) (Q := Q) hmk)
   rw [hypM_eq ht] at HT
   have wq3 : IntKind.i64.wrap (mcst + Q) = mcst + Q := IntWalk.i64_in _ (by omega)
   have hbz := Below.refl w5.heap.size w5
   simp only at d0 d1
   obtain ⟨L, hL⟩ : ∃ L, L = insTo x.2 Q MS k := ⟨_, rfl⟩
   rw [← hL] at hA HT hil
   obtain ⟨la, lc, hla⟩ := hA.isSlice
   subst hla
   obtain ⟨n, hn⟩ : ∃ n, n = L.length := ⟨_, rfl⟩
   have CI := fun w' (hb : Below w5.heap.size w5 w') => l13Insert_any (.slice la L.length lc) L ⟨t.1, mcst + Q⟩ w' (hA.below hb) (by omega)
   rw [← hn] at CI ⊢
   have HN := hid hn
   clear hL hn hmk ht hA hil
   go_upto_region 6 with fail
   have x_d0 := ext_cell d0
   have x_d1 := ext_cell d1
   have x_e0 := ext_cell e0
   have x_g0 := ext_cell g0
   have x_g1 := ext_cell g1
   have x_f0 := ext_cell f0
   refine wp_region_ext (by kernel_rfl) (by kernel_rfl) ?_
   repeat (go_big_quiet_step (fail))
   refine wpQuiet_nil ?_
   intro _ hw'
   obtain ⟨nq, hw''⟩ := hw'
   subst hw''
   replace d0 := x_d0 nq
   replace d1 := x_d1 nq
   replace e0 := x_e0 nq
   replace g0 := x_g0 nq
   replace g1 := x_g1 nq
   replace f0 := x_f0 nq
   clear x_d0 x_d1 x_e0 x_g0 x_g1 x_f0
   replace hbz := hbz.trans ((ext_below _ nq).mono hbz.size)
   obtain ⟨w6, hw6⟩ : ∃ u, u = ext w5 nq := ⟨_, rfl⟩
   rw [← hw6] at hbz d0 d1 e0 g0 g1 f0 ⊢
   clear hw6
   have hbl6 := hbl.trans (hbz.mono hbl.size)
   have hs6 := hbl6.size
   have CI6 := fun w' (hb : Below w6.heap.size w6 w') => CI w' (hbz.trans (hb.mono hbz.size))
   clear CI
   go_upto_region 7 with fail
   refine wp_region_stgy 14 15 (fun c w' => match c with | 0 => Below w6.heap.size w6 w' | 1 => Below w6.heap.size w6 w' | _ => Below w3.heap.size w3 w') (fun c i v w' => match i with
         | 0 => v = .slice la n lc
         | 1 => v = .pointer (some ⟨ps, 0, none⟩)
         | 2 => v = .pointer (some ⟨ps, 0, none⟩)
         | 3 => v = .pointer (some ⟨ps, 1, none⟩)
         | 4 => v = .slice (some ⟨tb, toff, none⟩) x.2.length vc
         | 5 => v = .slice (some ⟨mb, moff, none⟩) MS.length mc
         | 6 => v = .int .i64 k
         | 7 => v = .pointer (some ⟨mb, moff + k * 2, none⟩)
         | 8 => v = .pointer (some ⟨mb, moff + k * 2, none⟩)
         | 9 => v = .int .i64 ix
         | 10 => v = .pointer (some ⟨tb, toff + ix * 2, none⟩)
         | 11 => v = .pointer (some ⟨tb, toff + ix * 2, none⟩)
         | 12 => v = .string t.1
         | 13 => v = .int .i64 (mcst + Q)
         | 14 => (match c with | 0 => True | 1 => v = .agg #[.string t.1, .int .i64 (mcst + Q)] | _ => v = .agg #[.string t.1, .int .i64 (mcst + Q)])
         | 15 => (match c with | 0 => True | 1 => True | _ => (Arr eHyp w' v (insH L ⟨t.1, mcst + Q⟩)))
         | 16 => (match c with | 0 => False | 1 => False | _ => Arr eHyp w' v (insH L ⟨t.1, mcst + Q⟩))
         | _ => True) (by kernel_rfl) (by kernel_rfl) (by kernel_rfl) (by kernel_rfl) (by kernel_rfl) ?_ ?_ ?_ ?_ ?_ ?_ (by decide) ?_
   ·exact (Below.refl _ w6).drew
   ·intro c w w' h hb
    match c, h with
    | 0, h => exact Below.trans (B := w6.heap.size) h (hb.mono (Below.size h))
    | 1, h => exact Below.trans (B := w6.heap.size) h (hb.mono (Below.size h))
    | (k + 2), h => exact (h.trans (hb.mono h.size))
   ·intro c i v w w' h hb
    match i, h with
    | 0, h => exact h
    | 1, h => exact h
    | 2, h => exact h
    | 3, h => exact h
    | 4, h => exact h
    | 5, h => exact h
    | 6, h => exact h
    | 7, h => exact h
    | 8, h => exact h
    | 9, h => exact h
    | 10, h => exact h
    | 11, h => exact h
    | 12, h => exact h
    | 13, h => exact h
    | 14, h =>
     match c, h with
     | 0, h => exact trivial
     | 1, h => exact h
     | (k + 2), h => exact h
    | 15, h =>
     match c, h with
     | 0, h => exact trivial
     | 1, h => exact trivial
     | (k + 2), h => exact (h.below hb)
    | 16, h =>
     match c, h with
     | 0, h => exact h
     | 1, h => exact h
     | (k + 2), h => exact (h.below hb)
    | (k + 17), h => exact h
   ·refine ⟨?_, ?_, ?_, ?_, ?_, ?_, ?_, ?_, ?_, ?_, ?_, ?_, ?_, ?_, ?_, ?_, ?_, trivial⟩
    ·refine .inr (.inr ⟨fun _ => ?_, fun _ => ?_, can_no (by kernel_rfl)⟩)
     ·intro ρ w' hbw ht hcs hfn hgl hpr hdep G hG
      replace hbw : Below w6.heap.size w6 w' := hbw
      refine ⟨fun _ => ?_, fun h => by cases h⟩
      have s8 : ρ (.tmp 8) = .slice la n lc := hpr 16 8 rfl (by kernel_rfl)
      clear ht hdep hgl hpr
      go_simp
      exact hG _ _ (Below.refl _ _) rfl
     ·intro ρ w' hbw ht hcs hfn hgl hpr hdep G hG
      replace hbw : Below w6.heap.size w6 w' := hbw
      refine ⟨fun _ => ?_, fun h => by cases h⟩
      have s8 : ρ (.tmp 8) = .slice la n lc := hpr 16 8 rfl (by kernel_rfl)
      clear ht hdep hgl hpr
      go_simp
      exact hG _ _ (Below.refl _ _) rfl
    ·refine .inr (.inr ⟨fun _ => ?_, can_no (by kernel_rfl), can_no (by kernel_rfl)⟩)
     ·intro ρ w' hbw ht hcs hfn hgl hpr hdep G hG
      replace hbw : Below w6.heap.size w6 w' := hbw
      refine ⟨fun _ => ?_, fun h => by cases h⟩
      have s0 : ρ (.tmp 0) = .pointer (some ⟨ps, 0, none⟩) := ht 0 rfl
      clear ht hdep hgl hpr
      go_simp
      exact hG _ _ (Below.refl _ _) rfl
    ·refine .inr (.inr ⟨fun _ => ?_, can_no (by kernel_rfl), can_no (by kernel_rfl)⟩)
     ·intro ρ w' hbw ht hcs hfn hgl hpr hdep G hG
      replace hbw : Below w6.heap.size w6 w' := hbw
      refine ⟨fun _ => ?_, fun h => by cases h⟩
      have s44 : ρ (.tmp 44) = .pointer (some ⟨ps, 0, none⟩) := hdep ⟨1, .data⟩ (by simp) rfl 44 rfl
      clear ht hdep hgl hpr
      go_simp
      exact hG _ _ (Below.refl _ _) rfl
    ·refine .inr (.inr ⟨fun _ => ?_, can_no (by kernel_rfl), can_no (by kernel_rfl)⟩)
     ·intro ρ w' hbw ht hcs hfn hgl hpr hdep G hG
      replace hbw : Below w6.heap.size w6 w' := hbw
      refine ⟨fun _ => ?_, fun h => by cases h⟩
      have s45 : ρ (.tmp 45) = .pointer (some ⟨ps, 0, none⟩) := hdep ⟨2, .data⟩ (by simp) rfl 45 rfl
      clear ht hdep hgl hpr
      go_simp
      exact hG _ _ (Below.refl _ _) rfl
    ·refine .inr (.inr ⟨fun _ => ?_, can_no (by kernel_rfl), can_no (by kernel_rfl)⟩)
     ·intro ρ w' hbw ht hcs hfn hgl hpr hdep G hG
      replace hbw : Below w6.heap.size w6 w' := hbw
      refine ⟨fun _ => ?_, fun h => by cases h⟩
      have s46 : ρ (.tmp 46) = .pointer (some ⟨ps, 1, none⟩) := hdep ⟨3, .data⟩ (by simp) rfl 46 rfl
      have d0 := cell_later hbw d0
      have g1 := cell_later hbw g1
      have f0 := cell_later hbw f0
      clear ht hdep hgl hpr
      go_simp
      exact hG _ _ (Below.refl _ _) rfl
    ·refine .inr (.inr ⟨fun _ => ?_, can_no (by kernel_rfl), can_no (by kernel_rfl)⟩)
     ·intro ρ w' hbw ht hcs hfn hgl hpr hdep G hG
      replace hbw : Below w6.heap.size w6 w' := hbw
      refine ⟨fun _ => ?_, fun h => by cases h⟩
      have s7 : ρ (.tmp 7) = .slice (some ⟨mb, moff, none⟩) MS.length mc := ht 7 rfl
      clear ht hdep hgl hpr
      go_simp
      exact hG _ _ (Below.refl _ _) rfl
    ·refine .inr (.inr ⟨fun _ => ?_, can_no (by kernel_rfl), can_no (by kernel_rfl)⟩)
     ·intro ρ w' hbw ht hcs hfn hgl hpr hdep G hG
      replace hbw : Below w6.heap.size w6 w' := hbw
      refine ⟨fun _ => ?_, fun h => by cases h⟩
      have s9 : ρ (.tmp 9) = .int .i64 k := ht 9 rfl
      clear ht hdep hgl hpr
      go_simp
      exact hG _ _ (Below.refl _ _) rfl
    ·refine .inr (.inr ⟨fun _ => ?_, can_no (by kernel_rfl), can_no (by kernel_rfl)⟩)
     ·intro ρ w' hbw ht hcs hfn hgl hpr hdep G hG
      replace hbw : Below w6.heap.size w6 w' := hbw
      refine ⟨fun _ => ?_, fun h => by cases h⟩
      have s48 : ρ (.tmp 48) = .slice (some ⟨mb, moff, none⟩) MS.length mc := hdep ⟨5, .data⟩ (by simp) rfl 48 rfl
      have s49 : ρ (.tmp 49) = .int .i64 k := hdep ⟨6, .data⟩ (by simp) rfl 49 rfl
      clear ht hdep hgl hpr
      go_simp
      exact hG _ _ (Below.refl _ _) rfl
    ·refine .inr (.inr ⟨fun _ => ?_, can_no (by kernel_rfl), can_no (by kernel_rfl)⟩)
     ·intro ρ w' hbw ht hcs hfn hgl hpr hdep G hG
      replace hbw : Below w6.heap.size w6 w' := hbw
      refine ⟨fun _ => ?_, fun h => by cases h⟩
      have s50 : ρ (.tmp 50) = .pointer (some ⟨mb, moff + k * 2, none⟩) := hdep ⟨7, .data⟩ (by simp) rfl 50 rfl
      clear ht hdep hgl hpr
      go_simp
      exact hG _ _ (Below.refl _ _) rfl
    ·refine .inr (.inr ⟨fun _ => ?_, can_no (by kernel_rfl), can_no (by kernel_rfl)⟩)
     ·intro ρ w' hbw ht hcs hfn hgl hpr hdep G hG
      replace hbw : Below w6.heap.size w6 w' := hbw
      refine ⟨fun _ => ?_, fun h => by cases h⟩
      have s51 : ρ (.tmp 51) = .pointer (some ⟨mb, moff + k * 2, none⟩) := hdep ⟨8, .data⟩ (by simp) rfl 51 rfl
      have d0 := cell_later hbw d0
      have g1 := cell_later hbw g1
      have f0 := cell_later hbw f0
      clear ht hdep hgl hpr
      go_simp
      exact hG _ _ (Below.refl _ _) rfl
    ·refine .inr (.inr ⟨fun _ => ?_, can_no (by kernel_rfl), can_no (by kernel_rfl)⟩)
     ·intro ρ w' hbw ht hcs hfn hgl hpr hdep G hG
      replace hbw : Below w6.heap.size w6 w' := hbw
      refine ⟨fun _ => ?_, fun h => by cases h⟩
      have s47 : ρ (.tmp 47) = .slice (some ⟨tb, toff, none⟩) x.2.length vc := hdep ⟨4, .data⟩ (by simp) rfl 47 rfl
      have s52 : ρ (.tmp 52) = .int .i64 ix := hdep ⟨9, .data⟩ (by simp) rfl 52 rfl
      clear ht hdep hgl hpr
      go_simp
      exact hG _ _ (Below.refl _ _) rfl
    ·refine .inr (.inr ⟨fun _ => ?_, can_no (by kernel_rfl), can_no (by kernel_rfl)⟩)
     ·intro ρ w' hbw ht hcs hfn hgl hpr hdep G hG
      replace hbw : Below w6.heap.size w6 w' := hbw
      refine ⟨fun _ => ?_, fun h => by cases h⟩
      have s53 : ρ (.tmp 53) = .pointer (some ⟨tb, toff + ix * 2, none⟩) := hdep ⟨10, .data⟩ (by simp) rfl 53 rfl
      clear ht hdep hgl hpr
      go_simp
      exact hG _ _ (Below.refl _ _) rfl
    ·refine .inr (.inr ⟨fun _ => ?_, can_no (by kernel_rfl), can_no (by kernel_rfl)⟩)
     ·intro ρ w' hbw ht hcs hfn hgl hpr hdep G hG
      replace hbw : Below w6.heap.size w6 w' := hbw
      refine ⟨fun _ => ?_, fun h => by cases h⟩
      have s54 : ρ (.tmp 54) = .pointer (some ⟨tb, toff + ix * 2, none⟩) := hdep ⟨11, .data⟩ (by simp) rfl 54 rfl
      have d0 := cell_later hbw d0
      have g1 := cell_later hbw g1
      have f0 := cell_later hbw f0
      clear ht hdep hgl hpr
      go_simp
      exact hG _ _ (Below.refl _ _) rfl
    ·refine .inr (.inr ⟨fun _ => ?_, can_no (by kernel_rfl), can_no (by kernel_rfl)⟩)
     ·intro ρ w' hbw ht hcs hfn hgl hpr hdep G hG
      replace hbw : Below w6.heap.size w6 w' := hbw
      refine ⟨fun _ => ?_, fun h => by cases h⟩
      have s10 : ρ (.tmp 10) = .int .i64 (mcst + Q) := ht 10 rfl
      clear ht hdep hgl hpr
      go_simp
      exact hG _ _ (Below.refl _ _) rfl
    ·exact .inl rfl
    ·exact .inr (.inl rfl)
    ·refine .inr (.inr ⟨can_no (by kernel_rfl), can_no (by kernel_rfl), fun _ => ?_⟩)
     ·intro ρ w' hbw ht hcs hfn hgl hpr hdep G hG
      refine ⟨fun _ => ?_, fun h => by cases h⟩
      have d58 := hdep ⟨15, .data⟩ (by simp) rfl 58 rfl
      clear ht hdep hgl hpr
      go_simp
      exact hG _ _ (Below.refl _ _) d58
   ·intro o ho
    obtain rfl := Option.some.inj ho
    intro ρ w' hbw ht hcs hfn hgl hpr hdep G hG
    replace hbw : Below w6.heap.size w6 w' := hbw
    refine ⟨fun _ => ?_, fun h => by cases h⟩
    have s55 : ρ (.tmp 55) = .string t.1 := hdep ⟨12, .data⟩ (by simp) rfl 55 rfl
    have s56 : ρ (.tmp 56) = .int .i64 (mcst + Q) := hdep ⟨13, .data⟩ (by simp) rfl 56 rfl
    clear ht hdep hgl hpr
    go_simp
    refine hG _ _ hbw rfl ?_
    intro j u hj hne h
    match j, h with
    | 0, h => exact h
    | 1, h => exact h
    | 2, h => exact h
    | 3, h => exact h
    | 4, h => exact h
    | 5, h => exact h
    | 6, h => exact h
    | 7, h => exact h
    | 8, h => exact h
    | 9, h => exact h
    | 10, h => exact h
    | 11, h => exact h
    | 12, h => exact h
    | 13, h => exact h
    | 14, h => exact absurd rfl hne
    | 15, h => exact trivial
    | 16, h => exact h
    | (k + 17), h => exact h
   ·intro o ho
    obtain rfl := Option.some.inj ho
    intro ρ w' hbw ht hcs hfn hgl hpr hdep G hG
    replace hbw : Below w6.heap.size w6 w' := hbw
    refine ⟨fun _ => ?_, fun h => by cases h⟩
    have s43 : ρ (.tmp 43) = .slice la n lc := hdep ⟨0, .data⟩ (by simp) rfl 43 rfl
    have d57 := hdep ⟨14, .data⟩ (by simp) rfl 57 rfl
    clear ht hdep hgl hpr
    replace d57 : ρ (.tmp 57) = .agg #[.string t.1, .int .i64 (mcst + Q)] := d57
    go_simp
    refine (CI6 w' hbw).mono fun e w'' ⟨u, he, hA2, hb2⟩ => ⟨_, he, hG _ _ (hbl6.trans ((hbw.trans (hb2.mono hbw.size)).mono hs6)) hA2 ?_⟩
    intro j u hj hne hru h
    match j, h with
    | 0, h => exact h
    | 1, h => exact h
    | 2, h => exact h
    | 3, h => exact h
    | 4, h => exact h
    | 5, h => exact h
    | 6, h => exact h
    | 7, h => exact h
    | 8, h => exact h
    | 9, h => exact h
    | 10, h => exact h
    | 11, h => exact h
    | 12, h => exact h
    | 13, h => exact h
    | 14, h => exact h
    | 15, h => exact absurd rfl hne
    | 16, h => exact h.elim
    | (k + 17), h => exact h
   intro xx w7 hF hx
   have HW := hx 16 (by simp)
   clear hx
   simp only [putAll, Act.put, List.setIfInBounds_toArray, List.set_cons_succ, List.set_cons_zero, Nat.zero_add, Nat.reduceAdd]
   have HWW := hid HW
   clear HW CI6
   generalize xx 16 = u' at *
   generalize xx 15 = u8' at *
   generalize xx 14 = u9' at *
   go_wp2_with fail
   go_roundw
   case rel => exact ⟨k + 1, by omega, by go_num, by rw [← HT.out]; exact HWW.out, hF⟩
   case measure => simp [intOf]; omega
  ·have hli : ¬ ((k : Int) < (MS.length : Int)) := by omega
   obtain rfl : k = MS.length := by omega
   have CL := l13First_any _ (insTo x.2 Q MS MS.length) most w5 hA (by omega) hm
   obtain ⟨L, hL⟩ : ∃ L, L = insTo x.2 Q MS MS.length := ⟨_, rfl⟩
   rw [← hL] at hA CL HR hil
   obtain ⟨la, lc, hla⟩ := hA.isSlice
   subst hla
   clear hL
   go_wp2_with fail
   refine CL.mono ?_
   rintro e w7 ⟨u, rfl, hoU, hb7⟩
   go_wp2_with fail
   go_ret
   exact ⟨_, rfl, by rw [HR.out]; exact hoU.mono hb5.size, hb5.trans (hb7.mono hb5.size)⟩
end Go.Proofs.YtlnoelbeaolikaaGreat
namespace Go.Proofs.YtlnoelbeaolikaaGreat
open Go.RowKit
theorem infHypR : (Tryz.prog.info? 76).map (fun i => (i.zero, i.size, i.bytes)) = some (some (.agg #[.string ByteArray.empty, .int .i64 0]), eHyp.sz, 24) := by kernel_rfl
set_option maxRecDepth 100000 in
set_option maxHeartbeats 8000000 in
theorem recognized_any (vs vi : Value) (x : XStore) (X : XInk) (q most : Nat) (pen : Int) (w : World) (hs : Tmps w vs x.2) (hi : Strokes w vi X) (ok : okInk X) (hvs : validStore x = true) (hvi : validInk X = true) (h0 : 0 < X.length) (hq : 1 ≤ q) (hq2 : q ≤ 23) (hm : most ≤ 8) (hp0 : 0 ≤ pen) (hp1 : pen ≤ 1000) (hf : X.length * (q + 1) ≤ 72) :
  Calls Tryz.prog 35 #[.agg #[.int .i64 x.1, vs], .agg #[vi], .agg #[.int .i64 (q + 1), .int .i64 most, .int .i64 pen]] w (RetOwn eHyp 76 (hypsI x X q pen most) w) := by
 have hX16 := validInk_len hvi
 obtain ⟨bs1, bs2, bs3⟩ := validStore_bd hvs
 have hFl := featsI_len X q
 have hF1 : 1 ≤ (featsI X q).length := by
  rw [hFl]
  have := Nat.mul_le_mul h0 (show 1 ≤ q + 1 by omega)
  omega
 have oF := featsI_ok hvi h0 hq
 have hmb := mat_bd hvs oF hF1 (by rw [hFl]; exact hf) (r := x.1.toNat) x.2.length (Nat.le_refl _)
 have hml := matTo_len x.2 (featsI X q) x.1.toNat x.2.length
 have HM := hid (show matTo x.2 (featsI X q) x.1.toNat x.2.length = matI x X q from rfl)
 obtain ⟨va, vc, rfl⟩ := tmps_arr hs
 obtain ⟨ia, ic, rfl⟩ := nest_sl hi
 obtain ⟨Q, hQ⟩ : ∃ Q, Q = pen * ((X.length : Int) - 1) := ⟨_, rfl⟩
 have hQ0 : 0 ≤ Q := by rw [hQ]; exact Int.mul_nonneg hp0 (by omega)
 have hQ1 : Q ≤ 15000 := by
  rw [hQ]
  have := Int.mul_le_mul (show pen ≤ 1000 by omega) (show (X.length : Int) - 1 ≤ 15 by omega) (by omega) (by omega)
  omega
 have HR := hid (show hypsI x X q pen most = (insTo x.2 Q (matI x X q) (matI x X q).length).take most by rw [hQ]; rfl)
 have hQe : pen * ((X.length : Int) - 1) = Q := hQ.symm
 have HFL := hid hFl
 have HFF := hid hf
 clear hFl hQ hf
 obtain ⟨W, hW⟩ : ∃ u, u = (((w.alloc (.cells #[.int .i64 x.1, .slice va x.2.length vc] 37)).alloc (.cells #[.slice ia X.length ic] 41)).alloc (.cells #[.int .i64 (q + 1), .int .i64 most, .int .i64 pen] 43)) := ⟨_, rfl⟩
 have hbW : Below w.heap.size w W := by rw [hW]; exact belowA3 _ _ _ _
 have q1 : Box W (w.heap.size) #[.int .i64 x.1, .slice va x.2.length vc] 37 := by
  have hq := Box.new w #[.int .i64 x.1, .slice va x.2.length vc] 37
  rw [hW]
  exact ((hq.alloc _).alloc _)
 have q2 : Box W (w.heap.size + 1) #[.slice ia X.length ic] 41 := by
  have hq := Box.new (w.alloc (.cells #[.int .i64 x.1, .slice va x.2.length vc] 37)) #[.slice ia X.length ic] 41
  simp at hq
  rw [hW]
  exact (hq.alloc _)
 have q3 : Box W (w.heap.size + 1 + 1) #[.int .i64 (q + 1), .int .i64 most, .int .i64 pen] 43 := by
  have hq := Box.new ((w.alloc (.cells #[.int .i64 x.1, .slice va x.2.length vc] 37)).alloc (.cells #[.slice ia X.length ic] 41)) #[.int .i64 (q + 1), .int .i64 most, .int .i64 pen] 43
  simp at hq
  rw [hW]
  exact hq
 obtain ⟨p1, hp1⟩ : ∃ p, p = w.heap.size := ⟨_, rfl⟩
 rw [← hp1] at q1
 have hge1 : w.heap.size ≤ p1 := by omega
 obtain ⟨p2, hp2⟩ : ∃ p, p = w.heap.size + 1 := ⟨_, rfl⟩
 rw [← hp2] at q2
 have hge2 : w.heap.size ≤ p2 := by omega
 obtain ⟨p3, hp3⟩ : ∃ p, p = w.heap.size + 1 + 1 := ⟨_, rfl⟩
 rw [← hp3] at q3
 have hge3 : w.heap.size ≤ p3 := by omega
 have hlW : w.heap.size ≤ W.heap.size := hbW.size
 have hlp1 : p1 < W.heap.size := q1.lt
 have hlp2 : p2 < W.heap.size := q2.lt
 have hlp3 : p3 < W.heap.size := q3.lt
 have hne12 : p1 ≠ p2 := by omega
 have hne13 : p1 ≠ p3 := by omega
 have hne23 : p2 ≠ p3 := by omega
 have HP1 := hid hp1
 have HP2 := hid hp2
 have HP3 := hid hp3
 have HW := hid hW
 clear hW hp1 hp2 hp3
 have s0 := q1.cell (j := 0) rfl
 have s1 := q1.cell (j := 1) rfl
 have i0 := q2.cell (j := 0) rfl
 have t0 := q3.cell (j := 0) rfl
 have t1 := q3.cell (j := 1) rfl
 have t2 := q3.cell (j := 2) rfl
 have CF := FeatsOf_any (.slice ia X.length ic) X q W (hi.below hbW) ok hvi h0 hq hq2
 go_enter Tryz.func35, Tryz.ntmps35
 go_upto_region 1 with fail
 rw [← HP3.out, ← HP2.out, ← HP1.out, ← HW.out]
 go_wp2_with fail
 refine CF.mono ?_
 rintro e w2 ⟨uF, rfl, hoF, hb2⟩
 have s0b := cell_later hb2 s0
 have s1b := cell_later hb2 s1
 have i0b := cell_later hb2 i0
 have t2b := cell_later hb2 t2
 have hbw2 := hbW.trans (hb2.mono hlW)
 have CM := matchesOf_any (.slice va x.2.length vc) uF x (featsI X q) w2 (hs.below hbw2) hoF.arr hvs oF hF1 (by rw [HFL.out]; exact HFF.out)
 rw [HM.out] at CM hmb hml
 obtain ⟨MS, hMS⟩ : ∃ M, M = matI x X q := ⟨_, rfl⟩
 rw [← hMS] at CM HR hmb hml
 have HMB := hid hmb
 obtain ⟨fa, fc, huF⟩ := hoF.isSlice
 subst huF
 clear hMS hmb CF
 go_wp2_with fail
 refine CM.mono ?_
 rintro e w3 ⟨uM, rfl, hoM, hb3⟩
 have hb23 := hb2.trans (hb3.mono hb2.size)
 obtain ⟨ma, mc, huM⟩ := hoM.isSlice
 subst huM
 obtain ⟨mb, moff, mao, mcap, hmv, hmn, hmm, hma, hmc⟩ := hoM.arr
 simp only [Value.slice.injEq] at hmv
 obtain ⟨rfl, _, rfl⟩ := hmv
 unfold maxLen at hmm
 have ho3 : Own eHyp 76 w3.heap.size w3 (.slice none 0 0) (hypTo x.2 Q MS 0) := Own.nil _ _ _
 clear CM hoF hoM
 go_upto_region 5 with fail
 go_loopw [10, 31] (fun u i wr => ∃ k : Nat, k ≤ MS.length ∧ i = .int .i64 k ∧ Own eHyp 76 w3.heap.size wr u (hypTo x.2 Q MS k) ∧ Below w3.heap.size w3 wr) (fun _ i _ => MS.length - (intOf i).toNat)
 case atStart => exact ⟨0, Nat.zero_le _, rfl, ho3, Below.refl _ _⟩
 case round =>
  clear ho3
  obtain ⟨w5, rfl⟩ : ∃ u, u = wr := ⟨wr, rfl⟩
  obtain ⟨k, hk, rfl, ho, hbl⟩ := hrel
  have hb5 := hb23.trans (hbl.mono hb23.size)
  have hhl := hypTo_len (X := x.2) (Q := Q) hk
  have c1 := cell_later hb5 t1
  have hls := hbl.size
  by_cases hlt : k < MS.length
  ·have hli : (k : Int) < (MS.length : Int) := by omega
   obtain ⟨hma', hmw⟩ := hma (by omega)
   subst hma'
   obtain ⟨m, hmk⟩ : ∃ m, MS[k]? = some m := ⟨_, List.getElem?_eq_getElem hlt⟩
   obtain ⟨ix, hix, hixl, hc0, hc1⟩ := HMB.out m (List.mem_of_getElem? hmk)
   obtain ⟨mx, mcst⟩ := m
   simp only at hix hc0 hc1
   subst hix
   obtain ⟨t, ht⟩ : ∃ t, x.2[ix]? = some t := ⟨_, List.getElem?_eq_getElem hixl⟩
   obtain ⟨d0, d1⟩ := eMatch_cells (hmc.below hbl hmw) hmk
   simp only at d0 d1
   have hbw5 := hbW.trans (hb5.mono hlW)
   obtain ⟨tb, toff, tc, sa, sc, hsl, _, _, f0, f1, _⟩ := (hs.below hbw5).get ht
   simp only [Value.slice.injEq] at hsl
   obtain ⟨rfl, _, rfl⟩ := hsl
   have g1 := cell_later hb5 s1
   have hixi : (ix : Int) < (x.2.length : Int) := by omega
   have HT := hid (hypTo_push (X := x.2) (Q := Q) hmk)
   rw [hypM_eq ht] at HT
   have wq3 : IntKind.i64.wrap (mcst + Q) = mcst + Q := IntWalk.i64_in _ (by omega)
   obtain ⟨Z, hZ⟩ : ∃ Z, Z = hypTo x.2 Q MS k := ⟨_, rfl⟩
   rw [← hZ] at ho HT hhl
   obtain ⟨oa, oc, hu⟩ := ho.isSlice
   rw [hhl] at hu
   subst hu
   have HL := hid hhl
   clear hZ hmk ht hhl
   go_upto_region 7 with fail
   obtain ⟨w6, hw6⟩ : ∃ u, u = w5.alloc (.cells #[.int .i64 ix, .int .i64 mcst] 120) := ⟨_, rfl⟩
   obtain ⟨pS, hpS⟩ : ∃ p, p = w5.heap.size := ⟨_, rfl⟩
   rw [← hw6, ← hpS]
   have hb6 : Below w5.heap.size w5 w6 := by rw [hw6]; exact below_alloc _ _
   have qS : Box w6 pS #[.int .i64 ix, .int .i64 mcst] 120 := by rw [hw6, hpS]; exact Box.new _ _ _
   have y0 := qS.cell (j := 0) rfl
   have y1 := qS.cell (j := 1) rfl
   have g1 := cell_later hb6 g1
   have f0 := cell_later hb6 f0
   have hoZ := ho.below hb6
   have hbl6 := hbl.trans (hb6.mono hls)
   have hs6 := hbl6.size
   clear hw6 hpS ho d0 d1
   refine wp_region_stgy 12 14 (fun c w' => match c with | 0 => Below w6.heap.size w6 w' | 1 => Below w6.heap.size w6 w' | _ => Below w3.heap.size w3 w') (fun c i v w' => match i with
         | 0 => v = .slice oa k oc
         | 1 => v = .pointer (some ⟨p1, 1, none⟩)
         | 2 => v = .slice (some ⟨tb, toff, none⟩) x.2.length vc
         | 3 => v = .pointer (some ⟨pS, 0, none⟩)
         | 4 => v = .int .i64 ix
         | 5 => v = .pointer (some ⟨tb, toff + ix * 2, none⟩)
         | 6 => v = .pointer (some ⟨tb, toff + ix * 2, none⟩)
         | 7 => v = .string t.1
         | 8 => v = .pointer (some ⟨pS, 1, none⟩)
         | 9 => v = .int .i64 mcst
         | 10 => v = .int .i64 Q
         | 11 => v = .int .i64 (mcst + Q)
         | 12 => (match c with | 0 => True | 1 => v = .agg #[.string t.1, .int .i64 (mcst + Q)] | _ => v = .agg #[.string t.1, .int .i64 (mcst + Q)])
         | 13 => (match c with | 0 => False | 1 => Arr eHyp w' v [⟨t.1, mcst + Q⟩] | _ => True)
         | 14 => (match c with | 0 => True | 1 => True | _ => (Own eHyp 76 w3.heap.size w' v (Z ++ [⟨t.1, mcst + Q⟩])))
         | 15 => (match c with | 0 => False | 1 => False | _ => Own eHyp 76 w3.heap.size w' v (Z ++ [⟨t.1, mcst + Q⟩]))
         | _ => True) (by kernel_rfl) (by kernel_rfl) (by kernel_rfl) (by kernel_rfl) (by kernel_rfl) ?_ ?_ ?_ ?_ ?_ ?_ (by decide) ?_
   ·exact (Below.refl _ w6).drew
   ·intro c w w' h hb
    match c, h with
    | 0, h => exact Below.trans (B := w6.heap.size) h (hb.mono (Below.size h))
    | 1, h => exact Below.trans (B := w6.heap.size) h (hb.mono (Below.size h))
    | (k + 2), h => exact (h.trans (hb.mono h.size))
   ·intro c i v w w' h hb
    match i, h with
    | 0, h => exact h
    | 1, h => exact h
    | 2, h => exact h
    | 3, h => exact h
    | 4, h => exact h
    | 5, h => exact h
    | 6, h => exact h
    | 7, h => exact h
    | 8, h => exact h
    | 9, h => exact h
    | 10, h => exact h
    | 11, h => exact h
    | 12, h =>
     match c, h with
     | 0, h => exact trivial
     | 1, h => exact h
     | (k + 2), h => exact h
    | 13, h =>
     match c, h with
     | 0, h => exact h
     | 1, h => exact (h.below hb)
     | (k + 2), h => exact trivial
    | 14, h =>
     match c, h with
     | 0, h => exact trivial
     | 1, h => exact trivial
     | (k + 2), h => exact (h.below hb)
    | 15, h =>
     match c, h with
     | 0, h => exact h
     | 1, h => exact h
     | (k + 2), h => exact (h.below hb)
    | (k + 16), h => exact h
   ·refine ⟨?_, ?_, ?_, ?_, ?_, ?_, ?_, ?_, ?_, ?_, ?_, ?_, ?_, ?_, ?_, ?_, trivial⟩
    ·refine .inr (.inr ⟨fun _ => ?_, fun _ => ?_, can_no (by kernel_rfl)⟩)
     ·intro ρ w' hbw ht hcs hfn hgl hpr hdep G hG
      replace hbw : Below w6.heap.size w6 w' := hbw
      refine ⟨fun _ => ?_, fun h => by cases h⟩
      have s10 : ρ (.tmp 10) = .slice oa k oc := hpr 15 10 rfl (by kernel_rfl)
      clear ht hdep hgl hpr
      go_simp
      exact hG _ _ (Below.refl _ _) rfl
     ·intro ρ w' hbw ht hcs hfn hgl hpr hdep G hG
      replace hbw : Below w6.heap.size w6 w' := hbw
      refine ⟨fun _ => ?_, fun h => by cases h⟩
      have s10 : ρ (.tmp 10) = .slice oa k oc := hpr 15 10 rfl (by kernel_rfl)
      clear ht hdep hgl hpr
      go_simp
      exact hG _ _ (Below.refl _ _) rfl
    ·refine .inr (.inr ⟨fun _ => ?_, can_no (by kernel_rfl), can_no (by kernel_rfl)⟩)
     ·intro ρ w' hbw ht hcs hfn hgl hpr hdep G hG
      replace hbw : Below w6.heap.size w6 w' := hbw
      refine ⟨fun _ => ?_, fun h => by cases h⟩
      have s3 : ρ (.tmp 3) = .pointer (some ⟨p1, 0, none⟩) := ht 3 rfl
      clear ht hdep hgl hpr
      go_simp
      exact hG _ _ (Below.refl _ _) rfl
    ·refine .inr (.inr ⟨fun _ => ?_, can_no (by kernel_rfl), can_no (by kernel_rfl)⟩)
     ·intro ρ w' hbw ht hcs hfn hgl hpr hdep G hG
      replace hbw : Below w6.heap.size w6 w' := hbw
      refine ⟨fun _ => ?_, fun h => by cases h⟩
      have s36 : ρ (.tmp 36) = .pointer (some ⟨p1, 1, none⟩) := hdep ⟨1, .data⟩ (by simp) rfl 36 rfl
      have y0 := cell_later hbw y0
      have y1 := cell_later hbw y1
      have g1 := cell_later hbw g1
      have f0 := cell_later hbw f0
      clear ht hdep hgl hpr
      go_simp
      exact hG _ _ (Below.refl _ _) rfl
    ·refine .inr (.inr ⟨fun _ => ?_, can_no (by kernel_rfl), can_no (by kernel_rfl)⟩)
     ·intro ρ w' hbw ht hcs hfn hgl hpr hdep G hG
      replace hbw : Below w6.heap.size w6 w' := hbw
      refine ⟨fun _ => ?_, fun h => by cases h⟩
      have s12 : ρ (.tmp 12) = .pointer (some ⟨pS, 0, none⟩) := ht 12 rfl
      clear ht hdep hgl hpr
      go_simp
      exact hG _ _ (Below.refl _ _) rfl
    ·refine .inr (.inr ⟨fun _ => ?_, can_no (by kernel_rfl), can_no (by kernel_rfl)⟩)
     ·intro ρ w' hbw ht hcs hfn hgl hpr hdep G hG
      replace hbw : Below w6.heap.size w6 w' := hbw
      refine ⟨fun _ => ?_, fun h => by cases h⟩
      have s38 : ρ (.tmp 38) = .pointer (some ⟨pS, 0, none⟩) := hdep ⟨3, .data⟩ (by simp) rfl 38 rfl
      have y0 := cell_later hbw y0
      have y1 := cell_later hbw y1
      have g1 := cell_later hbw g1
      have f0 := cell_later hbw f0
      clear ht hdep hgl hpr
      go_simp
      exact hG _ _ (Below.refl _ _) rfl
    ·refine .inr (.inr ⟨fun _ => ?_, can_no (by kernel_rfl), can_no (by kernel_rfl)⟩)
     ·intro ρ w' hbw ht hcs hfn hgl hpr hdep G hG
      replace hbw : Below w6.heap.size w6 w' := hbw
      refine ⟨fun _ => ?_, fun h => by cases h⟩
      have s37 : ρ (.tmp 37) = .slice (some ⟨tb, toff, none⟩) x.2.length vc := hdep ⟨2, .data⟩ (by simp) rfl 37 rfl
      have s39 : ρ (.tmp 39) = .int .i64 ix := hdep ⟨4, .data⟩ (by simp) rfl 39 rfl
      clear ht hdep hgl hpr
      go_simp
      exact hG _ _ (Below.refl _ _) rfl
    ·refine .inr (.inr ⟨fun _ => ?_, can_no (by kernel_rfl), can_no (by kernel_rfl)⟩)
     ·intro ρ w' hbw ht hcs hfn hgl hpr hdep G hG
      replace hbw : Below w6.heap.size w6 w' := hbw
      refine ⟨fun _ => ?_, fun h => by cases h⟩
      have s40 : ρ (.tmp 40) = .pointer (some ⟨tb, toff + ix * 2, none⟩) := hdep ⟨5, .data⟩ (by simp) rfl 40 rfl
      clear ht hdep hgl hpr
      go_simp
      exact hG _ _ (Below.refl _ _) rfl
    ·refine .inr (.inr ⟨fun _ => ?_, can_no (by kernel_rfl), can_no (by kernel_rfl)⟩)
     ·intro ρ w' hbw ht hcs hfn hgl hpr hdep G hG
      replace hbw : Below w6.heap.size w6 w' := hbw
      refine ⟨fun _ => ?_, fun h => by cases h⟩
      have s41 : ρ (.tmp 41) = .pointer (some ⟨tb, toff + ix * 2, none⟩) := hdep ⟨6, .data⟩ (by simp) rfl 41 rfl
      have y0 := cell_later hbw y0
      have y1 := cell_later hbw y1
      have g1 := cell_later hbw g1
      have f0 := cell_later hbw f0
      clear ht hdep hgl hpr
      go_simp
      exact hG _ _ (Below.refl _ _) rfl
    ·refine .inr (.inr ⟨fun _ => ?_, can_no (by kernel_rfl), can_no (by kernel_rfl)⟩)
     ·intro ρ w' hbw ht hcs hfn hgl hpr hdep G hG
      replace hbw : Below w6.heap.size w6 w' := hbw
      refine ⟨fun _ => ?_, fun h => by cases h⟩
      have s12 : ρ (.tmp 12) = .pointer (some ⟨pS, 0, none⟩) := ht 12 rfl
      clear ht hdep hgl hpr
      go_simp
      exact hG _ _ (Below.refl _ _) rfl
    ·refine .inr (.inr ⟨fun _ => ?_, can_no (by kernel_rfl), can_no (by kernel_rfl)⟩)
     ·intro ρ w' hbw ht hcs hfn hgl hpr hdep G hG
      replace hbw : Below w6.heap.size w6 w' := hbw
      refine ⟨fun _ => ?_, fun h => by cases h⟩
      have s43 : ρ (.tmp 43) = .pointer (some ⟨pS, 1, none⟩) := hdep ⟨8, .data⟩ (by simp) rfl 43 rfl
      have y0 := cell_later hbw y0
      have y1 := cell_later hbw y1
      have g1 := cell_later hbw g1
      have f0 := cell_later hbw f0
      clear ht hdep hgl hpr
      go_simp
      exact hG _ _ (Below.refl _ _) rfl
    ·refine .inr (.inr ⟨fun _ => ?_, can_no (by kernel_rfl), can_no (by kernel_rfl)⟩)
     ·intro ρ w' hbw ht hcs hfn hgl hpr hdep G hG
      replace hbw : Below w6.heap.size w6 w' := hbw
      refine ⟨fun _ => ?_, fun h => by cases h⟩
      have s9 : ρ (.tmp 9) = .int .i64 Q := ht 9 rfl
      clear ht hdep hgl hpr
      go_simp
      exact hG _ _ (Below.refl _ _) rfl
    ·refine .inr (.inr ⟨fun _ => ?_, can_no (by kernel_rfl), can_no (by kernel_rfl)⟩)
     ·intro ρ w' hbw ht hcs hfn hgl hpr hdep G hG
      replace hbw : Below w6.heap.size w6 w' := hbw
      refine ⟨fun _ => ?_, fun h => by cases h⟩
      have s44 : ρ (.tmp 44) = .int .i64 mcst := hdep ⟨9, .data⟩ (by simp) rfl 44 rfl
      have s45 : ρ (.tmp 45) = .int .i64 Q := hdep ⟨10, .data⟩ (by simp) rfl 45 rfl
      clear ht hdep hgl hpr
      go_simp
      exact hG _ _ (Below.refl _ _) rfl
    ·exact .inl rfl
    ·refine .inr (.inr ⟨can_no (by kernel_rfl), fun _ => ?_, can_no (by kernel_rfl)⟩)
     ·intro ρ w' hbw ht hcs hfn hgl hpr hdep G hG
      replace hbw : Below w6.heap.size w6 w' := hbw
      refine ⟨fun _ => ?_, fun h => by cases h⟩
      have d47 := hdep ⟨12, .data⟩ (by simp) rfl 47 rfl
      clear ht hdep hgl hpr
      replace d47 : ρ (.tmp 47) = .agg #[.string t.1, .int .i64 (mcst + Q)] := d47
      go_simp
      exact hG _ _ (below_alloc _ _) (arr_block1 (E := eHyp) (n := 1) [⟨t.1, mcst + Q⟩] #[.string t.1, .int .i64 (mcst + Q)] rfl rfl (by decide) (by simp))
    ·exact .inr (.inl rfl)
    ·refine .inr (.inr ⟨can_no (by kernel_rfl), can_no (by kernel_rfl), fun _ => ?_⟩)
     ·intro ρ w' hbw ht hcs hfn hgl hpr hdep G hG
      refine ⟨fun _ => ?_, fun h => by cases h⟩
      have d49 := hdep ⟨14, .data⟩ (by simp) rfl 49 rfl
      clear ht hdep hgl hpr
      go_simp
      exact hG _ _ (Below.refl _ _) d49
   ·intro o ho
    obtain rfl := Option.some.inj ho
    intro ρ w' hbw ht hcs hfn hgl hpr hdep G hG
    replace hbw : Below w6.heap.size w6 w' := hbw
    refine ⟨fun _ => ?_, fun h => by cases h⟩
    have s42 : ρ (.tmp 42) = .string t.1 := hdep ⟨7, .data⟩ (by simp) rfl 42 rfl
    have s46 : ρ (.tmp 46) = .int .i64 (mcst + Q) := hdep ⟨11, .data⟩ (by simp) rfl 46 rfl
    clear ht hdep hgl hpr
    go_simp
    refine hG _ _ hbw rfl ?_
    intro j u hj hne h
    match j, h with
    | 0, h => exact h
    | 1, h => exact h
    | 2, h => exact h
    | 3, h => exact h
    | 4, h => exact h
    | 5, h => exact h
    | 6, h => exact h
    | 7, h => exact h
    | 8, h => exact h
    | 9, h => exact h
    | 10, h => exact h
    | 11, h => exact h
    | 12, h => exact absurd rfl hne
    | 13, h => exact h.elim
    | 14, h => exact trivial
    | 15, h => exact h
    | (k + 16), h => exact h
   ·intro o ho
    obtain rfl := Option.some.inj ho
    intro ρ w' hbw ht hcs hfn hgl hpr hdep G hG
    replace hbw : Below w6.heap.size w6 w' := hbw
    refine ⟨fun _ => ?_, fun h => by cases h⟩
    have s35 : ρ (.tmp 35) = .slice oa k oc := hdep ⟨0, .data⟩ (by simp) rfl 35 rfl
    have d48 := hdep ⟨13, .data⟩ (by simp) rfl 48 rfl
    clear ht hdep hgl hpr
    refine upon_appO _ _ 32 (by rfl) w3.heap.size 76 _ 24 infHypR Tryz.underlying32 rfl _ Z s35 (hoZ.below hbw) [⟨t.1, mcst + Q⟩] d48 (by rw [HL.out]; unfold maxLen; simp <;> omega) (by rw [HL.out]; simp <;> omega) (by have := hbw.size; omega) ?_
    intro v' wA hoA hgA hlA
    refine hG _ _ ((hbl6.trans (hbw.mono hs6)).grown hgA (by have := hbw.size; omega) (fun kk hh => (World.ownsRow.lt (hoZ.below hbw) kk hh).1)) hoA ?_
    intro j u hj hne hru h
    match j, h with
    | 0, h => exact h
    | 1, h => exact h
    | 2, h => exact h
    | 3, h => exact h
    | 4, h => exact h
    | 5, h => exact h
    | 6, h => exact h
    | 7, h => exact h
    | 8, h => exact h
    | 9, h => exact h
    | 10, h => exact h
    | 11, h => exact h
    | 12, h => exact h
    | 13, h => exact trivial
    | 14, h => exact absurd rfl hne
    | 15, h => exact h.elim
    | (k + 16), h => exact h
   intro xx w7 hF hx
   have HW := hx 15 (by simp)
   clear hx
   simp only [putAll, Act.put, List.setIfInBounds_toArray, List.set_cons_succ, List.set_cons_zero, Nat.zero_add, Nat.reduceAdd]
   have HWW := hid HW
   clear HW
   generalize xx 15 = u' at *
   generalize xx 14 = u8' at *
   generalize xx 13 = u9' at *
   generalize xx 12 = u10' at *
   go_wp2_with fail
   go_roundw
   case rel => exact ⟨k + 1, by omega, by go_num, by rw [← HT.out]; exact HWW.out, hF⟩
   case measure => simp [intOf]; omega
  ·have hli : ¬ ((k : Int) < (MS.length : Int)) := by omega
   obtain rfl : k = MS.length := by omega
   obtain ⟨Z, hZ⟩ : ∃ Z, Z = hypTo x.2 Q MS MS.length := ⟨_, rfl⟩
   rw [← hZ] at ho hhl
   have HZ := hid hZ
   have CL := hypsOf_any _ Z most w5 ho.arr hm (by omega)
   obtain ⟨oa, oc, hu⟩ := ho.isSlice
   rw [hhl] at hu
   subst hu
   have hbw5 := hbW.trans (hb5.mono hlW)
   have HLW := hid hlW
   clear hZ hhl ho hs hi oF hvs hvi HM HMB hmc hma
   go_wp2_with fail
   refine CL.mono ?_
   rintro e w7 ⟨Y, hpY, hupY, u, rfl, hoU, hb7⟩
   have hde := dedup_ins hpY hupY
   rw [HZ.out] at hde
   clear hpY hupY
   go_wp2_with fail
   go_ret
   refine ⟨_, rfl, ?_, hbw5.trans (hb7.mono hbw5.size)⟩
   rw [HR.out]
   rw [hde] at hoU
   exact hoU.mono hbw5.size
end Go.Proofs.YtlnoelbeaolikaaGreat
namespace Go.Proofs.YtlnoelbeaolikaaGreat
open Go.RowKit
attribute [local go_sem ↓] Go.wp_at_zero Go.wp_at_succ
end Go.Proofs.YtlnoelbeaolikaaGreat
namespace Go.Proofs.YtlnoelbeaolikaaGreat
open Go.RowKit
def ordE (a b : DEdge) : Int := if a.frm ≠ b.frm then cmpI a.frm b.frm else if a.to_ ≠ b.to_ then cmpI a.to_ b.to_ else cmpB a.label b.label
theorem ordE_or (a b : DEdge) : orL [cmpI a.frm b.frm, cmpI a.to_ b.to_, cmpB a.label b.label] = ordE a b := by
 unfold ordE
 by_cases h1 : a.frm = b.frm
 ·rw [if_neg (by simpa using h1), h1, orL, if_pos (cmpI_self _)]
  by_cases h2 : a.to_ = b.to_
  ·rw [if_neg (by simpa using h2), h2, orL, if_pos (cmpI_self _), orL]
   split
   ·rename_i h; rw [h]; rfl
   ·rfl
  ·rw [if_pos h2, orL, if_neg (cmpI_ne h2)]
 ·rw [if_pos h1, orL, if_neg (cmpI_ne h1)]
set_option maxHeartbeats 400000 in
theorem l15Sign_any (a b : Int) (w : World) : Calls Tryz.prog 163 #[.int .i64 a, .int .i64 b] w fun e w' => e = .returned (.int .i64 (cmpI a b)) ∧ w = w' := by
 by_cases h1 : a < b <;> by_cases h2 : b < a
 all_goals
  go_enter Tryz.func163, Tryz.ntmps163
  go_wp2
  go_ret
  exact ⟨ret_i (by unfold cmpI; split <;> (try split) <;> omega), rfl⟩
set_option maxHeartbeats 1000000 in
theorem l15Order_any (p o q r : Nat) (a b : DEdge) (w : World) (c0 : w.cell? ⟨p, o, none⟩ = some (.int .i64 a.frm)) (c1 : w.cell? ⟨p, o + 1, none⟩ = some (.int .i64 a.to_)) (c2 : w.cell? ⟨p, o + 2, none⟩ = some (.string a.label))
  (d0 : w.cell? ⟨q, r, none⟩ = some (.int .i64 b.frm)) (d1 : w.cell? ⟨q, r + 1, none⟩ = some (.int .i64 b.to_)) (d2 : w.cell? ⟨q, r + 2, none⟩ = some (.string b.label)) :
  Calls Tryz.prog 119 #[.pointer (some ⟨p, o, none⟩), .pointer (some ⟨q, r, none⟩)] w (Ret (.int .i64 (ordE a b)) w) := by
 have hb : Below w.heap.size w w := Below.refl _ _
 by_cases h1 : a.frm = b.frm
 case neg =>
  have e1 : (a.frm != b.frm) = true := by rw [bne_iff_ne]; exact h1
  have HO : Hid (ordE a b = cmpI a.frm b.frm) := by show ordE a b = _; rw [ordE, if_pos h1]
  clear h1
  go_enter Tryz.func119, Tryz.ntmps119
  go_wp2
  have x_c0 := ext_cell c0
  have x_c1 := ext_cell c1
  have x_c2 := ext_cell c2
  have x_d0 := ext_cell d0
  have x_d1 := ext_cell d1
  have x_d2 := ext_cell d2
  refine wp_region_ext (by kernel_rfl) (by kernel_rfl) ?_
  repeat (go_big_quiet_step (fail))
  refine wpQuiet_nil ?_
  intro _ hw'
  obtain ⟨n1, hw''⟩ := hw'
  subst hw''
  replace c0 := x_c0 n1
  replace c1 := x_c1 n1
  replace c2 := x_c2 n1
  replace d0 := x_d0 n1
  replace d1 := x_d1 n1
  replace d2 := x_d2 n1
  clear x_c0 x_c1 x_c2 x_d0 x_d1 x_d2
  replace hb := hb.trans ((ext_below _ n1).mono hb.size)
  go_wp2
  have x_c0 := ext_cell c0
  have x_c1 := ext_cell c1
  have x_c2 := ext_cell c2
  have x_d0 := ext_cell d0
  have x_d1 := ext_cell d1
  have x_d2 := ext_cell d2
  refine wp_region_ext (by kernel_rfl) (by kernel_rfl) ?_
  repeat (go_big_quiet_step ((go_at_call 163; exact same_ext (l15Sign_any _ _ _))))
  refine wpQuiet_nil ?_
  intro _ hw'
  obtain ⟨n2, hw''⟩ := hw'
  subst hw''
  replace c0 := x_c0 n2
  replace c1 := x_c1 n2
  replace c2 := x_c2 n2
  replace d0 := x_d0 n2
  replace d1 := x_d1 n2
  replace d2 := x_d2 n2
  clear x_c0 x_c1 x_c2 x_d0 x_d1 x_d2
  replace hb := hb.trans ((ext_below _ n2).mono hb.size)
  go_wp2
  go_ret
  exact ret_int HO.out.symm hb
 have e1 : (a.frm != b.frm) = false := by rw [bne_eq_false_iff_eq]; exact h1
 by_cases h2 : a.to_ = b.to_
 case neg =>
  have e2 : (a.to_ != b.to_) = true := by rw [bne_iff_ne]; exact h2
  have HO : Hid (ordE a b = cmpI a.to_ b.to_) := by show ordE a b = _; rw [ordE, if_neg (by simpa using h1), if_pos h2]
  clear h1 h2
  go_enter Tryz.func119, Tryz.ntmps119
  go_wp2
  have x_c0 := ext_cell c0
  have x_c1 := ext_cell c1
  have x_c2 := ext_cell c2
  have x_d0 := ext_cell d0
  have x_d1 := ext_cell d1
  have x_d2 := ext_cell d2
  refine wp_region_ext (by kernel_rfl) (by kernel_rfl) ?_
  repeat (go_big_quiet_step (fail))
  refine wpQuiet_nil ?_
  intro _ hw'
  obtain ⟨n1, hw''⟩ := hw'
  subst hw''
  replace c0 := x_c0 n1
  replace c1 := x_c1 n1
  replace c2 := x_c2 n1
  replace d0 := x_d0 n1
  replace d1 := x_d1 n1
  replace d2 := x_d2 n1
  clear x_c0 x_c1 x_c2 x_d0 x_d1 x_d2
  replace hb := hb.trans ((ext_below _ n1).mono hb.size)
  go_wp2
  have x_c0 := ext_cell c0
  have x_c1 := ext_cell c1
  have x_c2 := ext_cell c2
  have x_d0 := ext_cell d0
  have x_d1 := ext_cell d1
  have x_d2 := ext_cell d2
  refine wp_region_ext (by kernel_rfl) (by kernel_rfl) ?_
  repeat (go_big_quiet_step (fail))
  refine wpQuiet_nil ?_
  intro _ hw'
  obtain ⟨n2, hw''⟩ := hw'
  subst hw''
  replace c0 := x_c0 n2
  replace c1 := x_c1 n2
  replace c2 := x_c2 n2
  replace d0 := x_d0 n2
  replace d1 := x_d1 n2
  replace d2 := x_d2 n2
  clear x_c0 x_c1 x_c2 x_d0 x_d1 x_d2
  replace hb := hb.trans ((ext_below _ n2).mono hb.size)
  go_wp2
  have x_c0 := ext_cell c0
  have x_c1 := ext_cell c1
  have x_c2 := ext_cell c2
  have x_d0 := ext_cell d0
  have x_d1 := ext_cell d1
  have x_d2 := ext_cell d2
  refine wp_region_ext (by kernel_rfl) (by kernel_rfl) ?_
  repeat (go_big_quiet_step ((go_at_call 163; exact same_ext (l15Sign_any _ _ _))))
  refine wpQuiet_nil ?_
  intro _ hw'
  obtain ⟨n3, hw''⟩ := hw'
  subst hw''
  replace c0 := x_c0 n3
  replace c1 := x_c1 n3
  replace c2 := x_c2 n3
  replace d0 := x_d0 n3
  replace d1 := x_d1 n3
  replace d2 := x_d2 n3
  clear x_c0 x_c1 x_c2 x_d0 x_d1 x_d2
  replace hb := hb.trans ((ext_below _ n3).mono hb.size)
  go_wp2
  go_ret
  exact ret_int HO.out.symm hb
 have e2 : (a.to_ != b.to_) = false := by rw [bne_eq_false_iff_eq]; exact h2
 have HO : Hid (ordE a b = cmpB a.label b.label) := by show ordE a b = _; rw [ordE, if_neg (by simpa using h1), if_neg (by simpa using h2)]
 clear h1 h2
 cases h3 : Op.bytesLess a.label.toList b.label.toList
 ·cases h4 : (a.label.toList == b.label.toList)
  all_goals
   go_enter Tryz.func119, Tryz.ntmps119
   go_wp2
   have x_c0 := ext_cell c0
   have x_c1 := ext_cell c1
   have x_c2 := ext_cell c2
   have x_d0 := ext_cell d0
   have x_d1 := ext_cell d1
   have x_d2 := ext_cell d2
   refine wp_region_ext (by kernel_rfl) (by kernel_rfl) ?_
   repeat (go_big_quiet_step (fail))
   refine wpQuiet_nil ?_
   intro _ hw'
   obtain ⟨n1, hw''⟩ := hw'
   subst hw''
   replace c0 := x_c0 n1
   replace c1 := x_c1 n1
   replace c2 := x_c2 n1
   replace d0 := x_d0 n1
   replace d1 := x_d1 n1
   replace d2 := x_d2 n1
   clear x_c0 x_c1 x_c2 x_d0 x_d1 x_d2
   replace hb := hb.trans ((ext_below _ n1).mono hb.size)
   go_wp2
   have x_c0 := ext_cell c0
   have x_c1 := ext_cell c1
   have x_c2 := ext_cell c2
   have x_d0 := ext_cell d0
   have x_d1 := ext_cell d1
   have x_d2 := ext_cell d2
   refine wp_region_ext (by kernel_rfl) (by kernel_rfl) ?_
   repeat (go_big_quiet_step (fail))
   refine wpQuiet_nil ?_
   intro _ hw'
   obtain ⟨n2, hw''⟩ := hw'
   subst hw''
   replace c0 := x_c0 n2
   replace c1 := x_c1 n2
   replace c2 := x_c2 n2
   replace d0 := x_d0 n2
   replace d1 := x_d1 n2
   replace d2 := x_d2 n2
   clear x_c0 x_c1 x_c2 x_d0 x_d1 x_d2
   replace hb := hb.trans ((ext_below _ n2).mono hb.size)
   go_wp2
   have x_c0 := ext_cell c0
   have x_c1 := ext_cell c1
   have x_c2 := ext_cell c2
   have x_d0 := ext_cell d0
   have x_d1 := ext_cell d1
   have x_d2 := ext_cell d2
   refine wp_region_ext (by kernel_rfl) (by kernel_rfl) ?_
   repeat (go_big_quiet_step (fail))
   refine wpQuiet_nil ?_
   intro _ hw'
   obtain ⟨n3, hw''⟩ := hw'
   subst hw''
   replace c0 := x_c0 n3
   replace c1 := x_c1 n3
   replace c2 := x_c2 n3
   replace d0 := x_d0 n3
   replace d1 := x_d1 n3
   replace d2 := x_d2 n3
   clear x_c0 x_c1 x_c2 x_d0 x_d1 x_d2
   replace hb := hb.trans ((ext_below _ n3).mono hb.size)
   go_wp2
   have x_c0 := ext_cell c0
   have x_c1 := ext_cell c1
   have x_c2 := ext_cell c2
   have x_d0 := ext_cell d0
   have x_d1 := ext_cell d1
   have x_d2 := ext_cell d2
   refine wp_region_ext (by kernel_rfl) (by kernel_rfl) ?_
   repeat (go_big_quiet_step (fail))
   refine wpQuiet_nil ?_
   intro _ hw'
   obtain ⟨n4, hw''⟩ := hw'
   subst hw''
   replace c0 := x_c0 n4
   replace c1 := x_c1 n4
   replace c2 := x_c2 n4
   replace d0 := x_d0 n4
   replace d1 := x_d1 n4
   replace d2 := x_d2 n4
   clear x_c0 x_c1 x_c2 x_d0 x_d1 x_d2
   replace hb := hb.trans ((ext_below _ n4).mono hb.size)
   go_wp2
   go_ret
   exact ret_int (by rw [HO.out]; simp [cmpB, ltB, eqS, h3, h4]) hb
 ·go_enter Tryz.func119, Tryz.ntmps119
  go_wp2
  have x_c0 := ext_cell c0
  have x_c1 := ext_cell c1
  have x_c2 := ext_cell c2
  have x_d0 := ext_cell d0
  have x_d1 := ext_cell d1
  have x_d2 := ext_cell d2
  refine wp_region_ext (by kernel_rfl) (by kernel_rfl) ?_
  repeat (go_big_quiet_step (fail))
  refine wpQuiet_nil ?_
  intro _ hw'
  obtain ⟨n1, hw''⟩ := hw'
  subst hw''
  replace c0 := x_c0 n1
  replace c1 := x_c1 n1
  replace c2 := x_c2 n1
  replace d0 := x_d0 n1
  replace d1 := x_d1 n1
  replace d2 := x_d2 n1
  clear x_c0 x_c1 x_c2 x_d0 x_d1 x_d2
  replace hb := hb.trans ((ext_below _ n1).mono hb.size)
  go_wp2
  have x_c0 := ext_cell c0
  have x_c1 := ext_cell c1
  have x_c2 := ext_cell c2
  have x_d0 := ext_cell d0
  have x_d1 := ext_cell d1
  have x_d2 := ext_cell d2
  refine wp_region_ext (by kernel_rfl) (by kernel_rfl) ?_
  repeat (go_big_quiet_step (fail))
  refine wpQuiet_nil ?_
  intro _ hw'
  obtain ⟨n2, hw''⟩ := hw'
  subst hw''
  replace c0 := x_c0 n2
  replace c1 := x_c1 n2
  replace c2 := x_c2 n2
  replace d0 := x_d0 n2
  replace d1 := x_d1 n2
  replace d2 := x_d2 n2
  clear x_c0 x_c1 x_c2 x_d0 x_d1 x_d2
  replace hb := hb.trans ((ext_below _ n2).mono hb.size)
  go_wp2
  have x_c0 := ext_cell c0
  have x_c1 := ext_cell c1
  have x_c2 := ext_cell c2
  have x_d0 := ext_cell d0
  have x_d1 := ext_cell d1
  have x_d2 := ext_cell d2
  refine wp_region_ext (by kernel_rfl) (by kernel_rfl) ?_
  repeat (go_big_quiet_step (fail))
  refine wpQuiet_nil ?_
  intro _ hw'
  obtain ⟨n3, hw''⟩ := hw'
  subst hw''
  replace c0 := x_c0 n3
  replace c1 := x_c1 n3
  replace c2 := x_c2 n3
  replace d0 := x_d0 n3
  replace d1 := x_d1 n3
  replace d2 := x_d2 n3
  clear x_c0 x_c1 x_c2 x_d0 x_d1 x_d2
  replace hb := hb.trans ((ext_below _ n3).mono hb.size)
  go_wp2
  go_ret
  exact ret_int (by rw [HO.out]; simp [cmpB, ltB, h3]) hb
end Go.Proofs.YtlnoelbeaolikaaGreat
namespace Go.Proofs.YtlnoelbeaolikaaGreat
open Go.RowKit
end Go.Proofs.YtlnoelbeaolikaaGreat
namespace Go.Proofs.YtlnoelbeaolikaaGreat
open Go.RowKit
attribute [local go_sem ↓] Go.wp_at_zero Go.wp_at_succ
end Go.Proofs.YtlnoelbeaolikaaGreat
namespace Go.Proofs.YtlnoelbeaolikaaGreat
open Go.RowKit
end Go.Proofs.YtlnoelbeaolikaaGreat
namespace Go.Proofs.YtlnoelbeaolikaaGreat
open Go.RowKit
attribute [local go_sem ↓] Go.wp_at_zero Go.wp_at_succ
theorem infEdge : (Tryz.prog.info? 89).map (fun i => (i.zero, i.size, i.bytes)) = some (some (.agg #[.int .i64 0, .int .i64 0, .string ByteArray.empty, .int .i64 0]), eEdge.sz, 40) := by kernel_rfl
theorem rLt_new {w w' : World} {B : Nat} {u : Value} {n : Int} {x : List DEdge} (h : Own eEdge 89 B w' u x) (hB : w.heap.size ≤ B) : rLattice.own w.heap.size w'.heap.size w' (.agg #[.int .i64 n, u]) (n, x) :=
 ⟨u, rfl, (h.mono hB).in_⟩
end Go.Proofs.YtlnoelbeaolikaaGreat
namespace Go.Proofs.YtlnoelbeaolikaaGreat
open Go.RowKit
attribute [local go_sem ↓] Go.wp_at_zero Go.wp_at_succ
end Go.Proofs.YtlnoelbeaolikaaGreat
namespace Go.Proofs.YtlnoelbeaolikaaGreat
open Go.RowKit Go.Lib
end Go.Proofs.YtlnoelbeaolikaaGreat
namespace Go.Proofs.YtlnoelbeaolikaaGreat
open Go.RowKit Go.Lib
end Go.Proofs.YtlnoelbeaolikaaGreat
