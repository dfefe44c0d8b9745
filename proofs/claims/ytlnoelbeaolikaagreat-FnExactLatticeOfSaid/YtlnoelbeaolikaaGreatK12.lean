/- The implementation's ink of a group. -/
import Derived.Test.YtlnoelbeaolikaaGreatK09
import Derived.Test.YtlnoelbeaolikaaGreatK10
import Derived.Test.YtlnoelbeaolikaaGreatK11
import Derived.Test.YtlnoelbeaolikaaGreatK00
import Derived.Test.YtlnoelbeaolikaaGreatK01
import Derived.Test.YtlnoelbeaolikaaGreatK06
import Derived.Lib.ItoaNum
namespace Go.Proofs.YtlnoelbeaolikaaGreat
open Go.RowKit
def SubH (X : XInk) (f t B : Nat) (w : World) (v : Value) : Prop := ∃ g cap, v = .slice (some ⟨g, f, none⟩) (t - f) (cap - f) ∧ B ≤ g ∧ HoldI w g f (subO X f t)
theorem HoldI.below {w w' : World} {g o : Nat} {d : List Int} (h : HoldI w g o d) (hb : Below w.heap.size w w') : HoldI w' g o d := by
 obtain ⟨cs, T, h1, h2⟩ := h
 exact ⟨cs, T, h1.later hb, h2⟩
theorem SubH.below {X : XInk} {f t B : Nat} {w w' : World} {v : Value} (h : SubH X f t B w v) (hb : Below w.heap.size w w') : SubH X f t B w' v := by
 obtain ⟨g, cap, h1, h2, h3⟩ := h
 exact ⟨g, cap, h1, h2, h3.below hb⟩
theorem subH_mk {X : XInk} {f t B g cap : Nat} {w : World} (h : B ≤ g) (ha : HoldI w g f (subO X f t)) : SubH X f t B w (.slice (some ⟨g, f, none⟩) (t - f) (cap - f)) := ⟨g, cap, rfl, h, ha⟩
def pickS (us : List SV) (sel : List Nat) (k : Nat) : List SV := (sel.take k).map fun i => (us[i]?).getD ⟨Option.none, 0, 0⟩
theorem pickS_push {us : List SV} {sel : List Nat} {k i : Nat} {s : SV} (hi : sel[k]? = some i) (hs : us[i]? = some s) : pickS us sel k ++ [s] = pickS us sel (k + 1) := by
 unfold pickS
 rw [List.take_add_one, hi]
 simp [hs]
theorem pickS_len {us : List SV} {sel : List Nat} {k : Nat} (h : k ≤ sel.length) : (pickS us sel k).length = k := by
 unfold pickS
 rw [List.length_map, List.length_take]
 omega
def PkAt (q : Nat) (U : World) (vs : List SV) (w : World) : Prop := ∃ uo, Box w q #[uo] 41 ∧ Own eS1 112 (q + 1) w uo vs ∧ Below q U w
theorem PkAt.below {q : Nat} {U : World} {vs : List SV} {w w' : World} (h : PkAt q U vs w) (hb : Below w.heap.size w w') : PkAt q U vs w' := by
 obtain ⟨uo, h1, h2, h3⟩ := h
 exact ⟨uo, h1.later hb, h2.below hb, h3.trans (hb.mono (Nat.le_of_lt h1.lt))⟩
theorem strokes_pick {w : World} {u : Value} {us : List SV} {X : XInk} {sel : List Nat} {n : Nat} (hn : sel.length = n) (ho : Arr eS1 w u (pickS us sel n)) (hul : us.length = X.length)
  (hin : ∀ (i : Nat) (s : SV) (x : XStroke), us[i]? = some s → X[i]? = some x → Arr ePoint w s.val x) (hs : ∀ (k i : Nat), sel[k]? = some i → i < X.length) : Strokes w u (sel.map fun k => (X[k]?).getD []) := by
 refine ⟨pickS us sel n, ho, by rw [pickS_len (by omega), List.length_map, hn], fun k s x hk hx => ?_⟩
 have hkn : k < n := by have := (List.getElem?_eq_some_iff.1 hk).1; rw [pickS_len (by omega)] at this; exact this
 obtain ⟨i, hi⟩ : ∃ i, sel[k]? = some i := ⟨_, List.getElem?_eq_getElem (by omega)⟩
 have hiX := hs k i hi
 obtain ⟨y, hy⟩ : ∃ y, X[i]? = some y := ⟨_, List.getElem?_eq_getElem hiX⟩
 obtain ⟨z, hz⟩ : ∃ z, us[i]? = some z := ⟨_, List.getElem?_eq_getElem (by omega)⟩
 have e1 : s = z := by
  unfold pickS at hk
  rw [List.getElem?_map, List.getElem?_take_of_lt hkn, hi] at hk
  simp [hz] at hk
  exact hk.symm
 have e2 : x = y := by
  rw [List.getElem?_map, hi] at hx
  simp [hy] at hx
  exact hx.symm
 subst e1 e2
 exact hin i s x hz hy
theorem selN_lt {S : List Int} {n k i : Nat} (h : (selN S n)[k]? = some i) : i < n := by
 have := List.mem_of_getElem? h
 unfold selN at this
 exact List.mem_range.1 (List.mem_filter.1 this).1
theorem sumOf_sub {α : Type} (f : α → Nat) {a b : List α} (h : a.Sublist b) : sumOf f a ≤ sumOf f b := by
 induction h with
 | slnil => exact Nat.le_refl _
 | cons x _ ih => unfold sumOf at ih ⊢; rw [List.map_cons, List.sum_cons]; omega
 | cons_cons x _ ih => unfold sumOf at ih ⊢; rw [List.map_cons, List.map_cons, List.sum_cons, List.sum_cons]; omega
theorem inkG_sub (X : XInk) (f t : Nat) : (inkG X f t).Sublist X := by
 have h : (List.range X.length).map (fun k => (X[k]?).getD []) = X := by
  refine List.ext_getElem? fun i => ?_
  by_cases hi : i < X.length
  ·simp [hi]
  ·rw [List.getElem?_eq_none_iff.2 (by simp; omega), List.getElem?_eq_none_iff.2 (by omega)]
 unfold inkG selN
 have := (List.filter_sublist (p := fun k : Nat => decide ((k : Int) ∈ subO X f t)) (l := List.range X.length)).map (fun k => (X[k]?).getD [])
 rwa [h] at this
theorem okInk_inkG {X : XInk} {f t : Nat} (ok : okInk X) : okInk (inkG X f t) := by
 have h := inkG_sub X f t
 have h1 := h.length_le
 have h2 := sumOf_sub List.length h
 unfold okInk totI at ok ⊢
 omega
theorem fr_below {g B : Nat} {w w' : World} (h : Fr g w w') (hB : B ≤ g) (hw : B ≤ w.heap.size) : Below B w w' := ⟨h.os, h.tape, h.output, h.size, fun k hk => h.block k (by omega) (by omega)⟩
set_option maxRecDepth 100000 in
set_option maxHeartbeats 4000000 in
theorem implInk_any (v : Value) (X : XInk) (f t : Nat) (w : World) (h : Strokes w v X) (ok : okInk X) (hv : validInk X = true) (hft : f < t) (ht : t ≤ X.length) :
  Calls Tryz.prog 44 #[.agg #[v], .agg #[.int .i64 f, .int .i64 t]] w (InkPost X f t w) := by
 have hX16 := validInk_len hv
 have htL : t ≤ (orderI X).length := by rw [orderI_len]; exact ht
 have h0 := h
 obtain ⟨b, off, ao, cap, us, rfl, hnc, hcm, hao, hcl, hul, hin⟩ := h.slice
 unfold maxLen at hcm
 have HUL := hid hul
 have HIN := hid hin
 clear hul hin h
 obtain ⟨W, hW⟩ : ∃ u, u = (((w.alloc (.cells #[.slice ao X.length cap] 41)).alloc (.cells #[.int .i64 f, .int .i64 t] 86)).alloc (.cells #[.slice none 0 0] 41)) := ⟨_, rfl⟩
 have hbW : Below w.heap.size w W := by rw [hW]; exact belowA3 _ _ _ _
 have q1 : Box W (w.heap.size) #[.slice ao X.length cap] 41 := by
  have hq := Box.new w #[.slice ao X.length cap] 41
  rw [hW]
  exact ((hq.alloc _).alloc _)
 have q2 : Box W (w.heap.size + 1) #[.int .i64 f, .int .i64 t] 86 := by
  have hq := Box.new (w.alloc (.cells #[.slice ao X.length cap] 41)) #[.int .i64 f, .int .i64 t] 86
  simp at hq
  rw [hW]
  exact (hq.alloc _)
 have q3 : Box W (w.heap.size + 1 + 1) #[.slice none 0 0] 41 := by
  have hq := Box.new ((w.alloc (.cells #[.slice ao X.length cap] 41)).alloc (.cells #[.int .i64 f, .int .i64 t] 86)) #[.slice none 0 0] 41
  simp at hq
  rw [hW]
  exact hq
 obtain ⟨p1, hp1⟩ : ∃ p, p = w.heap.size := ⟨_, rfl⟩
 rw [← hp1] at q1
 have hge1 : w.heap.size ≤ p1 := by omega
 obtain ⟨p2, hp2⟩ : ∃ p, p = w.heap.size + 1 := ⟨_, rfl⟩
 rw [← hp2] at q2
 have hge2 : w.heap.size ≤ p2 := by omega
 obtain ⟨p3, hp3⟩ : ∃ p, p = w.heap.size + 1 + 1 := ⟨_, rfl⟩
 rw [← hp3] at q3
 have hge3 : w.heap.size ≤ p3 := by omega
 have hlW : w.heap.size ≤ W.heap.size := hbW.size
 have hlp1 : p1 < W.heap.size := q1.lt
 have hlp2 : p2 < W.heap.size := q2.lt
 have hlp3 : p3 < W.heap.size := q3.lt
 have hne12 : p1 ≠ p2 := by omega
 have hne13 : p1 ≠ p3 := by omega
 have hne23 : p2 ≠ p3 := by omega
 have HP1 := hid hp1
 have HP2 := hid hp2
 have HP3 := hid hp3
 have HW := hid hW
 clear hW hp1 hp2 hp3
 have hSW := h0.below hbW
 have m0 := q1.cell (j := 0) rfl
 have g0 := q2.cell (j := 0) rfl
 have g1 := q2.cell (j := 1) rfl
 have CO := fun w' (hb : Below W.heap.size W w') => orderOf_any _ X w' (hSW.below hb) ok hv
 have HTL := hid htL
 clear htL
 go_enter Tryz.func44, Tryz.ntmps44
 go_upto_region 1 with fail
 rw [← HP3.out, ← HP2.out, ← HP1.out, ← HW.out]
 refine wp_region_rel (fun i v w' => match i with
       | 0 => v = .agg #[.slice ao X.length cap]
       | 1 => (Own eI 2 W.heap.size w' v (orderI X))
       | 2 => v = .pointer (some ⟨p2, 0, none⟩)
       | 3 => v = .int .i64 f
       | 4 => v = .pointer (some ⟨p2, 1, none⟩)
       | 5 => v = .int .i64 t
       | 6 => SubH X f t W.heap.size w' v
       | 7 => SubH X f t W.heap.size w' v
       | _ => True) (by kernel_rfl) (by kernel_rfl) (by kernel_rfl) (by kernel_rfl) ?_ ?_ ?_
 ·intro i v w w' h hb
  match i, h with
  | 0, h => exact h
  | 1, h => exact h.below hb
  | 2, h => exact h
  | 3, h => exact h
  | 4, h => exact h
  | 5, h => exact h
  | 6, h => exact SubH.below h hb
  | 7, h => exact SubH.below h hb
  | (k + 8), h => exact h
 ·refine ⟨?_, ?_, ?_, ?_, ?_, ?_, ?_, ?_, trivial⟩
  ·intro ρ w' hbw ht hcs hfn hgl hdep
   refine ⟨fun _ => ?_, fun h => by cases h⟩
   have s2 : ρ (.tmp 2) = .pointer (some ⟨p1, 0, none⟩) := ht 2 rfl
   have m0 := cell_later hbw m0
   have g0 := cell_later hbw g0
   have g1 := cell_later hbw g1
   clear ht hdep hgl
   go_simp
   exact ⟨Below.refl _ _, rfl⟩
  ·intro ρ w' hbw ht hcs hfn hgl hdep
   refine ⟨fun _ => ?_, fun h => by cases h⟩
   have s9 : ρ (.tmp 9) = .agg #[.slice ao X.length cap] := hdep ⟨0, .data⟩ (by simp) rfl 9 rfl
   clear ht hdep hgl
   go_simp
   exact (CO w' hbw).mono fun e w'' ⟨u, he, ho, hb⟩ => ⟨_, he, hb, ho.mono hbw.size⟩
  ·intro ρ w' hbw ht hcs hfn hgl hdep
   refine ⟨fun _ => ?_, fun h => by cases h⟩
   have s3 : ρ (.tmp 3) = .pointer (some ⟨p2, 0, none⟩) := ht 3 rfl
   clear ht hdep hgl
   go_simp
   exact ⟨Below.refl _ _, rfl⟩
  ·intro ρ w' hbw ht hcs hfn hgl hdep
   refine ⟨fun _ => ?_, fun h => by cases h⟩
   have s11 : ρ (.tmp 11) = .pointer (some ⟨p2, 0, none⟩) := hdep ⟨2, .data⟩ (by simp) rfl 11 rfl
   have m0 := cell_later hbw m0
   have g0 := cell_later hbw g0
   have g1 := cell_later hbw g1
   clear ht hdep hgl
   go_simp
   exact ⟨Below.refl _ _, rfl⟩
  ·intro ρ w' hbw ht hcs hfn hgl hdep
   refine ⟨fun _ => ?_, fun h => by cases h⟩
   have s3 : ρ (.tmp 3) = .pointer (some ⟨p2, 0, none⟩) := ht 3 rfl
   clear ht hdep hgl
   go_simp
   exact ⟨Below.refl _ _, rfl⟩
  ·intro ρ w' hbw ht hcs hfn hgl hdep
   refine ⟨fun _ => ?_, fun h => by cases h⟩
   have s13 : ρ (.tmp 13) = .pointer (some ⟨p2, 1, none⟩) := hdep ⟨4, .data⟩ (by simp) rfl 13 rfl
   have m0 := cell_later hbw m0
   have g0 := cell_later hbw g0
   have g1 := cell_later hbw g1
   clear ht hdep hgl
   go_simp
   exact ⟨Below.refl _ _, rfl⟩
  ·intro ρ w' hbw ht hcs hfn hgl hdep
   refine ⟨fun _ => ?_, fun h => by cases h⟩
   have d10 := hdep ⟨1, .data⟩ (by simp) rfl 10 rfl
   have s12 : ρ (.tmp 12) = .int .i64 f := hdep ⟨3, .data⟩ (by simp) rfl 12 rfl
   have s14 : ρ (.tmp 14) = .int .i64 t := hdep ⟨5, .data⟩ (by simp) rfl 14 rfl
   clear ht hdep hgl
   obtain ⟨g, cp, hu, hg, _, hn, _, _, ha⟩ := own_sub d10 hft HTL.out
   have htl := HTL.out
   have s10 : ρ (.tmp 10) = .slice (some ⟨g, 0, none⟩) (orderI X).length cp := hu
   have hfi : (f : Int) ≤ (t : Int) := by omega
   have hti : (t : Int) ≤ (cp : Int) := by omega
   have hfn : f ≤ t := by omega
   have htn : t ≤ cp := by omega
   have hne : ¬ (cp = f) := by omega
   have hne2 : ¬ (f = cp) := by omega
   clear d10 hu htl hn
   go_simp
   exact ⟨Below.refl _ _, subH_mk hg ha⟩
  ·intro ρ w' hbw ht hcs hfn hgl hdep
   refine ⟨fun _ => ?_, fun h => by cases h⟩
   have d15 := hdep ⟨6, .data⟩ (by simp) rfl 15 rfl
   clear ht hdep hgl
   go_simp
   exact ⟨Below.refl _ _, d15⟩
 intro xx w1 hb1 hx
 have hx7 := hx 7 (by simp)
 clear hx
 simp only [putAll, Act.put, List.setIfInBounds_toArray, List.set_cons_succ, List.set_cons_zero, Nat.zero_add, Nat.reduceAdd]
 replace hx7 : SubH X f t W.heap.size w1 (xx 7) := hx7
 obtain ⟨gs, cs, hvs, hgs, hH⟩ := hx7
 generalize xx 1 = k1 at *
 generalize xx 6 = k6 at *
 generalize xx 7 = k7 at *
 subst hvs
 have hsl : (subO X f t).length = t - f := sub_len HTL.out
 have CS := sortI_any gs f (cs - f) (subO X f t) w1 hH (by omega) (subO_nodup X f t)
 rw [hsl] at CS
 have HSL := hid hsl
 have HH := hid hH
 clear hsl hH
 go_wp2_with fail
 refine CS.mono ?_
 rintro e w2 ⟨rfl, d', hH2, hP2, hS2, hF2⟩
 have hd' := sort_is hP2.perm (by rw [hP2.len, HSL.out]; exact hS2)
 have hb2 : Below W.heap.size W w2 := hb1.trans (fr_below hF2 hgs hb1.size)
 obtain ⟨sel, hsel⟩ : ∃ sel, sel = selN (subO X f t) X.length := ⟨_, rfl⟩
 rw [← hsel] at hd'
 obtain ⟨n, hn⟩ : ∃ n, n = t - f := ⟨_, rfl⟩
 have hsn : sel.length = n := by
  have h1 := hP2.len
  rw [hd', List.length_map, HSL.out] at h1
  omega
 have hsX : ∀ (k i : Nat), sel[k]? = some i → i < X.length := fun k i h => by rw [hsel] at h; exact selN_lt h
 have hcl2 : ∀ (k i : Nat), sel[k]? = some i → w2.cell? ⟨gs, f + k, none⟩ = some (.int .i64 i) := fun k i h => by
  have hkd : k < d'.length := by rw [hd', List.length_map]; exact (List.getElem?_eq_some_iff.1 h).1
  have h1 := hH2.cell k hkd
  have h2 := gI_some hkd
  rw [hd', List.getElem?_map, h] at h2
  have h3 : (i : Int) = gI d' k := by rw [hd']; exact Option.some.inj h2
  rw [← h3] at h1
  exact h1
 have hgsw : gs < w2.heap.size := by
  obtain ⟨cs', T', h1, _⟩ := hH2
  exact h1.lt
 have hSX : inkG X f t = sel.map fun k => (X[k]?).getD [] := by rw [hsel]; rfl
 have hn16 : n ≤ 16 := by omega
 rw [← hn]
 have HSN := hid hsn
 have HSX := hid hsX
 have HCL := hid hcl2
 have HIG := hid hSX
 have bx3 := q3.later hb2
 have bx1 := q1.later hb2
 have hE2 : Below w.heap.size w w2 := hbW.trans (hb2.mono hlW)
 clear hn hsn hsX hcl2 hSX hd' hsel hH2 hP2 hS2 hF2 CS CO q1 q2 q3 m0 g0 g1
 go_upto_region 4 with fail
 obtain ⟨q, hqq⟩ : ∃ q, q = w2.heap.size := ⟨_, rfl⟩
 obtain ⟨w4, hw4⟩ : ∃ u, u = w2.alloc (.cells #[.slice none 0 0] 41) := ⟨_, rfl⟩
 rw [← hw4, ← hqq]
 have hb4 : Below w2.heap.size w2 w4 := by rw [hw4]; exact below_alloc _ _
 have hx4 : PkAt q w4 (pickS us sel 0) w4 := by rw [hw4, hqq]; exact ⟨_, Box.new _ _ _, Own.nil _ _ _, Below.refl _ _⟩
 have hgq : gs < q := by omega
 have hp1q : p1 < q := by have := bx1.lt; omega
 have hp3q : p3 < q := by have := bx3.lt; omega
 have hwq : w.heap.size ≤ q := by have := hE2.size; omega
 have b14 := bx1.later hb4
 have b34 := bx3.later hb4
 have n4 := b14.cell (j := 0) rfl
 have hE4 : Below w.heap.size w w4 := hE2.trans (hb4.mono hE2.size)
 have hC4 := hid (show ∀ (k i : Nat), sel[k]? = some i → w4.cell? ⟨gs, f + k, none⟩ = some (.int .i64 i) from fun k i h => cell_later hb4 (HCL.out k i h))
 have hq4 : q < w4.heap.size := by rw [hw4, hqq]; simp
 clear hw4 hqq bx1 bx3 HCL hgsw
 go_wp2_with fail
 go_loopw [20] (fun i wr => ∃ k : Nat, k ≤ n ∧ i = .int .i64 k ∧ PkAt q w4 (pickS us sel k) wr) (fun i _ => n - (intOf i).toNat)
 case atStart => exact ⟨0, Nat.zero_le _, rfl, hx4⟩
 case round =>
  clear hx4
  obtain ⟨k, hk, rfl, uo, hbx, hst, hbl⟩ := hrel
  have hpl := pickS_len (us := us) (sel := sel) (k := k) (by rw [HSN.out]; exact hk)
  obtain ⟨Z, hZ⟩ : ∃ Z, Z = pickS us sel k := ⟨_, rfl⟩
  rw [← hZ] at hst hpl
  have HZ := hid hZ
  have HPL := hid hpl
  obtain ⟨oa, oc, huo⟩ := hst.isSlice
  rw [hpl] at huo
  subst huo
  have a1 := hbx.cell (j := 0) rfl
  have hlt' := hbx.lt
  have hbR : Below w.heap.size w wr := hE4.trans (hbl.mono hwq)
  have c1 := below_cell hbl hp1q n4
  clear hZ hpl
  by_cases hlt : k < n
  ·have hli : (k : Int) < (n : Int) := by omega
   obtain ⟨ix, hi⟩ : ∃ i, sel[k]? = some i := ⟨_, List.getElem?_eq_getElem (by rw [HSN.out]; exact hlt)⟩
   have hiX := HSX.out k ix hi
   have hiI : (ix : Int) < (X.length : Int) := by omega
   obtain ⟨hao', hbw⟩ := hao (by omega)
   subst hao'
   obtain ⟨sr, hsv⟩ : ∃ s, us[ix]? = some s := ⟨_, List.getElem?_eq_getElem (by rw [HUL.out]; exact hiX)⟩
   have d0 := eS1_cells (hcl.below hbR hbw) hsv
   have c0 := below_cell hbl hgq (hC4.out k ix hi)
   have HT := hid (show Z ++ [sr] = pickS us sel (k + 1) by rw [HZ.out]; exact pickS_push hi hsv)
   clear hsv hi
   go_upto_region 7 with fail
   refine wp_region_stg 8 10 (fun c w' => match c with | 0 => Below wr.heap.size wr w' | 1 => (Box w' q #[.slice oa k oc] 41 ∧ Below q wr w') | _ => PkAt q w4 (Z ++ [sr]) w') (fun c i v w' => match i with
         | 0 => v = .pointer (some ⟨q, 0, none⟩)
         | 1 => v = .slice oa k oc
         | 2 => v = .pointer (some ⟨p1, 0, none⟩)
         | 3 => v = .slice (some ⟨b, off, none⟩) X.length cap
         | 4 => v = .int .i64 ix
         | 5 => v = .pointer (some ⟨b, off + ix, none⟩)
         | 6 => v = .agg #[.slice sr.a sr.n sr.c]
         | 7 => (match c with | 0 => (Arr eS1 w' v [sr]) | 1 => True | _ => True)
         | 8 => (match c with | 0 => True | 1 => (Own eS1 112 (q + 1) w' v (Z ++ [sr])) | _ => True)
         | 9 => v = .pointer (some ⟨q, 0, none⟩)
         | 10 => (match c with | 0 => True | 1 => True | _ => True)
         | _ => True) (by kernel_rfl) (by kernel_rfl) (by kernel_rfl) (by kernel_rfl) (by kernel_rfl) ?_ ?_ ?_ ?_ ?_ ?_ (by decide) ?_
   ·exact (Below.refl _ wr).drew
   ·intro c w w' h hb
    match c, h with
    | 0, h => exact Below.trans (B := wr.heap.size) h (hb.mono (Below.size h))
    | 1, h => exact ⟨h.1.later hb, h.2.trans (hb.mono (Nat.le_of_lt h.1.lt))⟩
    | (k + 2), h => exact (PkAt.below h hb)
   ·intro c i v w w' h hb
    match i, h with
    | 0, h => exact h
    | 1, h => exact h
    | 2, h => exact h
    | 3, h => exact h
    | 4, h => exact h
    | 5, h => exact h
    | 6, h => exact h
    | 7, h =>
     match c, h with
     | 0, h => exact h.below hb
     | 1, h => exact trivial
     | (k + 2), h => exact trivial
    | 8, h =>
     match c, h with
     | 0, h => exact trivial
     | 1, h => exact h.below hb
     | (k + 2), h => exact trivial
    | 9, h => exact h
    | 10, h =>
     match c, h with
     | 0, h => exact trivial
     | 1, h => exact trivial
     | (k + 2), h => exact trivial
    | (k + 11), h => exact h
   ·refine ⟨?_, ?_, ?_, ?_, ?_, ?_, ?_, ?_, ?_, ?_, ?_, trivial⟩
    ·refine .inr (.inr ⟨fun _ => ?_, can_no (by kernel_rfl), can_no (by kernel_rfl)⟩)
     ·intro ρ w' hbw ht hcs hfn hgl hdep G hG
      replace hbw : Below wr.heap.size wr w' := hbw
      refine ⟨fun _ => ?_, fun h => by cases h⟩
      have s6 : ρ (.tmp 6) = .pointer (some ⟨q, 0, none⟩) := ht 6 rfl
      clear ht hdep hgl
      go_simp
      exact hG _ _ (Below.refl _ _) rfl
    ·refine .inr (.inr ⟨fun _ => ?_, can_no (by kernel_rfl), can_no (by kernel_rfl)⟩)
     ·intro ρ w' hbw ht hcs hfn hgl hdep G hG
      replace hbw : Below wr.heap.size wr w' := hbw
      refine ⟨fun _ => ?_, fun h => by cases h⟩
      have s24 : ρ (.tmp 24) = .pointer (some ⟨q, 0, none⟩) := hdep ⟨0, .data⟩ (by simp) rfl 24 rfl
      have a1 := cell_later hbw a1
      have c1 := cell_later hbw c1
      have d0 := cell_later hbw d0
      clear ht hdep hgl
      go_simp
      exact hG _ _ (Below.refl _ _) rfl
    ·refine .inr (.inr ⟨fun _ => ?_, can_no (by kernel_rfl), can_no (by kernel_rfl)⟩)
     ·intro ρ w' hbw ht hcs hfn hgl hdep G hG
      replace hbw : Below wr.heap.size wr w' := hbw
      refine ⟨fun _ => ?_, fun h => by cases h⟩
      have s2 : ρ (.tmp 2) = .pointer (some ⟨p1, 0, none⟩) := ht 2 rfl
      clear ht hdep hgl
      go_simp
      exact hG _ _ (Below.refl _ _) rfl
    ·refine .inr (.inr ⟨fun _ => ?_, can_no (by kernel_rfl), can_no (by kernel_rfl)⟩)
     ·intro ρ w' hbw ht hcs hfn hgl hdep G hG
      replace hbw : Below wr.heap.size wr w' := hbw
      refine ⟨fun _ => ?_, fun h => by cases h⟩
      have s26 : ρ (.tmp 26) = .pointer (some ⟨p1, 0, none⟩) := hdep ⟨2, .data⟩ (by simp) rfl 26 rfl
      have a1 := cell_later hbw a1
      have c1 := cell_later hbw c1
      have d0 := cell_later hbw d0
      clear ht hdep hgl
      go_simp
      exact hG _ _ (Below.refl _ _) rfl
    ·refine .inr (.inr ⟨fun _ => ?_, can_no (by kernel_rfl), can_no (by kernel_rfl)⟩)
     ·intro ρ w' hbw ht hcs hfn hgl hdep G hG
      replace hbw : Below wr.heap.size wr w' := hbw
      refine ⟨fun _ => ?_, fun h => by cases h⟩
      have s8 : ρ (.tmp 8) = .int .i64 ix := ht 8 rfl
      clear ht hdep hgl
      go_simp
      exact hG _ _ (Below.refl _ _) rfl
    ·refine .inr (.inr ⟨fun _ => ?_, can_no (by kernel_rfl), can_no (by kernel_rfl)⟩)
     ·intro ρ w' hbw ht hcs hfn hgl hdep G hG
      replace hbw : Below wr.heap.size wr w' := hbw
      refine ⟨fun _ => ?_, fun h => by cases h⟩
      have s27 : ρ (.tmp 27) = .slice (some ⟨b, off, none⟩) X.length cap := hdep ⟨3, .data⟩ (by simp) rfl 27 rfl
      have s28 : ρ (.tmp 28) = .int .i64 ix := hdep ⟨4, .data⟩ (by simp) rfl 28 rfl
      clear ht hdep hgl
      go_simp
      exact hG _ _ (Below.refl _ _) rfl
    ·refine .inr (.inr ⟨fun _ => ?_, can_no (by kernel_rfl), can_no (by kernel_rfl)⟩)
     ·intro ρ w' hbw ht hcs hfn hgl hdep G hG
      replace hbw : Below wr.heap.size wr w' := hbw
      refine ⟨fun _ => ?_, fun h => by cases h⟩
      have s29 : ρ (.tmp 29) = .pointer (some ⟨b, off + ix, none⟩) := hdep ⟨5, .data⟩ (by simp) rfl 29 rfl
      have a1 := cell_later hbw a1
      have c1 := cell_later hbw c1
      have d0 := cell_later hbw d0
      clear ht hdep hgl
      go_simp
      exact hG _ _ (Below.refl _ _) rfl
    ·refine .inr (.inr ⟨fun _ => ?_, can_no (by kernel_rfl), can_no (by kernel_rfl)⟩)
     ·intro ρ w' hbw ht hcs hfn hgl hdep G hG
      replace hbw : Below wr.heap.size wr w' := hbw
      refine ⟨fun _ => ?_, fun h => by cases h⟩
      have s30 : ρ (.tmp 30) = .agg #[.slice sr.a sr.n sr.c] := hdep ⟨6, .data⟩ (by simp) rfl 30 rfl
      clear ht hdep hgl
      go_simp
      exact hG _ _ (below_alloc _ _) (arr_block1 (E := eS1) (n := 1) [sr] #[.slice sr.a sr.n sr.c] rfl rfl (by decide) (by simp))
    ·exact .inl rfl
    ·refine .inr (.inr ⟨fun _ => ?_, fun _ => ?_, can_no (by kernel_rfl)⟩)
     ·intro ρ w' hbw ht hcs hfn hgl hdep G hG
      replace hbw : Below wr.heap.size wr w' := hbw
      refine ⟨fun _ => ?_, fun h => by cases h⟩
      have s6 : ρ (.tmp 6) = .pointer (some ⟨q, 0, none⟩) := ht 6 rfl
      clear ht hdep hgl
      go_simp
      exact hG _ _ (Below.refl _ _) rfl
     ·intro ρ w' hbw ht hcs hfn hgl hdep G hG
      replace hbw : (Box w' q #[.slice oa k oc] 41 ∧ Below q wr w') := hbw
      refine ⟨fun _ => ?_, fun h => by cases h⟩
      have s6 : ρ (.tmp 6) = .pointer (some ⟨q, 0, none⟩) := ht 6 rfl
      clear ht hdep hgl
      go_simp
      exact hG _ _ (Below.refl _ _) rfl
    ·exact .inr (.inl rfl)
   ·intro o ho
    obtain rfl := Option.some.inj ho
    intro ρ w' hbw ht hcs hfn hgl hdep G hG
    replace hbw : Below wr.heap.size wr w' := hbw
    refine ⟨fun _ => ?_, fun h => by cases h⟩
    have s25 : ρ (.tmp 25) = .slice oa k oc := hdep ⟨1, .data⟩ (by simp) rfl 25 rfl
    have d31 := hdep ⟨7, .data⟩ (by simp) rfl 31 rfl
    clear ht hdep hgl
    refine upon_appO _ _ 39 (by rfl) (q + 1) 112 _ 24 infStrokeG Tryz.underlying39 rfl _ Z s25 (hst.below hbw) [sr] d31 (by rw [HPL.out]; unfold maxLen; simp <;> omega) (by rw [HPL.out]; simp <;> omega) (by have := hbw.size; omega) ?_
    intro v' wA hoA hgA hlA
    refine hG _ _ ⟨grownBoxG (hbx.later hbw) hgA (by intro hh; have := (World.ownsRow.lt (hst.below hbw) q hh).1; omega), (hbw.mono (Nat.le_of_lt hlt')).grown hgA (by have := hbw.size; omega) (fun kk hh => by have := (World.ownsRow.lt (hst.below hbw) kk hh).1; omega)⟩ hoA ?_
    intro j u hj hne h
    match j, h with
    | 0, h => exact h
    | 1, h => exact h
    | 2, h => exact h
    | 3, h => exact h
    | 4, h => exact h
    | 5, h => exact h
    | 6, h => exact h
    | 7, h => exact trivial
    | 8, h => exact absurd rfl hne
    | 9, h => exact h
    | 10, h => exact trivial
    | (k + 11), h => exact h
   ·intro o ho
    obtain rfl := Option.some.inj ho
    intro ρ w' hbw ht hcs hfn hgl hdep G hG
    replace hbw : (Box w' q #[.slice oa k oc] 41 ∧ Below q wr w') := hbw
    refine ⟨fun _ => ?_, fun h => by cases h⟩
    have s33 : ρ (.tmp 33) = .pointer (some ⟨q, 0, none⟩) := hdep ⟨9, .data⟩ (by simp) rfl 33 rfl
    have d32 := hdep ⟨8, .data⟩ (by simp) rfl 32 rfl
    clear ht hdep hgl
    have f0 := hbw.1.cell (j := 0) rfl
    have ff := hbw.1.free
    obtain ⟨ua, uc, hu⟩ := d32.isSlice
    rw [show (Z ++ [sr]).length = k + 1 by rw [List.length_append, HPL.out]; rfl] at hu
    rw [hu] at d32
    have hx := hid (show PkAt q w4 (Z ++ [sr]) (w'.setCell ⟨q, 0, none⟩ (.slice ua (k + 1) uc)) from ⟨_, hbw.1.set 0 _, d32.setBelow (a := ⟨q, 0, none⟩) (Nat.lt_succ_self q) _, (hbl.trans hbw.2).setCell (Nat.le_refl _) _⟩)
    clear d32
    go_simp
    refine hG _ _ hx.out trivial ?_
    intro j u hj hne h
    match j, h with
    | 0, h => exact h
    | 1, h => exact h
    | 2, h => exact h
    | 3, h => exact h
    | 4, h => exact h
    | 5, h => exact h
    | 6, h => exact h
    | 7, h => exact trivial
    | 8, h => exact trivial
    | 9, h => exact h
    | 10, h => exact trivial
    | (k + 11), h => exact h
   intro xx w6 hF hx
   clear hx
   simp only [putAll, Act.put, List.setIfInBounds_toArray, List.set_cons_succ, List.set_cons_zero, Nat.zero_add, Nat.reduceAdd]
   go_wp2_with fail
   go_roundw
   case rel => exact ⟨k + 1, by omega, by go_num, by rw [← HT.out]; exact hF⟩
   case measure => simp [intOf]; omega
  ·obtain rfl : k = n := by omega
   have hli : ¬ ((k : Int) < (k : Int)) := by omega
   have bxr := b34.below hbl hp3q
   have hSt : Strokes wr (.slice oa k oc) (inkG X f t) := by
    rw [HIG.out]
    refine strokes_pick HSN.out ?_ HUL.out (fun i s x hs hx => (HIN.out i s x hs hx).below hbR) HSX.out
    rw [← HZ.out]
    exact hst.arr
   have CC := copyInk_any (.slice oa k oc) (inkG X f t) wr hSt (okInk_inkG ok) (by rw [HIG.out, List.length_map, HSN.out]; exact hn16)
   go_wp2_with fail
   refine CC.mono ?_
   rintro e w8 ⟨uc, vs, rfl, hN, hb8⟩
   obtain ⟨na, nc, hun⟩ := hN.outer.1.isSlice
   subst hun
   have bx8 := bxr.later hb8
   have b0 := bx8.cell (j := 0) rfl
   have bf := bx8.free
   have hb9 := hbR.trans (hb8.mono hbR.size)
   go_wp2_with fail
   refine bodyPost_ret (v := .agg #[.slice na vs.length nc]) (by simp [results, Tryz.results44, go_sem, b0]) rfl ⟨_, vs, rfl, ?_, ?_⟩
   ·have h1 := nestG_chg hN (chg_set w8 p3 0 (.slice na vs.length nc)) (.inl (by have := bxr.lt; omega))
    exact nestG_mono h1 hbR.size (by simp)
   ·exact hb9.setCell hge3 _
end Go.Proofs.YtlnoelbeaolikaaGreat
namespace Go.Proofs.YtlnoelbeaolikaaGreat
open Go.RowKit
theorem filter_mem_len : ∀ (n : Nat) (S : List Int), S.Nodup → (∀ e ∈ S, ∃ d : Nat, e = (d : Int) ∧ d < n) → ((List.range n).filter fun (k : Nat) => decide ((k : Int) ∈ S)).length = S.length := by
 intro n S hn hS
 have h1 : (((List.range n).filter fun (k : Nat) => decide ((k : Int) ∈ S)).map fun (k : Nat) => (k : Int)).Perm S := by
  refine (List.perm_ext_iff_of_nodup ?_ hn).2 fun e => ?_
  ·refine List.Pairwise.map _ (fun a b (h : a ≠ b) => by omega) (List.Pairwise.sublist List.filter_sublist List.nodup_range)
  ·rw [List.mem_map]
   constructor
   ·rintro ⟨k, hk, rfl⟩
    have := (List.mem_filter.1 hk).2
    simpa using this
   ·intro he
    obtain ⟨d, rfl, hd⟩ := hS e he
    exact ⟨d, List.mem_filter.2 ⟨List.mem_range.2 hd, by simpa using he⟩, rfl⟩
 have := h1.length_eq
 rw [List.length_map] at this
 exact this
theorem inkG_len {X : XInk} {f t : Nat} (_ : f < t) (ht : t ≤ X.length) : (inkG X f t).length = t - f := by
 unfold inkG selN
 rw [List.length_map, filter_mem_len X.length (subO X f t) (subO_nodup X f t) (fun e he => subO_bds he)]
 exact sub_len (by rw [orderI_len]; exact ht)
theorem st_mono {x : List DPoint} (hv : validSt x = true) : firstT x ≤ lastT x := by
 have hl := validSt_len hv
 have hst : ∀ d, d < x.length → firstT x ≤ (match x[d]? with | some p => p.t | none => 0) := by
  intro d
  induction d with
  | zero => intro _; exact Int.le_refl _
  | succ d ih =>
   intro hd
   have h1 := ih (by omega)
   obtain ⟨p, hp⟩ : ∃ p, x[d + 1]? = some p := ⟨_, List.getElem?_eq_getElem hd⟩
   obtain ⟨q, hq⟩ : ∃ q, x[d]? = some q := ⟨_, List.getElem?_eq_getElem (by omega)⟩
   rw [hq] at h1
   rw [hp]
   cases hb : stOk x (d + 1) p with
   | false => rw [validSt_at hp hb] at hv; cases hv
   | true =>
    unfold stOk ordAtP at hb
    rw [Bool.and_eq_true] at hb
    have h2 := hb.2
    rw [Nat.add_sub_cancel, hq] at h2
    have h3 := of_decide_eq_true h2
    simp only at h1 ⊢
    omega
 exact hst (x.length - 1) (by omega)
theorem validInk_pw {X : XInk} (hv : validInk X = true) : X.Pairwise fun s t => lastT s < firstT t := by
 have hstep : ∀ k (h : k + 1 < X.length), lastT (X[k]'(by omega)) < firstT X[k + 1] := by
  intro k h
  cases hb : inkAt X (k + 1) X[k + 1] with
  | false => rw [validInk_at (List.getElem?_eq_getElem h) hb] at hv; cases hv
  | true =>
   unfold inkAt ordI at hb
   rw [Bool.and_eq_true] at hb
   have h2 := hb.2
   rw [Nat.add_sub_cancel, List.getElem?_eq_getElem (by omega : k < X.length)] at h2
   exact of_decide_eq_true h2
 have hlt : ∀ d i (hi : i < X.length) (hj : i + d + 1 < X.length), lastT X[i] < firstT X[i + d + 1] := by
  intro d
  induction d with
  | zero => intro i hi hj; exact hstep i hj
  | succ d ih =>
   intro i hi hj
   have h1 := ih i hi (by omega)
   have h2 := hstep (i + d + 1) hj
   have h3 := st_mono (validInk_st hv (List.getElem?_eq_getElem (by omega : i + d + 1 < X.length)))
   have h4 : firstT X[i + (d + 1) + 1] = firstT X[i + d + 1 + 1] := rfl
   rw [h4]
   omega
 refine List.pairwise_iff_getElem.2 fun i j hi hj hij => ?_
 obtain ⟨d, rfl⟩ : ∃ d, j = i + d + 1 := ⟨j - i - 1, by omega⟩
 exact hlt d i hi hj
theorem validInk_sub {X Y : XInk} (hv : validInk X = true) (hs : Y.Sublist X) : validInk Y = true := by
 have hp := List.Pairwise.sublist hs (validInk_pw hv)
 have hl := validInk_len hv
 have hll := hs.length_le
 rw [validInk_all]
 ·simp; omega
 ·intro k s hk hks
  unfold inkAt
  rw [Bool.and_eq_true]
  constructor
  ·obtain ⟨i, hi, he⟩ := List.mem_iff_getElem.1 (hs.subset (List.mem_of_getElem? hks))
   exact validInk_st hv (k := i) (by rw [List.getElem?_eq_getElem hi, he])
  ·unfold ordI
   match k, hk, hks with
   | 0, _, _ => rfl
   | k + 1, hk, hks =>
    rw [Nat.add_sub_cancel, List.getElem?_eq_getElem (by omega : k < Y.length)]
    rw [List.getElem?_eq_getElem hk] at hks
    cases hks
    exact decide_eq_true (List.pairwise_iff_getElem.1 hp k (k + 1) (by omega) hk (by omega))
end Go.Proofs.YtlnoelbeaolikaaGreat
namespace Go.Proofs.YtlnoelbeaolikaaGreat
/-! ### the greatest number whose square is at most n -/
theorem isq_ex (n : Nat) : ∃ r, r * r ≤ n ∧ n < (r + 1) * (r + 1) := by
 induction n with
 | zero => exact ⟨0, by decide, by decide⟩
 | succ n ih =>
  obtain ⟨r, h1, h2⟩ := ih
  by_cases h : n + 1 < (r + 1) * (r + 1)
  ·exact ⟨r, by omega, h⟩
  ·refine ⟨r + 1, by omega, ?_⟩
   have e : (r + 1 + 1) * (r + 1 + 1) = (r + 1) * (r + 1) + 2 * (r + 1) + 1 := by rw [Nat.add_mul, Nat.mul_add]; omega
   omega
noncomputable def isq (n : Nat) : Nat := Classical.choose (isq_ex n)
theorem isq_le (n : Nat) : isq n * isq n ≤ n := (Classical.choose_spec (isq_ex n)).1
theorem lt_isq (n : Nat) : n < (isq n + 1) * (isq n + 1) := (Classical.choose_spec (isq_ex n)).2
theorem le_isq {n r : Nat} (h : r * r ≤ n) : r ≤ isq n := by
 have h2 := lt_isq n
 by_cases hc : r ≤ isq n
 ·exact hc
 ·have := Nat.mul_le_mul (show isq n + 1 ≤ r by omega) (show isq n + 1 ≤ r by omega)
  omega
theorem isq_lt {n r : Nat} (h : n < r * r) : isq n < r := by
 have h1 := isq_le n
 by_cases hc : isq n < r
 ·exact hc
 ·have := Nat.mul_le_mul (show r ≤ isq n by omega) (show r ≤ isq n by omega)
  omega
theorem isq_eq {n r : Nat} (h1 : r * r ≤ n) (h2 : n < (r + 1) * (r + 1)) : r = isq n := by
 have := le_isq h1
 have := isq_lt h2
 omega
theorem isq_pos {n : Nat} (h : 0 < n) : 0 < isq n := le_isq (r := 1) (by omega)
/-- one step of Newton's way does not pass the root -/
theorem newton_ge {n r : Nat} (hr : 0 < r) : isq n ≤ (r + n / r) / 2 := by
 have h1 := isq_le n
 generalize isq n = s at *
 rw [Nat.le_div_iff_mul_le (by omega)]
 have hk : 2 * s - r ≤ n / r := by
  rw [Nat.le_div_iff_mul_le hr]
  refine Nat.le_trans ?_ h1
  by_cases hc : s ≤ r
  ·obtain ⟨d, rfl⟩ : ∃ d, r = s + d := ⟨r - s, by omega⟩
   by_cases hd : d ≤ s
   ·obtain ⟨e, rfl⟩ : ∃ e, s = d + e := ⟨s - d, by omega⟩
    have e1 : 2 * (d + e) - (d + e + d) = e := by omega
    rw [e1]
    have e2 : e * (d + e + d) = e * d + e * e + e * d := by rw [Nat.mul_add, Nat.mul_add]
    have e3 : (d + e) * (d + e) = d * d + d * e + (e * d + e * e) := by rw [Nat.add_mul, Nat.mul_add, Nat.mul_add]
    rw [e2, e3, Nat.mul_comm d e]
    omega
   ·rw [show 2 * s - (s + d) = 0 by omega]; omega
  ·obtain ⟨d, rfl⟩ : ∃ d, s = r + d := ⟨s - r, by omega⟩
   have e1 : 2 * (r + d) - r = r + d + d := by omega
   rw [e1]
   have e2 : (r + d + d) * r = r * r + d * r + d * r := by rw [Nat.add_mul, Nat.add_mul]
   have e3 : (r + d) * (r + d) = r * r + r * d + (d * r + d * d) := by rw [Nat.add_mul, Nat.mul_add, Nat.mul_add]
   rw [e2, e3, Nat.mul_comm r d]
   omega
 omega
theorem newton_end {n r : Nat} (hr : 0 < r) (hs : isq n ≤ r) (h : r ≤ (r + n / r) / 2) : r = isq n := by
 have h1 : r ≤ n / r := by omega
 rw [Nat.le_div_iff_mul_le hr] at h1
 have := le_isq h1
 omega
theorem newton_start {n k : Nat} (h : n < 2 ^ k) : isq n < 2 ^ ((k + 1) / 2) := by
 refine isq_lt (Nat.lt_of_lt_of_le h ?_)
 rw [← Nat.pow_add]
 exact Nat.pow_le_pow_right (by omega) (by omega)
/-! ### the nearest quotient -/
def nearG (n d : Int) : Int := (2 * n + d) / (2 * d)
theorem nearG_rest {n d : Int} (hd : 0 < d) : nearG n d = if d - (n - n / d * d) ≤ n - n / d * d then n / d + 1 else n / d := by
 unfold nearG
 have h1 := Int.emod_add_mul_ediv n d
 have h2 := Int.emod_nonneg n (by omega : d ≠ 0)
 have h3 := Int.emod_lt_of_pos n hd
 generalize n / d = q at *
 generalize n % d = r at *
 subst h1
 rw [show r + d * q - q * d = r by rw [Int.mul_comm]; omega]
 split
 ·have e : 2 * (r + d * q) + d = (2 * r - d) + 2 * d * (q + 1) := by
   rw [Int.mul_add (2 * d), Int.mul_add 2, Int.mul_assoc]; omega
  rw [e, Int.add_mul_ediv_left _ _ (by omega), Int.ediv_eq_zero_of_lt (by omega) (by omega)]; omega
 ·have e : 2 * (r + d * q) + d = (2 * r + d) + 2 * d * q := by
   rw [Int.mul_add 2, Int.mul_assoc]; omega
  rw [e, Int.add_mul_ediv_left _ _ (by omega), Int.ediv_eq_zero_of_lt (by omega) (by omega)]; omega
theorem nearG_nonneg {n d : Int} (hd : 0 < d) (hn : 0 ≤ n) : 0 ≤ nearG n d := Int.ediv_nonneg (by omega) (by omega)
theorem nearG_le {n d m : Int} (hd : 0 < d) (h : n ≤ m * d) : nearG n d ≤ m := by
 unfold nearG
 have : (2 * n + d) / (2 * d) < m + 1 := by
  rw [Int.ediv_lt_iff_lt_mul (by omega), show (m + 1) * (2 * d) = 2 * (m * d) + 2 * d by rw [Int.add_mul, Int.one_mul, Int.mul_left_comm]]
  omega
 omega
theorem nearG_ge {n d m : Int} (hd : 0 < d) (h : m * d ≤ n) : m ≤ nearG n d := by
 unfold nearG
 rw [Int.le_ediv_iff_mul_le (by omega), Int.mul_left_comm]
 omega
/-- a part of a difference lies between -/
theorem nearG_part {a b far all : Int} (ha : 0 < all) (h0 : 0 ≤ far) (h1 : far ≤ all) : min a b ≤ a + nearG ((b - a) * far) all ∧ a + nearG ((b - a) * far) all ≤ max a b := by
 by_cases h : a ≤ b
 ·have e1 : 0 ≤ (b - a) * far := Int.mul_nonneg (by omega) h0
  have e2 : (b - a) * far ≤ (b - a) * all := Int.mul_le_mul_of_nonneg_left h1 (by omega)
  have := nearG_nonneg ha e1
  have := nearG_le ha e2
  omega
 ·have e1 : (b - a) * far ≤ 0 * all := by rw [Int.zero_mul]; exact Int.mul_nonpos_of_nonpos_of_nonneg (by omega) h0
  have e2 : (b - a) * all ≤ (b - a) * far := Int.mul_le_mul_of_nonpos_left (by omega) h1
  have := nearG_le ha e1
  have := nearG_ge ha e2
  omega
/-- the quotient rounded down, out of the one that is cut off -/
theorem floor_tdiv {n d : Int} (hd : 0 < d) : n / d = if n.tmod d < 0 then n.tdiv d - 1 else n.tdiv d := by
 by_cases h : 0 ≤ n
 ·rw [Int.tdiv_eq_ediv_of_nonneg h, Int.tmod_eq_emod_of_nonneg h, if_neg]
  have := Int.emod_nonneg n (by omega : d ≠ 0)
  omega
 ·obtain ⟨m, rfl⟩ : ∃ m, n = -m := ⟨-n, by omega⟩
  rw [Int.neg_tmod, Int.neg_tdiv, Int.tdiv_eq_ediv_of_nonneg (by omega), Int.tmod_eq_emod_of_nonneg (by omega)]
  have h1 := Int.emod_add_mul_ediv m d
  have h2 := Int.emod_nonneg m (by omega : d ≠ 0)
  have h3 := Int.emod_lt_of_pos m hd
  generalize m / d = q at *
  generalize m % d = r at *
  subst h1
  split
  ·rw [show -(r + d * q) = (d - r) + d * (-q - 1) by rw [Int.mul_sub, Int.mul_neg]; omega, Int.add_mul_ediv_left _ _ (by omega), Int.ediv_eq_zero_of_lt (by omega) (by omega)]; omega
  ·obtain rfl : r = 0 := by omega
   rw [show -(0 + d * q) = 0 + d * (-q) by rw [Int.mul_neg]; omega, Int.add_mul_ediv_left _ _ (by omega)]; simp
def absI (n : Int) : Int := if n < 0 then -n else n
theorem absI_nonneg (n : Int) : 0 ≤ absI n := by unfold absI; split <;> omega
end Go.Proofs.YtlnoelbeaolikaaGreat
namespace Go.Proofs.YtlnoelbeaolikaaGreat
open Go.RowKit
set_option maxHeartbeats 400000 in
theorem implAbs_any (n : Int) (w : World) (h0 : -1000000000000000000 ≤ n) (h1 : n ≤ 1000000000000000000) : Calls Tryz.prog 156 #[.int .i64 n] w fun e w' => e = .returned (.int .i64 (absI n)) ∧ w = w' := by
 by_cases h : n < 0
 ·have HA := hid (show absI n = -n from if_pos h)
  go_enter Tryz.func156, Tryz.ntmps156
  go_wp2
  go_ret
  exact ⟨by rw [HA.out]; rfl, rfl⟩
 ·have HA := hid (show absI n = n from if_neg h)
  go_enter Tryz.func156, Tryz.ntmps156
  go_wp2
  go_ret
  exact ⟨by rw [HA.out]; rfl, rfl⟩
set_option maxHeartbeats 400000 in
theorem l05Size_any (n : Int) (w : World) (h0 : -1000000000000000000 ≤ n) (h1 : n ≤ 1000000000000000000) : Calls Tryz.prog 185 #[.int .i64 n] w fun e w' => e = .returned (.int .i64 (absI n)) ∧ w = w' := by
 by_cases h : n < 0
 ·have HA := hid (show absI n = -n from if_pos h)
  go_enter Tryz.func185, Tryz.ntmps185
  go_wp2
  go_ret
  exact ⟨by rw [HA.out]; rfl, rfl⟩
 ·have HA := hid (show absI n = n from if_neg h)
  go_enter Tryz.func185, Tryz.ntmps185
  go_wp2
  go_ret
  exact ⟨by rw [HA.out]; rfl, rfl⟩
set_option maxHeartbeats 400000 in
theorem l09Size_any (n : Int) (w : World) (h0 : -1000000000000000000 ≤ n) (h1 : n ≤ 1000000000000000000) : Calls Tryz.prog 180 #[.int .i64 n] w fun e w' => e = .returned (.int .i64 (absI n)) ∧ w = w' := by
 by_cases h : n < 0
 ·have HA := hid (show absI n = -n from if_pos h)
  go_enter Tryz.func180, Tryz.ntmps180
  go_wp2
  go_ret
  exact ⟨by rw [HA.out]; rfl, rfl⟩
 ·have HA := hid (show absI n = n from if_neg h)
  go_enter Tryz.func180, Tryz.ntmps180
  go_wp2
  go_ret
  exact ⟨by rw [HA.out]; rfl, rfl⟩
set_option maxRecDepth 100000 in
set_option maxHeartbeats 1000000 in
theorem l05Root_any (n : Nat) (w : World) (hn : n ≤ 1000000000000000) : Calls Tryz.prog 224 #[.int .i64 n] w fun e w' => e = .returned (.int .i64 (isq n)) ∧ w = w' := by
 have hs : isq n ≤ 40000000 := by have := isq_lt (n := n) (r := 40000001) (by omega); omega
 obtain ⟨s, hsd⟩ : ∃ s, s = isq n := ⟨_, rfl⟩
 rw [← hsd] at hs ⊢
 have HS := hid hsd
 clear hsd
 go_enter Tryz.func224, Tryz.ntmps224
 go_wp2
 go_loopw [3, 4] (fun a b wr => ∃ lo hi : Nat, a = .int .i64 lo ∧ b = .int .i64 hi ∧ lo ≤ s ∧ s ≤ hi ∧ hi ≤ 40000000 ∧ wr = w) (fun a b _ => (intOf b).toNat - (intOf a).toNat)
 case atStart => exact ⟨0, 40000000, rfl, rfl, Nat.zero_le _, hs, Nat.le_refl _, rfl⟩
 case round =>
  obtain ⟨lo, hi, rfl, rfl, h1, h2, h3, rfl⟩ := hrel
  by_cases hlt : lo < hi
  ·obtain ⟨m, hm⟩ : ∃ m, m = (lo + hi + 1) / 2 := ⟨_, rfl⟩
   have hmi : ((lo : Int) + (hi : Int) + 1) / 2 = (m : Int) := by omega
   have hm1 : lo < m := by omega
   have hm2 : m ≤ hi := by omega
   have hmm : (m : Int) * (m : Int) ≤ 1600000000000000 := by
    have := Int.mul_le_mul (show (m : Int) ≤ 40000000 by omega) (show (m : Int) ≤ 40000000 by omega) (by omega) (by omega)
    omega
   have hmm0 : 0 ≤ (m : Int) * (m : Int) := Int.mul_nonneg (by omega) (by omega)
   by_cases hc : m * m ≤ n
   ·have hci : (m : Int) * (m : Int) ≤ (n : Int) := by exact_mod_cast hc
    have HL := hid (show m ≤ s by rw [HS.out]; exact le_isq hc)
    clear hm hc
    go_wp2_with fail
    go_roundw
    case rel => exact ⟨m, hi, by first | rfl | rw [hmi], rfl, HL.out, h2, h3, by first | rfl | trivial⟩
    case measure => simp [intOf]; omega
   ·have hci : ¬ ((m : Int) * (m : Int) ≤ (n : Int)) := by exact_mod_cast hc
    have HL := hid (show s ≤ m - 1 by rw [HS.out]; have := isq_lt (n := n) (r := m) (by omega); omega)
    clear hm hc
    go_wp2_with fail
    go_roundw
    case rel => exact ⟨lo, m - 1, rfl, by first | go_num | (rw [hmi]; go_num), h1, HL.out, by omega, by first | rfl | trivial⟩
    case measure => simp [intOf]; omega
  ·have hl : ¬ ((lo : Int) < (hi : Int)) := by omega
   have HE := hid (show lo = s by omega)
   go_wp2_with fail
   go_ret
   exact ⟨by rw [HE.out]; rfl, rfl⟩
theorem bitLenAux_bd (n : Nat) (h0 : ¬ n = 0) (hn : n ≤ 1000000000000000) : n < (2 : Nat) ^ Lib.bitLen n ∧ Lib.bitLen n ≤ 50 := by
 have h1 := Lib.bitLenAux_bounds 64 n (by omega) h0
 refine ⟨h1.2.2, ?_⟩
 by_cases hc : Lib.bitLen n ≤ 50
 ·exact hc
 ·have h2 := h1.2.1
  have h3 : 2 ^ 50 ≤ 2 ^ (Lib.bitLenAux 64 n - 1) := Nat.pow_le_pow_right (by omega) (by unfold Lib.bitLen at hc; omega)
  omega
set_option maxRecDepth 100000 in
set_option maxHeartbeats 1000000 in
theorem rootOf_any (n : Nat) (w : World) (hn : n ≤ 1000000000000000) : Calls Tryz.prog 230 #[.int .i64 n] w fun e w' => e = .returned (.int .i64 (isq n)) ∧ w = w' := by
 by_cases h0 : n = 0
 ·subst h0
  have HE := hid (isq_eq (n := 0) (r := 0) (by decide) (by decide))
  go_enter Tryz.func230, Tryz.ntmps230
  go_wp2
  go_ret
  exact ⟨by rw [← HE.out]; rfl, rfl⟩
 obtain ⟨s, hsd⟩ : ∃ s, s = isq n := ⟨_, rfl⟩
 rw [← hsd]
 have HS := hid hsd
 have hbl := bitLenAux_bd n h0 hn
 obtain ⟨k, hk⟩ : ∃ k, k = Lib.bitLen n := ⟨_, rfl⟩
 have CL := Tryz.bits_Len64 (n : Int) w (by omega) (by omega)
 rw [Int.toNat_natCast, ← hk] at CL
 rw [← hk] at hbl
 have hst := newton_start hbl.1
 rw [← HS.out] at hst
 have hk2 := hbl.2
 have hs0 : 0 < s := by rw [HS.out]; exact isq_pos (by omega)
 obtain ⟨r, hr⟩ : ∃ r : Nat, r = 2 ^ ((k + 1) / 2) := ⟨_, rfl⟩
 rw [← hr] at hst
 have hr2 : r ≤ 33554432 := by
  rw [hr]
  have : (2 : Nat) ^ ((k + 1) / 2) ≤ 2 ^ 25 := Nat.pow_le_pow_right (by omega) (by omega)
  omega
 have hpw : (2 : Int) ^ ((k + 1) / 2) = (r : Int) := by rw [hr]; simp
 have hr0 : (0 : Int) < (r : Int) := by omega
 have hrn : ¬ ((r : Int) = 0) := by omega
 obtain ⟨q, hq⟩ : ∃ q : Nat, q = n / r := ⟨_, rfl⟩
 have hqn : q ≤ n := by rw [hq]; exact Nat.div_le_self _ _
 have hqi : (n : Int) / (r : Int) = (q : Int) := by rw [hq]; simp
 have hx0 : s ≤ r := by omega
 have hx1 : Hid ((r + q) / 2 = (r + n / r) / 2) := hid (by rw [hq])
 have hni : ¬ ((n : Int) = 0) := by omega
 have hn2 : ¬ (n = 0) := by omega
 clear hk hbl hsd hr hq
 go_enter Tryz.func230, Tryz.ntmps230
 go_wp2_with fail
 refine CL.mono ?_
 rintro e w' ⟨rfl, rfl⟩
 go_wp2_with fail
 go_loopw [3, 4] (fun a b wr => ∃ r nx : Nat, a = .int .i64 r ∧ b = .int .i64 nx ∧ s ≤ r ∧ r ≤ 33554432 ∧ Hid (nx = (r + n / r) / 2) ∧ wr = w') (fun a _ _ => (intOf a).toNat)
 case atStart => exact ⟨r, (r + q) / 2, by rw [hpw], by first | (simp; done) | (simp [hpw]; done), hx0, hr2, hid hx1.out, rfl⟩
 case round =>
  clear CL hpw hr0 hrn hqi hx0 hx1 hst hr2 hqn
  obtain ⟨r, nx, rfl, rfl, h1, h2, h3, rfl⟩ := hrel
  have hr0 : 0 < r := by omega
  have hnw := newton_ge (n := n) hr0
  rw [← HS.out, ← h3.out] at hnw
  by_cases hlt : nx < r
  ·obtain ⟨q, hq⟩ : ∃ q : Nat, q = n / nx := ⟨_, rfl⟩
   have hqn : q ≤ n := by rw [hq]; exact Nat.div_le_self _ _
   have hqi : (n : Int) / (nx : Int) = (q : Int) := by rw [hq]; simp
   have hx1 : Hid ((nx + q) / 2 = (nx + n / nx) / 2) := hid (by rw [hq])
   have hrn : ¬ ((nx : Int) = 0) := by omega
   have hrn2 : ¬ (nx = 0) := by omega
   clear hq
   go_wp2_with fail
   go_roundw
   case rel => exact ⟨nx, (nx + q) / 2, rfl, by simp, hnw, by omega, hid hx1.out, by first | rfl | trivial⟩
   case measure => simp [intOf]; omega
  ·have hl : ¬ ((nx : Int) < (r : Int)) := by omega
   have HE := hid (show r = s by rw [HS.out]; exact newton_end hr0 (by rw [← HS.out]; exact h1) (by rw [← h3.out]; omega))
   go_wp2_with fail
   go_ret
   exact ⟨by rw [HE.out]; rfl, rfl⟩
end Go.Proofs.YtlnoelbeaolikaaGreat
