/- NewPerceptron: both calls. -/
import Derived.Test.YtdifhnckhocmdaaPcGrow
import Derived.Test.YtdifhnckhocmdaaPcValid
import Derived.Test.YtdifhnckhocmdaaReg
namespace Go.Proofs.Ytdifhnckhocmdaa
open Go.RowKit

def zeroRow : List Int := List.replicate 25 0
def newX (L : XStringS) : XPerceptron := if labsOk L then (L, List.replicate L.length zeroRow) else ([], [])
def newC (L : XStringS) : Int := if labsOk L then 0 else 1
theorem labs_len {L : XStringS} (h : labsOk L = true) : 1 ≤ L.length ∧ L.length ≤ 12 := by
  unfold labsOk at h
  rw [Bool.and_eq_true, inB_true] at h
  omega
theorem okNew (L : XStringS) : okPerceptron (newX L) := by
  unfold newX
  split
  · rename_i h
    have hl := labs_len h
    refine ⟨by show L.length ≤ 1048576; omega, ?_⟩
    have e : ∀ n, totSS (List.replicate n zeroRow) = 25 * n := fun n => by
      induction n with
      | zero => rfl
      | succ n ih =>
        rw [List.replicate_succ]
        unfold totSS sumOf at *
        rw [List.map_cons, List.sum_cons, ih]
        have : zeroRow.length = 25 := by simp [zeroRow]
        omega
    show (List.replicate L.length zeroRow).length + totSS (List.replicate L.length zeroRow) ≤ 1048576
    rw [e, List.length_replicate]
    omega
  · exact ⟨by show ([] : XStringS).length ≤ 1048576; simp, by show ([] : XInt64SS).length + totSS [] ≤ 1048576; simp [totSS, sumOf]⟩
theorem NestSt.now {lo : Nat} {u : Value} {vs : List SV} {Y : List (List Int)} {w w' : World} (h : NestSt eI 2 41 lo w.heap.size u vs Y w) (hb : Below w.heap.size w w') : NestSt eI 2 41 lo w'.heap.size u vs Y w' :=
  ⟨(OwnIn.chg h.outer (Chg.of_below (a := 0) (b := 0) hb) (.inl (Nat.zero_le _))).mono (Nat.le_refl _) hb.size, h.len, fun i s x hs hx => (OwnIn.chg (h.inner i s x hs hx) (Chg.of_below (a := 0) (b := 0) hb) (.inl (Nat.zero_le _))).mono (Nat.le_refl _) hb.size, h.apart⟩
/-- the struct that is being built -/
def FinN (q : Nat) (ul : Value) (U : World) (X : List (List Int)) (w : World) : Prop := ∃ uo vs, Box w q #[ul, uo] 28 ∧ NestSt eI 2 41 (q + 1) w.heap.size uo vs X w ∧ Below q U w
theorem FinN.below {q : Nat} {ul : Value} {U : World} {X : List (List Int)} {w w' : World} (h : FinN q ul U X w) (hb : Below w.heap.size w w') : FinN q ul U X w' := by
  obtain ⟨uo, vs, h1, h2, h3⟩ := h
  exact ⟨uo, vs, h1.later hb, h2.now hb, h3.trans (hb.mono (Nat.le_of_lt h1.lt))⟩
def NewRow (lo : Nat) (w : World) (s : SV) (r : List Int) : Prop := OwnIn eI 2 lo w.heap.size w s.val r
theorem NewRow.below {lo : Nat} {w w' : World} {s : SV} {r : List Int} (h : NewRow lo w s r) (hb : Below w.heap.size w w') : NewRow lo w' s r :=
  (OwnIn.chg h (Chg.of_below (a := 0) (b := 0) hb) (.inl (Nat.zero_le _))).mono (Nat.le_refl _) hb.size
theorem infRow1 : (Try.prog.info? 41).map (fun i => (i.zero, i.size, i.bytes)) = some (some (.slice none 0 0), eS1.sz, 24) := by kernel_rfl
theorem grownBox {w w' : World} {q : Nat} {cs : Array Value} {T : TypeId} {r : Option Nat} (h : Box w q cs T) (hg : w.grownBy w' r) (hne : some q ≠ r) : Box w' q cs T := by
  unfold Box at *
  rw [hg.block q (Array.getElem?_eq_some_iff.1 h).1 hne]; exact h
theorem nestOuter {lo hi : Nat} {u : Value} {vs : List SV} {Y : List (List Int)} {w w' : World} (h : NestSt eI 2 41 lo hi u vs Y w) (hb : Below w.heap.size w w') : Own eS1 41 lo w' u vs := (OwnIn.chg h.outer (Chg.of_below (a := 0) (b := 0) hb) (.inl (Nat.zero_le _))).1
theorem ownBlk_lt {α : Type} {E : Enc α} {e : TypeId} {lo : Nat} {w : World} {u : Value} {xs : List α} {q : Nat} (h : Own E e (q + 1) w u xs) (_ : lo = lo) : some q ≠ u.ownBlock := fun e2 => by
  have := (World.ownsRow.lt h q e2.symm).1
  omega
set_option maxRecDepth 100000 in
set_option maxHeartbeats 4000000 in
theorem implNewPerceptron_any (v : Value) (L : XStringS) (w : World) {lo hi : Nat} (h : rStringS.at_ lo hi w v L) (ok : okStringS L) (g : goodStringS L) :
    Calls Try.prog 17 #[v] w (RetNew rPerceptron (newX L) #[.int .i64 (newC L)] w) := by
  replace h := rStringS_arr h
  obtain ⟨sa, sc, hv⟩ := h.isSlice
  subst hv
  have hok : L.length ≤ 1048576 := ok
  obtain ⟨W, hW⟩ : ∃ u, u = (w.alloc (.cells #[.slice none 0 0, .slice none 0 0] 28)) := ⟨_, rfl⟩
  have hbW : Below w.heap.size w W := by rw [hW]; exact belowA1 _ _
  have q1 : Box W (w.heap.size) #[.slice none 0 0, .slice none 0 0] 28 := by
    have hq := Box.new w #[.slice none 0 0, .slice none 0 0] 28
    rw [hW]
    exact hq
  obtain ⟨p1, hp1⟩ : ∃ p, p = w.heap.size := ⟨_, rfl⟩
  rw [← hp1] at q1
  have hge1 : w.heap.size ≤ p1 := by omega
  have hlW : w.heap.size ≤ W.heap.size := hbW.size
  have hlp1 : p1 < W.heap.size := q1.lt
  have HP1 := hid hp1
  have HW := hid hW
  clear hW hp1
  have hW1 := h.below hbW
  have CV := validClasses_any _ L W hW1 ok g
  cases hl : labsOk L
  · rw [hl] at CV
    have HG : Hid (newX L = ([], []) ∧ newC L = 1) := by show _ ∧ _; simp [newX, newC, hl]
    go_enter Try.func17, Try.ntmps17
    go_wp2_with fail
    rw [← HP1.out, ← HW.out]
    refine CV.mono ?_
    rintro e w2 ⟨rfl, hb2⟩
    have f0 := (q1.later hb2).cell (j := 0) rfl
    have f1 := (q1.later hb2).cell (j := 1) rfl
    have ff := (q1.later hb2).free
    have hbE := hbW.trans (hb2.mono hlW)
    go_wp2_with fail
    refine bodyPost_ret (v := .tuple #[.agg #[.slice none 0 0, .slice none 0 0], .int .i64 1]) (by simp [results, Try.results17, go_sem, f0, f1]) rfl ⟨.agg #[.slice none 0 0, .slice none 0 0], by rw [HG.out.2]; rfl, ?_, ?_⟩
    · rw [HG.out.1]
      exact ⟨_, _, rfl, ((Own.nil _ _ w.heap.size).in_), (NestSt.emp _).own⟩
    · exact (hbE.setCell hge1 _).setCell hge1 _
  · rw [hl] at CV
    have HG : Hid (newX L = (L, List.replicate L.length zeroRow) ∧ newC L = 0) := by show _ ∧ _; simp [newX, newC, hl]
    go_enter Try.func17, Try.ntmps17
    go_wp2_with fail
    rw [← HP1.out, ← HW.out]
    refine CV.mono ?_
    rintro e w2 ⟨rfl, hb2⟩
    go_wp2_with fail
    refine (cloneStr_any _ L w2 (hW1.below hb2) hok).mono ?_
    rintro e w3 ⟨ul, rfl, hoL, hb3⟩
    obtain ⟨la, lc, hul⟩ := hoL.isSlice
    subst hul
    obtain ⟨q, hq⟩ : ∃ q, q = w3.heap.size := ⟨_, rfl⟩
    go_wp2_with fail
    rw [← hq]
    obtain ⟨w4, hw4⟩ : ∃ w4, w4 = w3.alloc (.cells #[.slice la L.length lc, .slice none 0 0] 28) := ⟨_, rfl⟩
    rw [← hw4]
    have hbx : Box w4 q #[.slice la L.length lc, .slice none 0 0] 28 := by rw [hw4, hq]; exact Box.new _ _ _
    have hq4 : q < w4.heap.size := hbx.lt
    have hp1q : p1 < q := by have := hb2.size; have := hb3.size; omega
    have bx1 : Box w4 p1 #[.slice none 0 0, .slice none 0 0] 28 := by rw [hw4]; exact ((q1.later hb2).later hb3).alloc _
    have oL4 : OwnIn eStr 9 w2.heap.size q w4 (.slice la L.length lc) L := by rw [hq, hw4]; exact (hoL.in_).chg (Chg.of_below (a := 0) (b := 0) (below_alloc _ _)) (.inl (Nat.zero_le _))
    have hbw4 : Below w.heap.size w w4 := by rw [hw4]; exact ((hbW.trans (hb2.mono hlW)).trans (hb3.mono (Nat.le_trans hlW hb2.size))).trans ((below_alloc _ _).mono (by have := hb2.size; have := hb3.size; omega))
    have hWw2 : W.heap.size ≤ w2.heap.size := hb2.size
    have hwq : w.heap.size ≤ q := by omega
    have hw2q : w.heap.size ≤ w2.heap.size := Nat.le_trans hlW hb2.size
    have HQ := hid hq
    have HW4 := hid hw4
    clear hq hw4
    go_loopw [14] (fun i wr => ∃ k : Nat, k ≤ L.length ∧ i = .int .i64 k ∧ FinN q (.slice la L.length lc) w4 (List.replicate k zeroRow) wr) (fun i _ => L.length - (intOf i).toNat)
    case atStart => exact ⟨0, Nat.zero_le _, rfl, _, [], hbx, NestSt.emp w4, Below.refl _ _⟩
    case round =>
      clear hbx
      obtain ⟨k, hk, rfl, uo, vs, hbx, hst, hbl⟩ := hrel
      have hvl : vs.length = k := by rw [hst.len]; simp
      obtain ⟨oa, oc, huo⟩ := hst.outer.1.isSlice
      rw [hvl] at huo
      subst huo
      have a1 := hbx.cell (j := 1) rfl
      have hlt' := hbx.lt
      by_cases hlt : k < L.length
      · have hli : (k : Int) < (L.length : Int) := by omega
        go_wp2_with fail
        refine wp_region_stg 4 6 (fun c w' => match c with | 0 => Below wr.heap.size wr w' | 1 => (Box w' q #[.slice la L.length lc, .slice oa k oc] 28 ∧ Below q wr w') | _ => FinN q (.slice la L.length lc) w4 (List.replicate k zeroRow ++ [zeroRow]) w') (fun c i v w' => match i with
              | 0 => v = .pointer (some ⟨q, 1, none⟩)
              | 1 => v = .slice oa k oc
              | 2 => (match c with | 0 => (∃ s : SV, v = s.val ∧ NewRow wr.heap.size w' s zeroRow) | 1 => True | _ => True)
              | 3 => (match c with | 0 => (∃ s : SV, Arr eS1 w' v [s] ∧ NewRow wr.heap.size w' s zeroRow) | 1 => True | _ => True)
              | 4 => (match c with | 0 => True | 1 => (∃ s : SV, NestSt eI 2 41 (q + 1) w'.heap.size v (vs ++ [s]) (List.replicate k zeroRow ++ [zeroRow]) w') | _ => True)
              | 5 => v = .pointer (some ⟨q, 1, none⟩)
              | 6 => (match c with | 0 => True | 1 => True | _ => True)
              | _ => True) (by kernel_rfl) (by kernel_rfl) (by kernel_rfl) (by kernel_rfl) (by kernel_rfl) ?_ ?_ ?_ ?_ ?_ ?_ (by decide) ?_
        · exact (Below.refl _ wr).drew
        · intro c w w' h hb
          match c, h with
          | 0, h => exact Below.trans (B := wr.heap.size) h (hb.mono (Below.size h))
          | 1, h => exact ⟨h.1.later hb, h.2.trans (hb.mono (Nat.le_of_lt h.1.lt))⟩
          | (k + 2), h => exact (FinN.below h hb)
        · intro c i v w w' h hb
          match i, h with
          | 0, h => exact h
          | 1, h => exact h
          | 2, h =>
            match c, h with
            | 0, h => exact (h.imp fun _ h' => ⟨h'.1, h'.2.below hb⟩)
            | 1, h => exact trivial
            | (k + 2), h => exact trivial
          | 3, h =>
            match c, h with
            | 0, h => exact (h.imp fun _ h' => ⟨h'.1.below hb, h'.2.below hb⟩)
            | 1, h => exact trivial
            | (k + 2), h => exact trivial
          | 4, h =>
            match c, h with
            | 0, h => exact trivial
            | 1, h => exact (h.imp fun _ h' => h'.now hb)
            | (k + 2), h => exact trivial
          | 5, h => exact h
          | 6, h =>
            match c, h with
            | 0, h => exact trivial
            | 1, h => exact trivial
            | (k + 2), h => exact trivial
          | (k + 7), h => exact h
        · refine ⟨?_, ?_, ?_, ?_, ?_, ?_, ?_, trivial⟩
          · refine .inr (.inr ⟨fun _ => ?_, can_no (by kernel_rfl), can_no (by kernel_rfl)⟩)
            · intro ρ w' hbw ht hcs hfn hgl hdep G hG
              replace hbw : Below wr.heap.size wr w' := hbw
              refine ⟨fun _ => ?_, fun h => by cases h⟩
              have s4 : ρ (.tmp 4) = .pointer (some ⟨q, 0, none⟩) := ht 4 rfl
              clear ht hdep hgl
              go_simp
              exact hG _ _ (Below.refl _ _) rfl
          · refine .inr (.inr ⟨fun _ => ?_, can_no (by kernel_rfl), can_no (by kernel_rfl)⟩)
            · intro ρ w' hbw ht hcs hfn hgl hdep G hG
              replace hbw : Below wr.heap.size wr w' := hbw
              refine ⟨fun _ => ?_, fun h => by cases h⟩
              have s16 : ρ (.tmp 16) = .pointer (some ⟨q, 1, none⟩) := hdep ⟨0, .data⟩ (by simp) rfl 16 rfl
              have a1 := cell_later hbw a1
              clear ht hdep hgl
              go_simp
              exact hG _ _ (Below.refl _ _) rfl
          · refine .inr (.inr ⟨fun _ => ?_, can_no (by kernel_rfl), can_no (by kernel_rfl)⟩)
            · intro ρ w' hbw ht hcs hfn hgl hdep G hG
              replace hbw : Below wr.heap.size wr w' := hbw
              refine ⟨fun _ => ?_, fun h => by cases h⟩
              clear ht hdep hgl
              refine upon_makeI _ _ (by rfl) 25 (hcs _) (hcs _) (by decide) ?_
              intro w5 ho5 hb5
              exact hG _ _ hb5 ⟨⟨some ⟨w'.heap.size, 0, none⟩, 25, 25⟩, rfl, ho5.in_.mono hbw.size (Nat.le_refl _)⟩
          · refine .inr (.inr ⟨fun _ => ?_, can_no (by kernel_rfl), can_no (by kernel_rfl)⟩)
            · intro ρ w' hbw ht hcs hfn hgl hdep G hG
              replace hbw : Below wr.heap.size wr w' := hbw
              refine ⟨fun _ => ?_, fun h => by cases h⟩
              have d18 := hdep ⟨2, .data⟩ (by simp) rfl 18 rfl
              clear ht hdep hgl
              obtain ⟨s, s18, r18⟩ := d18
              have s18 : ρ (.tmp 18) = .slice s.a s.n s.c := s18
              go_simp
              exact hG _ _ (below_alloc _ _) ⟨s, arr_block1 (E := eS1) (n := 1) [s] #[.slice s.a s.n s.c] rfl rfl (by decide) (by simp), r18.below (below_alloc _ _)⟩
          · exact .inl rfl
          · refine .inr (.inr ⟨fun _ => ?_, fun _ => ?_, can_no (by kernel_rfl)⟩)
            · intro ρ w' hbw ht hcs hfn hgl hdep G hG
              replace hbw : Below wr.heap.size wr w' := hbw
              refine ⟨fun _ => ?_, fun h => by cases h⟩
              have s4 : ρ (.tmp 4) = .pointer (some ⟨q, 0, none⟩) := ht 4 rfl
              clear ht hdep hgl
              go_simp
              exact hG _ _ (Below.refl _ _) rfl
            · intro ρ w' hbw ht hcs hfn hgl hdep G hG
              replace hbw : (Box w' q #[.slice la L.length lc, .slice oa k oc] 28 ∧ Below q wr w') := hbw
              refine ⟨fun _ => ?_, fun h => by cases h⟩
              have s4 : ρ (.tmp 4) = .pointer (some ⟨q, 0, none⟩) := ht 4 rfl
              clear ht hdep hgl
              go_simp
              exact hG _ _ (Below.refl _ _) rfl
          · exact .inr (.inl rfl)
        · intro o ho
          obtain rfl := Option.some.inj ho
          intro ρ w' hbw ht hcs hfn hgl hdep G hG
          replace hbw : Below wr.heap.size wr w' := hbw
          refine ⟨fun _ => ?_, fun h => by cases h⟩
          have s17 : ρ (.tmp 17) = .slice oa k oc := hdep ⟨1, .data⟩ (by simp) rfl 17 rfl
          have d19 := hdep ⟨3, .data⟩ (by simp) rfl 19 rfl
          clear ht hdep hgl
          obtain ⟨s, a19, r19⟩ := d19
          refine upon_appO _ _ 23 (by rfl) (q + 1) 41 _ 24 infRow1 Try.underlying23 rfl _ vs s17 (nestOuter hst hbw) [s] a19 (by unfold maxLen; simp <;> omega) (by simp <;> omega) (by have := hbw.size; omega) ?_
          intro v' wA hoA hgA hlA
          refine hG _ _ ⟨grownBox (hbx.later hbw) hgA (ownBlk_lt (lo := 0) (nestOuter hst hbw) rfl), (hbw.mono (Nat.le_of_lt hlt')).grown hgA (by have := hbw.size; omega) (fun kk hh => by have := (World.ownsRow.lt (nestOuter hst hbw) kk hh).1; omega)⟩ ⟨s, hst.push (by omega) hbw r19 hoA hgA⟩ ?_
          intro j u hj hne h
          match j, h with
          | 0, h => exact h
          | 1, h => exact h
          | 2, h => exact trivial
          | 3, h => exact trivial
          | 4, h => exact absurd rfl hne
          | 5, h => exact h
          | 6, h => exact trivial
          | (k + 7), h => exact h
        · intro o ho
          obtain rfl := Option.some.inj ho
          intro ρ w' hbw ht hcs hfn hgl hdep G hG
          replace hbw : (Box w' q #[.slice la L.length lc, .slice oa k oc] 28 ∧ Below q wr w') := hbw
          refine ⟨fun _ => ?_, fun h => by cases h⟩
          have s21 : ρ (.tmp 21) = .pointer (some ⟨q, 1, none⟩) := hdep ⟨5, .data⟩ (by simp) rfl 21 rfl
          have d20 := hdep ⟨4, .data⟩ (by simp) rfl 20 rfl
          clear ht hdep hgl
          obtain ⟨s, h20⟩ := d20
          obtain ⟨ua, uc, hu⟩ := h20.outer.1.isSlice
          rw [show (vs ++ [s]).length = k + 1 from by simp [hvl]] at hu
          rw [hu] at h20
          have f0 := hbw.1.cell (j := 1) rfl
          have ff := hbw.1.free
          have hx := hid (show FinN q (.slice la L.length lc) w4 (List.replicate k zeroRow ++ [zeroRow]) (w'.setCell ⟨q, 1, none⟩ (.slice ua (k + 1) uc)) from ⟨_, _, hbw.1.set 1 _, by simpa using h20.chg (chg_set w' q 1 (.slice ua (k + 1) uc)) (.inl (Nat.le_refl _)), (hbl.trans hbw.2).setCell (Nat.le_refl _) _⟩)
          clear h20
          go_simp
          refine hG _ _ hx.out trivial ?_
          intro j u hj hne h
          match j, h with
          | 0, h => exact h
          | 1, h => exact h
          | 2, h => exact trivial
          | 3, h => exact trivial
          | 4, h => exact trivial
          | 5, h => exact h
          | 6, h => exact trivial
          | (k + 7), h => exact h
        intro xx w6 hF hx
        clear hx
        simp only [putAll, Act.put, List.setIfInBounds_toArray, List.set_cons_succ, List.set_cons_zero, Nat.zero_add, Nat.reduceAdd]
        go_wp2_with fail
        go_roundw
        case rel => exact ⟨k + 1, by omega, by go_num, by rw [List.replicate_succ']; exact hF⟩
        case measure => simp [intOf]; omega
      · obtain rfl : k = L.length := by omega
        have hli : ¬ ((L.length : Int) < (L.length : Int)) := by omega
        have bxr := bx1.below hbl hp1q
        have f0 := bxr.cell (j := 0) rfl
        have f1 := bxr.cell (j := 1) rfl
        have ff := bxr.free
        have b0 := hbx.cell (j := 0) rfl
        have hbE := hbw4.trans (hbl.mono hwq)
        have oLr := oL4.chg (show Chg q (w4.heap.size) w4 wr from ⟨hbl.os, hbl.tape, hbl.output, hbl.size, fun k hk hj => hbl.block k (by omega)⟩) (.inr (Nat.le_refl _))
        go_wp2_with fail
        refine bodyPost_ret (v := .tuple #[.agg #[.slice la L.length lc, .slice oa L.length oc], .int .i64 0]) (by simp [results, Try.results17, go_sem, f0, f1]) rfl ⟨.agg #[.slice la L.length lc, .slice oa L.length oc], by rw [HG.out.2]; rfl, ?_, ?_⟩
        · rw [HG.out.1]
          refine ⟨_, _, rfl, ?_, ?_⟩
          · exact ((oLr.chg (chg_set wr p1 0 _) (.inl (by omega))).chg (chg_set _ p1 1 _) (.inl (by omega))).mono hw2q (by simp; omega)
          · have := ((hst.chg (chg_set wr p1 0 (.slice la L.length lc)) (.inl (by omega))).chg (chg_set _ p1 1 (.slice oa L.length oc)) (.inl (by omega))).own
            exact rInt64SS.own_mono this (by omega) (by simp)
        · exact (hbE.setCell hge1 _).setCell hge1 _
set_option maxRecDepth 100000 in
set_option maxHeartbeats 4000000 in
theorem specNewPerceptron_any (v : Value) (L : XStringS) (w : World) {lo hi : Nat} (h : rStringS.at_ lo hi w v L) (ok : okStringS L) (g : goodStringS L) :
    Calls Try.prog 15 #[v] w (RetNew rPerceptron (newX L) #[.int .i64 (newC L)] w) := by
  replace h := rStringS_arr h
  obtain ⟨sa, sc, hv⟩ := h.isSlice
  subst hv
  have hok : L.length ≤ 1048576 := ok
  obtain ⟨W, hW⟩ : ∃ u, u = (w.alloc (.cells #[.slice none 0 0, .slice none 0 0] 28)) := ⟨_, rfl⟩
  have hbW : Below w.heap.size w W := by rw [hW]; exact belowA1 _ _
  have q1 : Box W (w.heap.size) #[.slice none 0 0, .slice none 0 0] 28 := by
    have hq := Box.new w #[.slice none 0 0, .slice none 0 0] 28
    rw [hW]
    exact hq
  obtain ⟨p1, hp1⟩ : ∃ p, p = w.heap.size := ⟨_, rfl⟩
  rw [← hp1] at q1
  have hge1 : w.heap.size ≤ p1 := by omega
  have hlW : w.heap.size ≤ W.heap.size := hbW.size
  have hlp1 : p1 < W.heap.size := q1.lt
  have HP1 := hid hp1
  have HW := hid hW
  clear hW hp1
  have hW1 := h.below hbW
  have CV := l12Labels_any _ L W hW1 ok g
  cases hl : labsOk L
  · rw [hl] at CV
    have HG : Hid (newX L = ([], []) ∧ newC L = 1) := by show _ ∧ _; simp [newX, newC, hl]
    go_enter Try.func15, Try.ntmps15
    go_wp2_with fail
    rw [← HP1.out, ← HW.out]
    refine CV.mono ?_
    rintro e w2 ⟨rfl, hb2⟩
    have f0 := (q1.later hb2).cell (j := 0) rfl
    have f1 := (q1.later hb2).cell (j := 1) rfl
    have ff := (q1.later hb2).free
    have hbE := hbW.trans (hb2.mono hlW)
    go_wp2_with fail
    refine bodyPost_ret (v := .tuple #[.agg #[.slice none 0 0, .slice none 0 0], .int .i64 1]) (by simp [results, Try.results15, go_sem, f0, f1]) rfl ⟨.agg #[.slice none 0 0, .slice none 0 0], by rw [HG.out.2]; rfl, ?_, ?_⟩
    · rw [HG.out.1]
      exact ⟨_, _, rfl, ((Own.nil _ _ w.heap.size).in_), (NestSt.emp _).own⟩
    · exact (hbE.setCell hge1 _).setCell hge1 _
  · rw [hl] at CV
    have HG : Hid (newX L = (L, List.replicate L.length zeroRow) ∧ newC L = 0) := by show _ ∧ _; simp [newX, newC, hl]
    go_enter Try.func15, Try.ntmps15
    go_wp2_with fail
    rw [← HP1.out, ← HW.out]
    refine CV.mono ?_
    rintro e w2 ⟨rfl, hb2⟩
    go_wp2_with (at_builtin; (refine wpList_appA rfl _ _ 22 rfl w2.heap.size 9 _ 16 infStr Try.underlying22 rfl _ _ rfl (Own.empty (E := eStr) 9 w2 (Nat.le_refl _)) _ L rfl (by exact (hW1.below hb2).alloc _) (by unfold maxLen; simp; omega) (by simp; omega) (by simp) ?_; intro ul w3 hoL hbA htA; obtain ⟨la, lc, hul⟩ := hoL.isSlice; subst hul; rw [List.nil_append] at *))
    have hb3 : Below w2.heap.size w2 w3 := (below_alloc _ _).trans hbA
    obtain ⟨q, hq⟩ : ∃ q, q = w3.heap.size := ⟨_, rfl⟩
    rw [← hq]
    obtain ⟨w4, hw4⟩ : ∃ w4, w4 = w3.alloc (.cells #[.slice la L.length lc, .slice none 0 0] 28) := ⟨_, rfl⟩
    rw [← hw4]
    have hbx : Box w4 q #[.slice la L.length lc, .slice none 0 0] 28 := by rw [hw4, hq]; exact Box.new _ _ _
    have hq4 : q < w4.heap.size := hbx.lt
    have hp1q : p1 < q := by have := hb2.size; have := hb3.size; omega
    have bx1 : Box w4 p1 #[.slice none 0 0, .slice none 0 0] 28 := by rw [hw4]; exact ((q1.later hb2).later hb3).alloc _
    have oL4 : OwnIn eStr 9 w2.heap.size q w4 (.slice la L.length lc) L := by rw [hq, hw4]; exact (hoL.in_).chg (Chg.of_below (a := 0) (b := 0) (below_alloc _ _)) (.inl (Nat.zero_le _))
    have hbw4 : Below w.heap.size w w4 := by rw [hw4]; exact ((hbW.trans (hb2.mono hlW)).trans (hb3.mono (Nat.le_trans hlW hb2.size))).trans ((below_alloc _ _).mono (by have := hb2.size; have := hb3.size; omega))
    have hWw2 : W.heap.size ≤ w2.heap.size := hb2.size
    have hwq : w.heap.size ≤ q := by omega
    have hw2q : w.heap.size ≤ w2.heap.size := Nat.le_trans hlW hb2.size
    have HQ := hid hq
    have HW4 := hid hw4
    clear hq hw4
    go_loopw [15] (fun i wr => ∃ k : Nat, k ≤ L.length ∧ i = .int .i64 k ∧ FinN q (.slice la L.length lc) w4 (List.replicate k zeroRow) wr) (fun i _ => L.length - (intOf i).toNat)
    case atStart => exact ⟨0, Nat.zero_le _, rfl, _, [], hbx, NestSt.emp w4, Below.refl _ _⟩
    case round =>
      clear hbx
      obtain ⟨k, hk, rfl, uo, vs, hbx, hst, hbl⟩ := hrel
      have hvl : vs.length = k := by rw [hst.len]; simp
      obtain ⟨oa, oc, huo⟩ := hst.outer.1.isSlice
      rw [hvl] at huo
      subst huo
      have a1 := hbx.cell (j := 1) rfl
      have hlt' := hbx.lt
      by_cases hlt : k < L.length
      · have hli : (k : Int) < (L.length : Int) := by omega
        go_wp2_with fail
        refine wp_region_stg 4 6 (fun c w' => match c with | 0 => Below wr.heap.size wr w' | 1 => (Box w' q #[.slice la L.length lc, .slice oa k oc] 28 ∧ Below q wr w') | _ => FinN q (.slice la L.length lc) w4 (List.replicate k zeroRow ++ [zeroRow]) w') (fun c i v w' => match i with
              | 0 => v = .pointer (some ⟨q, 1, none⟩)
              | 1 => v = .slice oa k oc
              | 2 => (match c with | 0 => (∃ s : SV, v = s.val ∧ NewRow wr.heap.size w' s zeroRow) | 1 => True | _ => True)
              | 3 => (match c with | 0 => (∃ s : SV, Arr eS1 w' v [s] ∧ NewRow wr.heap.size w' s zeroRow) | 1 => True | _ => True)
              | 4 => (match c with | 0 => True | 1 => (∃ s : SV, NestSt eI 2 41 (q + 1) w'.heap.size v (vs ++ [s]) (List.replicate k zeroRow ++ [zeroRow]) w') | _ => True)
              | 5 => v = .pointer (some ⟨q, 1, none⟩)
              | 6 => (match c with | 0 => True | 1 => True | _ => True)
              | _ => True) (by kernel_rfl) (by kernel_rfl) (by kernel_rfl) (by kernel_rfl) (by kernel_rfl) ?_ ?_ ?_ ?_ ?_ ?_ (by decide) ?_
        · exact (Below.refl _ wr).drew
        · intro c w w' h hb
          match c, h with
          | 0, h => exact Below.trans (B := wr.heap.size) h (hb.mono (Below.size h))
          | 1, h => exact ⟨h.1.later hb, h.2.trans (hb.mono (Nat.le_of_lt h.1.lt))⟩
          | (k + 2), h => exact (FinN.below h hb)
        · intro c i v w w' h hb
          match i, h with
          | 0, h => exact h
          | 1, h => exact h
          | 2, h =>
            match c, h with
            | 0, h => exact (h.imp fun _ h' => ⟨h'.1, h'.2.below hb⟩)
            | 1, h => exact trivial
            | (k + 2), h => exact trivial
          | 3, h =>
            match c, h with
            | 0, h => exact (h.imp fun _ h' => ⟨h'.1.below hb, h'.2.below hb⟩)
            | 1, h => exact trivial
            | (k + 2), h => exact trivial
          | 4, h =>
            match c, h with
            | 0, h => exact trivial
            | 1, h => exact (h.imp fun _ h' => h'.now hb)
            | (k + 2), h => exact trivial
          | 5, h => exact h
          | 6, h =>
            match c, h with
            | 0, h => exact trivial
            | 1, h => exact trivial
            | (k + 2), h => exact trivial
          | (k + 7), h => exact h
        · refine ⟨?_, ?_, ?_, ?_, ?_, ?_, ?_, trivial⟩
          · refine .inr (.inr ⟨fun _ => ?_, can_no (by kernel_rfl), can_no (by kernel_rfl)⟩)
            · intro ρ w' hbw ht hcs hfn hgl hdep G hG
              replace hbw : Below wr.heap.size wr w' := hbw
              refine ⟨fun _ => ?_, fun h => by cases h⟩
              have s4 : ρ (.tmp 4) = .pointer (some ⟨q, 0, none⟩) := ht 4 rfl
              clear ht hdep hgl
              go_simp
              exact hG _ _ (Below.refl _ _) rfl
          · refine .inr (.inr ⟨fun _ => ?_, can_no (by kernel_rfl), can_no (by kernel_rfl)⟩)
            · intro ρ w' hbw ht hcs hfn hgl hdep G hG
              replace hbw : Below wr.heap.size wr w' := hbw
              refine ⟨fun _ => ?_, fun h => by cases h⟩
              have s17 : ρ (.tmp 17) = .pointer (some ⟨q, 1, none⟩) := hdep ⟨0, .data⟩ (by simp) rfl 17 rfl
              have a1 := cell_later hbw a1
              clear ht hdep hgl
              go_simp
              exact hG _ _ (Below.refl _ _) rfl
          · refine .inr (.inr ⟨fun _ => ?_, can_no (by kernel_rfl), can_no (by kernel_rfl)⟩)
            · intro ρ w' hbw ht hcs hfn hgl hdep G hG
              replace hbw : Below wr.heap.size wr w' := hbw
              refine ⟨fun _ => ?_, fun h => by cases h⟩
              clear ht hdep hgl
              refine upon_makeI _ _ (by rfl) 25 (hcs _) (hcs _) (by decide) ?_
              intro w5 ho5 hb5
              exact hG _ _ hb5 ⟨⟨some ⟨w'.heap.size, 0, none⟩, 25, 25⟩, rfl, ho5.in_.mono hbw.size (Nat.le_refl _)⟩
          · refine .inr (.inr ⟨fun _ => ?_, can_no (by kernel_rfl), can_no (by kernel_rfl)⟩)
            · intro ρ w' hbw ht hcs hfn hgl hdep G hG
              replace hbw : Below wr.heap.size wr w' := hbw
              refine ⟨fun _ => ?_, fun h => by cases h⟩
              have d19 := hdep ⟨2, .data⟩ (by simp) rfl 19 rfl
              clear ht hdep hgl
              obtain ⟨s, s19, r19⟩ := d19
              have s19 : ρ (.tmp 19) = .slice s.a s.n s.c := s19
              go_simp
              exact hG _ _ (below_alloc _ _) ⟨s, arr_block1 (E := eS1) (n := 1) [s] #[.slice s.a s.n s.c] rfl rfl (by decide) (by simp), r19.below (below_alloc _ _)⟩
          · exact .inl rfl
          · refine .inr (.inr ⟨fun _ => ?_, fun _ => ?_, can_no (by kernel_rfl)⟩)
            · intro ρ w' hbw ht hcs hfn hgl hdep G hG
              replace hbw : Below wr.heap.size wr w' := hbw
              refine ⟨fun _ => ?_, fun h => by cases h⟩
              have s4 : ρ (.tmp 4) = .pointer (some ⟨q, 0, none⟩) := ht 4 rfl
              clear ht hdep hgl
              go_simp
              exact hG _ _ (Below.refl _ _) rfl
            · intro ρ w' hbw ht hcs hfn hgl hdep G hG
              replace hbw : (Box w' q #[.slice la L.length lc, .slice oa k oc] 28 ∧ Below q wr w') := hbw
              refine ⟨fun _ => ?_, fun h => by cases h⟩
              have s4 : ρ (.tmp 4) = .pointer (some ⟨q, 0, none⟩) := ht 4 rfl
              clear ht hdep hgl
              go_simp
              exact hG _ _ (Below.refl _ _) rfl
          · exact .inr (.inl rfl)
        · intro o ho
          obtain rfl := Option.some.inj ho
          intro ρ w' hbw ht hcs hfn hgl hdep G hG
          replace hbw : Below wr.heap.size wr w' := hbw
          refine ⟨fun _ => ?_, fun h => by cases h⟩
          have s18 : ρ (.tmp 18) = .slice oa k oc := hdep ⟨1, .data⟩ (by simp) rfl 18 rfl
          have d20 := hdep ⟨3, .data⟩ (by simp) rfl 20 rfl
          clear ht hdep hgl
          obtain ⟨s, a20, r20⟩ := d20
          refine upon_appO _ _ 23 (by rfl) (q + 1) 41 _ 24 infRow1 Try.underlying23 rfl _ vs s18 (nestOuter hst hbw) [s] a20 (by unfold maxLen; simp <;> omega) (by simp <;> omega) (by have := hbw.size; omega) ?_
          intro v' wA hoA hgA hlA
          refine hG _ _ ⟨grownBox (hbx.later hbw) hgA (ownBlk_lt (lo := 0) (nestOuter hst hbw) rfl), (hbw.mono (Nat.le_of_lt hlt')).grown hgA (by have := hbw.size; omega) (fun kk hh => by have := (World.ownsRow.lt (nestOuter hst hbw) kk hh).1; omega)⟩ ⟨s, hst.push (by omega) hbw r20 hoA hgA⟩ ?_
          intro j u hj hne h
          match j, h with
          | 0, h => exact h
          | 1, h => exact h
          | 2, h => exact trivial
          | 3, h => exact trivial
          | 4, h => exact absurd rfl hne
          | 5, h => exact h
          | 6, h => exact trivial
          | (k + 7), h => exact h
        · intro o ho
          obtain rfl := Option.some.inj ho
          intro ρ w' hbw ht hcs hfn hgl hdep G hG
          replace hbw : (Box w' q #[.slice la L.length lc, .slice oa k oc] 28 ∧ Below q wr w') := hbw
          refine ⟨fun _ => ?_, fun h => by cases h⟩
          have s22 : ρ (.tmp 22) = .pointer (some ⟨q, 1, none⟩) := hdep ⟨5, .data⟩ (by simp) rfl 22 rfl
          have d21 := hdep ⟨4, .data⟩ (by simp) rfl 21 rfl
          clear ht hdep hgl
          obtain ⟨s, h21⟩ := d21
          obtain ⟨ua, uc, hu⟩ := h21.outer.1.isSlice
          rw [show (vs ++ [s]).length = k + 1 from by simp [hvl]] at hu
          rw [hu] at h21
          have f0 := hbw.1.cell (j := 1) rfl
          have ff := hbw.1.free
          have hx := hid (show FinN q (.slice la L.length lc) w4 (List.replicate k zeroRow ++ [zeroRow]) (w'.setCell ⟨q, 1, none⟩ (.slice ua (k + 1) uc)) from ⟨_, _, hbw.1.set 1 _, by simpa using h21.chg (chg_set w' q 1 (.slice ua (k + 1) uc)) (.inl (Nat.le_refl _)), (hbl.trans hbw.2).setCell (Nat.le_refl _) _⟩)
          clear h21
          go_simp
          refine hG _ _ hx.out trivial ?_
          intro j u hj hne h
          match j, h with
          | 0, h => exact h
          | 1, h => exact h
          | 2, h => exact trivial
          | 3, h => exact trivial
          | 4, h => exact trivial
          | 5, h => exact h
          | 6, h => exact trivial
          | (k + 7), h => exact h
        intro xx w6 hF hx
        clear hx
        simp only [putAll, Act.put, List.setIfInBounds_toArray, List.set_cons_succ, List.set_cons_zero, Nat.zero_add, Nat.reduceAdd]
        go_wp2_with fail
        go_roundw
        case rel => exact ⟨k + 1, by omega, by go_num, by rw [List.replicate_succ']; exact hF⟩
        case measure => simp [intOf]; omega
      · obtain rfl : k = L.length := by omega
        have hli : ¬ ((L.length : Int) < (L.length : Int)) := by omega
        have bxr := bx1.below hbl hp1q
        have f0 := bxr.cell (j := 0) rfl
        have f1 := bxr.cell (j := 1) rfl
        have ff := bxr.free
        have b0 := hbx.cell (j := 0) rfl
        have hbE := hbw4.trans (hbl.mono hwq)
        have oLr := oL4.chg (show Chg q (w4.heap.size) w4 wr from ⟨hbl.os, hbl.tape, hbl.output, hbl.size, fun k hk hj => hbl.block k (by omega)⟩) (.inr (Nat.le_refl _))
        go_wp2_with fail
        refine bodyPost_ret (v := .tuple #[.agg #[.slice la L.length lc, .slice oa L.length oc], .int .i64 0]) (by simp [results, Try.results15, go_sem, f0, f1]) rfl ⟨.agg #[.slice la L.length lc, .slice oa L.length oc], by rw [HG.out.2]; rfl, ?_, ?_⟩
        · rw [HG.out.1]
          refine ⟨_, _, rfl, ?_, ?_⟩
          · exact ((oLr.chg (chg_set wr p1 0 _) (.inl (by omega))).chg (chg_set _ p1 1 _) (.inl (by omega))).mono hw2q (by simp; omega)
          · have := ((hst.chg (chg_set wr p1 0 (.slice la L.length lc)) (.inl (by omega))).chg (chg_set _ p1 1 (.slice oa L.length oc)) (.inl (by omega))).own
            exact rInt64SS.own_mono this (by omega) (by simp)
        · exact (hbE.setCell hge1 _).setCell hge1 _
end Go.Proofs.Ytdifhnckhocmdaa
