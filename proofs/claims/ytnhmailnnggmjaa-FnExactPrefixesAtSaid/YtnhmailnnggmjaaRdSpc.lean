/- What a beam keeps: the calls of the reference. -/
import Derived.Test.YtnhmailnnggmjaaRdStatF
import Derived.Test.YtnhmailnnggmjaaRdStatT
import Derived.Test.YtnhmailnnggmjaaRdImp
namespace Go.Proofs.Ytnhmailnnggmjaa
open Go.RowKit

theorem l16States_any (p q0 : Nat) (v vy : Value) (N m : Nat) (x : List DEdge) (y : XLexicon) (w : World) (hp0 : w.cell? ⟨p, 0, none⟩ = some (.int .i64 N)) (hp1 : w.cell? ⟨p, 1, none⟩ = some v) (hq0 : w.cell? ⟨q0, 0, none⟩ = some vy) (h : Arr eEdge w v x) (hY : Arr eEntry w vy y) (oky : okLexicon y) (gy : goodLexicon y) (hv : validLt ((N : Int), x) = true) (hm1 : 1 ≤ m) (hm : m ≤ 1000) :
    Calls Try.prog 50 #[.pointer (some ⟨p, 0, none⟩), .pointer (some ⟨q0, 0, none⟩), .int .i64 m] w fun e w' => ∃ g vs, e = .returned (.slice (some ⟨g, 0, none⟩) N N) ∧ RowsR g N w' vs (statesR m (begLx y) (beg0 y) x) ∧ w.heap.size ≤ g ∧ Below w.heap.size w w' := by
  cases hbe : begLx y ⟨#[]⟩
  · exact l16StatesF_any p q0 v vy N m x y w hp0 hp1 hq0 h hY oky gy hv hm1 hm hbe
  · exact l16StatesT_any p q0 v vy N m x y w hp0 hp1 hq0 h hY oky gy hv hm1 hm hbe
end Go.Proofs.Ytnhmailnnggmjaa
namespace Go.Proofs.Ytnhmailnnggmjaa
open Go.RowKit Go.Sort
attribute [local go_sem ↓] Go.wp_at_zero Go.wp_at_succ

set_option maxHeartbeats 4000000 in
set_option maxRecDepth 100000 in
theorem specBeamStates_any (v1 : Value) (x : XLattice) (v2 : Value) (y : XLexicon) (k v : Int) (w : World) {lo1 hi1 lo2 hi2 : Nat} (h1 : rLattice.at_ lo1 hi1 w v1 x) (h2 : rLexicon.at_ lo2 hi2 w v2 y) (ok1 : okLattice x) (ok2 : okLexicon y) (g1 : goodLattice x) (g2 : goodLexicon y) :
    Calls Try.prog 35 #[v1, v2, .int .i64 k, .int .i64 v] w (RetNew rReadingS (bsL x y k v) #[.int .i64 (bsC x y k v)] w) := by
  obtain ⟨u1, rfl, h1⟩ := h1
  obtain ⟨u2, rfl, h2⟩ := h2
  replace h1 := ArrIn.arr h1
  replace h2 := ArrIn.arr h2
  obtain ⟨n, x⟩ := x
  obtain ⟨a1, k1, hu⟩ := h1.isSlice
  subst hu
  obtain ⟨a2, k2, hu⟩ := h2.isSlice
  subst hu
  simp only at h1
  obtain ⟨W, hW⟩ : ∃ W, W = (w.alloc (.cells #[.int .i64 n, .slice a1 x.length k1] 32)).alloc (.cells #[.slice a2 y.length k2] 51) := ⟨_, rfl⟩
  have hbW : Below w.heap.size w W := by rw [hW]; exact belowA2 _ _ _
  have q1 : Box W w.heap.size #[.int .i64 n, .slice a1 x.length k1] 32 := by rw [hW]; exact (Box.new w _ _).later (below_alloc _ _)
  have q2 : Box W (w.heap.size + 1) #[.slice a2 y.length k2] 51 := by
    rw [hW]
    have := Box.new (w.alloc (.cells #[.int .i64 n, .slice a1 x.length k1] 32)) #[.slice a2 y.length k2] 51
    simp at this
    exact this
  have hA := h1.below hbW
  have hB := h2.below hbW
  obtain ⟨p1, hp1⟩ : ∃ p, p = w.heap.size := ⟨_, rfl⟩
  obtain ⟨p2, hp2⟩ : ∃ p, p = w.heap.size + 1 := ⟨_, rfl⟩
  rw [← hp1] at q1
  rw [← hp2] at q2
  have hlt : w.heap.size ≤ W.heap.size := hbW.size
  have HP1 := hid hp1
  have HP2 := hid hp2
  have HW := hid hW
  clear hp1 hp2 hW h1 h2
  have m10 := q1.cell (j := 0) rfl
  have m11 := q1.cell (j := 1) rfl
  have m20 := q2.cell (j := 0) rfl
  have finish : ∀ (w' : World) (u : Value) (z : List DReading) (c : Int), Hid (bsL (n, x) y k v = z ∧ bsC (n, x) y k v = c) → Own eReading 27 w.heap.size w' u z → Below w.heap.size w w' → RetNew rReadingS (bsL (n, x) y k v) #[.int .i64 (bsC (n, x) y k v)] w (.returned (.tuple #[u, .int .i64 c])) w' := by
    intro w' u z c hz ho hb
    rw [hz.out.1, hz.out.2]
    exact ⟨_, rfl, rReadingS_own ho (Nat.le_refl _), hb⟩
  have CB := l17Code_any p1 p2 n (.slice a1 x.length k1) (.slice a2 y.length k2) x y k W m10 m11 m20 hA hB ok1 g1 ok2 g2
  rcases Decidable.em (¬ codeB (n, x) y k = 0) with hcb | hcb
  · have HZ : Hid (bsL (n, x) y k v = [] ∧ bsC (n, x) y k v = codeB (n, x) y k) := by show _ ∧ _; simp [bsL, bsC, hcb]
    obtain ⟨cb, hcbd⟩ : ∃ cb, cb = codeB (n, x) y k := ⟨_, rfl⟩
    rw [← hcbd] at CB HZ hcb
    have hcd : (cb == 0) = false := by simpa using hcb
    clear hcbd
    go_enter Try.func35, Try.ntmps35
    go_wp2_with fail
    rw [← HP2.out, ← HP1.out, ← HW.out]
    refine CB.mono ?_
    rintro e w3 ⟨rfl, hb⟩
    go_wp2_with fail
    go_ret2
    exact finish _ _ _ _ HZ (Own.nil _ _ _) (hbW.trans (hb.mono hlt))
  · replace hcb := Decidable.not_not.1 hcb
    rw [hcb] at CB
    obtain ⟨hv, hvy, kk1, kk2⟩ := codeB_0 hcb
    obtain ⟨b1, b2, b3⟩ := valid_bd hv
    obtain ⟨N, rfl⟩ : ∃ N : Nat, n = N := ⟨n.toNat, by omega⟩
    obtain ⟨m, rfl⟩ : ∃ m : Nat, k = m := ⟨k.toNat, by omega⟩
    have hNi : (N : Int) ≤ 20 := by omega
    have hNw : IntKind.i64.wrap ((N : Int) - 1) = (N : Int) - 1 := IntWalk.i64_in _ (by omega)
    have CI : ∀ w', Calls Try.prog 44 #[.int .i64 v, .int .i64 0, .int .i64 ((N : Int) - 1)] w' fun e w'' => e = .returned (.bool (inB v 0 ((N : Int) - 1))) ∧ w' = w'' := fun w' => l00In_any _ _ _ w'
    have CM := fun w' (hb : Below W.heap.size W w') => l16States_any p1 p2 (.slice a1 x.length k1) (.slice a2 y.length k2) N m x y w' (cell_later hb m10) (cell_later hb m11) (cell_later hb m20) (hA.below hb) (hB.below hb) ok2 g2 hv (by omega) (by omega)
    cases hi : inB v 0 ((N : Int) - 1)
    · have HZ : Hid (bsL ((N : Int), x) y (m : Int) v = [] ∧ bsC ((N : Int), x) y (m : Int) v = 2) := by show _ ∧ _; simp [bsL, bsC, hcb, hi]
      rw [hi] at CI
      go_enter Try.func35, Try.ntmps35
      go_wp2_with fail
      rw [← HP2.out, ← HP1.out, ← HW.out]
      refine CB.mono ?_
      rintro e w3 ⟨rfl, hb⟩
      have s10 := cell_later hb m10
      go_wp2_with (go_at_call 44; refine (CI _).mono ?_; rintro e w' ⟨rfl, rfl⟩)
      go_ret2
      exact finish _ _ _ _ HZ (Own.nil _ _ _) (hbW.trans (hb.mono hlt))
    · rw [hi] at CI
      have hi' := inB_true.1 hi
      obtain ⟨t, rfl⟩ : ∃ t : Nat, v = t := ⟨v.toNat, by omega⟩
      have htN : t < N := by omega
      have htNi : (t : Int) < (N : Int) := by omega
      have hlen := stB_ok (y := y) (m := m) hv (by omega) t
      have HZ : Hid (bsL ((N : Int), x) y (m : Int) (t : Int) = stB ((N : Int), x) y m t ∧ bsC ((N : Int), x) y (m : Int) (t : Int) = 0) := by
        show _ ∧ _
        simp only [bsL, bsC, hcb, hi, if_true, and_self, Int.toNat_natCast]
      obtain ⟨RS, hRS⟩ : ∃ RS, RS = stB ((N : Int), x) y m t := ⟨_, rfl⟩
      have hRS2 : statesR m (begLx y) (beg0 y) x t = RS := hRS.symm
      rw [← hRS] at HZ hlen
      have HRS := hid hRS2
      clear hcb hi hi' hRS hRS2
      go_enter Try.func35, Try.ntmps35
      go_wp2_with fail
      rw [← HP2.out, ← HP1.out, ← HW.out]
      refine CB.mono ?_
      rintro e w3 ⟨rfl, hb⟩
      have s10 := cell_later hb m10
      have hbA := hb.trans ((below_alloc w3 (.cells #[] 27)).mono hb.size)
      have hl3 : w.heap.size ≤ w3.heap.size := Nat.le_trans hlt hb.size
      go_wp2_with (first | (go_at_call 44; refine (CI _).mono ?_; rintro e w' ⟨rfl, rfl⟩) | (go_at_call 50; refine (CM _ hbA).mono ?_; rintro e w4 ⟨g, vs, rfl, hr, hg, hb4⟩; obtain ⟨⟨sa, sn, sc⟩, hsv, hsn, a0, hAr⟩ := hr.get htN; simp only at a0 hAr; rw [HRS.out] at a0 hAr) | (at_builtin; (refine wpList_appA rfl _ _ 37 rfl w.heap.size 27 _ 24 infReading Try.underlying37 rfl _ [] rfl ((Own.empty (E := eReading) 27 w3 hl3).below (hb4.mono (by simp))) _ RS rfl (ArrIn.arr hAr) (by unfold maxLen; simp; omega) (by simp; omega) (Nat.le_trans hl3 (Nat.le_trans (by simp) hb4.size)) ?_; intro v' wA hoA hbA2 htA)))
      go_ret2
      exact finish _ _ _ _ HZ (by simpa using hoA) ((hbW.trans ((hbA.trans (hb4.mono hbA.size)).mono hlt)).trans hbA2)
end Go.Proofs.Ytnhmailnnggmjaa
namespace Go.Proofs.Ytnhmailnnggmjaa
open Go.RowKit Go.Sort
attribute [local go_sem ↓] Go.wp_at_zero Go.wp_at_succ

theorem own_boxT {α : Type} {E : Enc α} {e : TypeId} {B g n cap : Nat} {w : World} {xs : List α} (h : Own E e B w (.slice (some ⟨g, 0, none⟩) n cap) xs) : BoxT w g e := by
  rcases h.2 with ⟨h0, _⟩ | ⟨g', cap', cur, hv, _, hh, _⟩
  · cases h0
  · cases hv; exact ⟨cur, _, hh⟩
set_option maxHeartbeats 4000000 in
set_option maxRecDepth 100000 in
theorem specBeamSizes_any (v1 : Value) (x : XLattice) (v2 : Value) (y : XLexicon) (k : Int) (w : World) {lo1 hi1 lo2 hi2 : Nat} (h1 : rLattice.at_ lo1 hi1 w v1 x) (h2 : rLexicon.at_ lo2 hi2 w v2 y) (ok1 : okLattice x) (ok2 : okLexicon y) (g1 : goodLattice x) (g2 : goodLexicon y) :
    Calls Try.prog 30 #[v1, v2, .int .i64 k] w (RetNew rInt64S (bzL x y k) #[.int .i64 (codeB x y k)] w) := by
  obtain ⟨u1, rfl, h1⟩ := h1
  obtain ⟨u2, rfl, h2⟩ := h2
  replace h1 := ArrIn.arr h1
  replace h2 := ArrIn.arr h2
  obtain ⟨n, x⟩ := x
  obtain ⟨a1, k1, hu⟩ := h1.isSlice
  subst hu
  obtain ⟨a2, k2, hu⟩ := h2.isSlice
  subst hu
  simp only at h1
  obtain ⟨W, hW⟩ : ∃ W, W = (w.alloc (.cells #[.int .i64 n, .slice a1 x.length k1] 32)).alloc (.cells #[.slice a2 y.length k2] 51) := ⟨_, rfl⟩
  have hbW : Below w.heap.size w W := by rw [hW]; exact belowA2 _ _ _
  have q1 : Box W w.heap.size #[.int .i64 n, .slice a1 x.length k1] 32 := by rw [hW]; exact (Box.new w _ _).later (below_alloc _ _)
  have q2 : Box W (w.heap.size + 1) #[.slice a2 y.length k2] 51 := by
    rw [hW]
    have := Box.new (w.alloc (.cells #[.int .i64 n, .slice a1 x.length k1] 32)) #[.slice a2 y.length k2] 51
    simp at this
    exact this
  have hA := h1.below hbW
  have hB := h2.below hbW
  obtain ⟨p1, hp1⟩ : ∃ p, p = w.heap.size := ⟨_, rfl⟩
  obtain ⟨p2, hp2⟩ : ∃ p, p = w.heap.size + 1 := ⟨_, rfl⟩
  rw [← hp1] at q1
  rw [← hp2] at q2
  have hlt : w.heap.size ≤ W.heap.size := hbW.size
  have HP1 := hid hp1
  have HP2 := hid hp2
  have HW := hid hW
  clear hp1 hp2 hW h1 h2
  have m10 := q1.cell (j := 0) rfl
  have m11 := q1.cell (j := 1) rfl
  have m20 := q2.cell (j := 0) rfl
  have finish : ∀ (w' : World) (u : Value) (z : List Int) (c : Int), Hid (bzL (n, x) y k = z ∧ codeB (n, x) y k = c) → Own eI 2 w.heap.size w' u z → Below w.heap.size w w' → RetNew rInt64S (bzL (n, x) y k) #[.int .i64 (codeB (n, x) y k)] w (.returned (.tuple #[u, .int .i64 c])) w' := by
    intro w' u z c hz ho hb
    rw [hz.out.1, hz.out.2]
    exact ⟨_, rfl, rInt64S_own ho (Nat.le_refl _), hb⟩
  have CB := l17Code_any p1 p2 n (.slice a1 x.length k1) (.slice a2 y.length k2) x y k W m10 m11 m20 hA hB ok1 g1 ok2 g2
  rcases Decidable.em (¬ codeB (n, x) y k = 0) with hcb | hcb
  · obtain ⟨cb, hcbd⟩ : ∃ cb, cb = codeB (n, x) y k := ⟨_, rfl⟩
    have HZ' : Hid (bzL (n, x) y k = [] ∧ codeB (n, x) y k = cb) := by show _ ∧ _; simp [bzL, hcb, hcbd]
    rw [← hcbd] at CB hcb
    have hcd : (cb == 0) = false := by simpa using hcb
    clear hcbd
    go_enter Try.func30, Try.ntmps30
    go_wp2_with fail
    rw [← HP2.out, ← HP1.out, ← HW.out]
    refine CB.mono ?_
    rintro e w3 ⟨rfl, hb⟩
    go_wp2_with fail
    go_ret2
    exact finish _ _ _ _ HZ' (Own.nil _ _ _) (hbW.trans (hb.mono hlt))
  · replace hcb := Decidable.not_not.1 hcb
    rw [hcb] at CB
    obtain ⟨hv, hvy, kk1, kk2⟩ := codeB_0 hcb
    obtain ⟨b1, b2, b3⟩ := valid_bd hv
    obtain ⟨N, rfl⟩ : ∃ N : Nat, n = N := ⟨n.toNat, by omega⟩
    obtain ⟨m, rfl⟩ : ∃ m : Nat, k = m := ⟨k.toNat, by omega⟩
    have hNi : (N : Int) ≤ 20 := by omega
    have CM := fun w' (hb : Below W.heap.size W w') => l16States_any p1 p2 (.slice a1 x.length k1) (.slice a2 y.length k2) N m x y w' (cell_later hb m10) (cell_later hb m11) (cell_later hb m20) (hA.below hb) (hB.below hb) ok2 g2 hv (by omega) (by omega)
    have HZ : Hid (bzL ((N : Int), x) y (m : Int) = (List.range N).map (fun v => ((statesR m (begLx y) (beg0 y) x v).length : Int)) ∧ codeB ((N : Int), x) y (m : Int) = 0) := by
      show _ ∧ _
      refine ⟨?_, hcb⟩
      simp only [bzL, hcb, if_true, stB, Int.toNat_natCast]
    obtain ⟨st, hst⟩ : ∃ st, st = statesR m (begLx y) (beg0 y) x := ⟨_, rfl⟩
    rw [← hst] at CM HZ
    clear hcb hst
    go_enter Try.func30, Try.ntmps30
    go_wp2_with fail
    rw [← HP2.out, ← HP1.out, ← HW.out]
    refine CB.mono ?_
    rintro e w3 ⟨rfl, hb⟩
    have hbA := hb.trans ((below_alloc w3 (.cells #[] 2)).mono hb.size)
    have hl3 : w.heap.size ≤ w3.heap.size := Nat.le_trans hlt hb.size
    have ho0 := Own.empty (E := eI) 2 w3 hl3
    go_wp2_with (go_at_call 50; refine (CM _ hbA).mono ?_; rintro e w4 ⟨g, vs, rfl, hr, hg, hb4⟩)
    have hb5 := hbA.trans (hb4.mono hbA.size)
    have hbe := hbW.trans (hb5.mono hlt)
    have ho4 := ho0.below hb4
    obtain ⟨H, hH⟩ : ∃ H, H = w.heap.size := ⟨_, rfl⟩
    have HH := hid hH
    have hbt := own_boxT hr.own
    have hrow : ∀ v, v < N → ∃ a c, w4.cell? ⟨g, v, none⟩ = some (.slice a (st v).length c) := fun v hv => by
      obtain ⟨s, _, _, h1, _⟩ := hr.get hv
      exact ⟨s.a, s.c, h1⟩
    clear hb hb4 hb5 hbA ho0 hr
    go_loopw [9, 11] (fun l i wr => ∃ j : Nat, j ≤ N ∧ i = .int .i64 j ∧ Own eI 2 w.heap.size wr l ((List.range j).map fun v => ((st v).length : Int)) ∧ BoxT wr g 37 ∧ (∀ v, v < N → ∃ a c, wr.cell? ⟨g, v, none⟩ = some (.slice a (st v).length c)) ∧ Below w.heap.size w wr) (fun _ i _ => N - (intOf i).toNat)
    case atStart => exact ⟨0, Nat.zero_le _, rfl, by simpa using ho4, hbt, hrow, hbe⟩
    case round =>
      clear hbt hrow ho4
      obtain ⟨j, hj, rfl, ho, hbt, hrow, hb⟩ := hrel
      have hHr : w.heap.size ≤ wr.heap.size := hb.size
      obtain ⟨LS, hLS⟩ : ∃ LS, LS = (List.range j).map fun v => ((st v).length : Int) := ⟨_, rfl⟩
      have hll : LS.length = j := by rw [hLS]; simp
      rw [← hLS] at ho
      have HLS := hid hLS
      have HLL := hid hll
      obtain ⟨sl, sc, hls⟩ := ho.isSlice
      subst hls
      clear hLS hll
      by_cases hlt2 : j < N
      · have hji : (j : Int) < (N : Int) := by omega
        obtain ⟨sa2, sc2, a0⟩ := hrow j hlt2
        have HN : Hid (LS ++ [((st j).length : Int)] = (List.range (j + 1)).map fun v => ((st v).length : Int)) := hid (by rw [HLS.out, List.range_succ]; simp)
        have HBT := hid hbt
        have HROW := hid hrow
        clear hbt hrow
        go_wp2_with (at_builtin; (refine wpList_appA rfl _ _ 61 rfl w.heap.size 2 _ 8 infI64 Try.underlying61 rfl _ LS rfl (ho.alloc _) _ [((st j).length : Int)] rfl (by exact arr_block1 (E := eI) (n := 1) [((st j).length : Int)] #[.int .i64 ((st j).length : Int)] rfl rfl (maxLen_ge (Nat.le_of_ble_eq_true rfl)) (by simp)) (by have := HLL.out; unfold maxLen; simp <;> omega) (by have := HLL.out; simp <;> omega) (by simp <;> omega) ?_; intro v' wA hoA hbA htA))
        go_roundw
        case rel =>
          have hb1 := HBT.out.below (below_alloc wr (.cells #[.int .i64 ((st j).length : Int)] 2))
          refine ⟨j + 1, by omega, by go_num, by rw [← HN.out]; exact hoA, hb1.typed htA rfl, fun v hv => ?_, (hb.alloc hHr _).trans hbA⟩
          obtain ⟨a, c, h1⟩ := HROW.out v hv
          exact ⟨a, c, typed_cell htA hb1 rfl (cell_alloc h1 _)⟩
        case measure => simp [intOf]; omega
      · have hjN : j = N := by omega
        have hjd : ¬ ((j : Int) < (N : Int)) := by omega
        have HF : Hid (LS = (List.range N).map fun v => ((st v).length : Int)) := hid (by rw [HLS.out, hjN])
        clear hjN
        go_wp2_with fail
        go_ret2
        exact finish _ _ _ _ HZ (by rw [← HF.out]; exact ho) hb
end Go.Proofs.Ytnhmailnnggmjaa
