/- What a beam keeps, with its code: the calls of the implementation. -/
import Derived.Test.YtnhmailnnggmjaaLtValid
import Derived.Test.YtnhmailnnggmjaaLxCost
import Derived.Test.YtnhmailnnggmjaaApp
import Derived.Test.YtnhmailnnggmjaaRdBeam
import Derived.Test.YtnhmailnnggmjaaWrReadingS
import Derived.Test.YtnhmailnnggmjaaWrInt64S
import Derived.Test.YtnhmailnnggmjaaRep
namespace Go.Proofs.Ytnhmailnnggmjaa
open Go.RowKit

def codeB (x : XLattice) (y : XLexicon) (k : Int) : Int := if validLt x && validLx y then (if inB k 1 30 then 0 else 2) else 1
theorem codeB_0 {x : XLattice} {y : XLexicon} {k : Int} (h : codeB x y k = 0) : validLt x = true ∧ validLx y = true ∧ 1 ≤ k ∧ k ≤ 30 := by
  unfold codeB at h
  split at h
  · rename_i h1
    rw [Bool.and_eq_true] at h1
    split at h
    · rename_i h2
      have := inB_true.1 h2
      exact ⟨h1.1, h1.2, this.1, this.2⟩
    · omega
  · omega
set_option maxHeartbeats 2000000 in
theorem l17Code_any (p1 p2 : Nat) (n : Int) (v1 v2 : Value) (x : List DEdge) (y : XLexicon) (k : Int) (w : World) (m0 : w.cell? ⟨p1, 0, none⟩ = some (.int .i64 n)) (m1 : w.cell? ⟨p1, 1, none⟩ = some v1) (m2 : w.cell? ⟨p2, 0, none⟩ = some v2) (hx : Arr eEdge w v1 x) (hy : Arr eEntry w v2 y) (okx : okLattice (n, x)) (gx : goodLattice (n, x)) (oky : okLexicon y) (gy : goodLexicon y) :
    Calls Try.prog 57 #[.pointer (some ⟨p1, 0, none⟩), .pointer (some ⟨p2, 0, none⟩), .int .i64 k] w (Ret (.int .i64 (codeB (n, x) y k)) w) := by
  have C1 := l15Ok_any p1 n v1 x w m0 m1 hx okx gx
  have C2 := fun w' (hb : Below w.heap.size w w') => l16Ok_any p2 v2 y w' (cell_later hb m2) (hy.below hb) oky gy
  have CI : ∀ w', Calls Try.prog 44 #[.int .i64 k, .int .i64 1, .int .i64 30] w' fun e w'' => e = .returned (.bool (inB k 1 30)) ∧ w' = w'' := fun w' => l00In_any _ _ _ w'
  cases h1 : validLt (n, x)
  · rw [h1] at C1
    have HZ : Hid (codeB (n, x) y k = 1) := by show _ = _; simp [codeB, h1]
    go_enter Try.func57, Try.ntmps57
    go_wp2_with (go_at_call 38; refine C1.mono ?_; rintro e w2 ⟨rfl, hb⟩)
    go_ret
    exact ret_int HZ.out.symm hb
  rw [h1] at C1
  cases h2 : validLx y
  · rw [h2] at C2
    have HZ : Hid (codeB (n, x) y k = 1) := by show _ = _; simp [codeB, h1, h2]
    go_enter Try.func57, Try.ntmps57
    go_wp2_with (first | (go_at_call 38; refine C1.mono ?_; rintro e w2 ⟨rfl, hb⟩) | (go_at_call 49; refine (C2 _ hb).mono ?_; rintro e w3 ⟨rfl, hb3⟩))
    go_ret
    exact ret_int HZ.out.symm (hb.trans (hb3.mono hb.size))
  rw [h2] at C2
  cases h3 : inB k 1 30
  all_goals
    rw [h3] at CI
    go_enter Try.func57, Try.ntmps57
    go_wp2_with (first | (go_at_call 38; refine C1.mono ?_; rintro e w2 ⟨rfl, hb⟩) | (go_at_call 49; refine (C2 _ hb).mono ?_; rintro e w3 ⟨rfl, hb3⟩) | (go_at_call 44; refine (CI _).mono ?_; rintro e w' ⟨rfl, rfl⟩))
    go_ret
    exact ret_int (by simp [codeB, h1, h2, h3]) (hb.trans (hb3.mono hb.size))
set_option maxHeartbeats 2000000 in
theorem beamable_any (v1 : Value) (x : XLattice) (v2 : Value) (y : XLexicon) (k : Int) (w : World) {lo1 hi1 lo2 hi2 : Nat} (h1 : rLattice.at_ lo1 hi1 w v1 x) (h2 : rLexicon.at_ lo2 hi2 w v2 y) (okx : okLattice x) (oky : okLexicon y) (gx : goodLattice x) (gy : goodLexicon y) :
    Calls Try.prog 59 #[v1, v2, .int .i64 k] w (Ret (.int .i64 (codeB x y k)) w) := by
  have a1 := h1
  have a2 := h2
  obtain ⟨u1, rfl, h1⟩ := h1
  obtain ⟨u2, rfl, h2⟩ := h2
  obtain ⟨n, x⟩ := x
  obtain ⟨W, hW⟩ : ∃ W, W = (w.alloc (.cells #[.int .i64 n, u1] 32)).alloc (.cells #[u2] 51) := ⟨_, rfl⟩
  have hbW : Below w.heap.size w W := by rw [hW]; exact (below_alloc _ _).trans ((below_alloc _ _).mono (by simp))
  have c0 : W.cell? ⟨w.heap.size, 0, none⟩ = some (.int .i64 n) := by rw [hW]; simp
  have c1 : W.cell? ⟨w.heap.size, 1, none⟩ = some u1 := by rw [hW]; simp
  have c2 : W.cell? ⟨w.heap.size + 1, 0, none⟩ = some u2 := by rw [hW]; simp
  have A1 := rLattice.at_below a1 hbW
  have A2 := rLexicon.at_below a2 hbW
  have C1 := implValidLattice_any _ (n, x) W A1 okx gx
  have C2 := fun w' (hb : Below W.heap.size W w') => implValidLexicon_any _ y w' (rLexicon.at_below A2 hb) oky gy
  have CI : ∀ w', Calls Try.prog 45 #[.int .i64 k, .int .i64 1, .int .i64 30] w' fun e w'' => e = .returned (.bool (inB k 1 30)) ∧ w' = w'' := fun w' => within_any _ _ _ w'
  have HW := hid hW
  have hlt := hbW.size
  clear hW
  cases h1' : validLt (n, x)
  · rw [h1'] at C1
    have HZ : Hid (codeB (n, x) y k = 1) := by show _ = _; simp [codeB, h1']
    go_enter Try.func59, Try.ntmps59
    go_wp2_with (go_at_call 41; rw [← HW.out]; refine C1.mono ?_; rintro e w2 ⟨rfl, hb⟩; have d2 := cell_later hb c2)
    go_ret
    exact ret_int HZ.out.symm (hbW.trans (hb.mono hlt))
  rw [h1'] at C1
  cases h2' : validLx y
  · rw [h2'] at C2
    have HZ : Hid (codeB (n, x) y k = 1) := by show _ = _; simp [codeB, h1', h2']
    go_enter Try.func59, Try.ntmps59
    go_wp2_with (first | (go_at_call 41; rw [← HW.out]; refine C1.mono ?_; rintro e w2 ⟨rfl, hb⟩; have d2 := cell_later hb c2) | (go_at_call 52; refine (C2 _ hb).mono ?_; rintro e w3 ⟨rfl, hb3⟩))
    go_ret
    exact ret_int HZ.out.symm (hbW.trans ((hb.trans (hb3.mono hb.size)).mono hlt))
  rw [h2'] at C2
  cases h3 : inB k 1 30
  all_goals
    rw [h3] at CI
    go_enter Try.func59, Try.ntmps59
    go_wp2_with (first | (go_at_call 41; rw [← HW.out]; refine C1.mono ?_; rintro e w2 ⟨rfl, hb⟩; have d2 := cell_later hb c2) | (go_at_call 52; refine (C2 _ hb).mono ?_; rintro e w3 ⟨rfl, hb3⟩) | (go_at_call 45; refine (CI _).mono ?_; rintro e w' ⟨rfl, rfl⟩))
    go_ret
    exact ret_int (by simp [codeB, h1', h2', h3]) (hbW.trans ((hb.trans (hb3.mono hb.size)).mono hlt))
end Go.Proofs.Ytnhmailnnggmjaa
namespace Go.Proofs.Ytnhmailnnggmjaa
open Go.RowKit Go.Sort
attribute [local go_sem ↓] Go.wp_at_zero Go.wp_at_succ

theorem infI64 : (Try.prog.info? 2).map (fun i => (i.zero, i.size, i.bytes)) = some (some (.int .i64 0), eI.sz, 8) := by kernel_rfl
def stB (x : XLattice) (y : XLexicon) (m : Nat) : SR := statesR m (begLx y) (beg0 y) x.2
def bsL (x : XLattice) (y : XLexicon) (k v : Int) : List DReading := if codeB x y k = 0 ∧ inB v 0 (x.1 - 1) = true then stB x y k.toNat v.toNat else []
def bsC (x : XLattice) (y : XLexicon) (k v : Int) : Int := if codeB x y k = 0 then (if inB v 0 (x.1 - 1) then 0 else 2) else codeB x y k
def bzL (x : XLattice) (y : XLexicon) (k : Int) : List Int := if codeB x y k = 0 then (List.range x.1.toNat).map fun v => ((stB x y k.toNat v).length : Int) else []
theorem stB_ok {n : Nat} {x : List DEdge} {y : XLexicon} {m : Nat} (hv : validLt ((n : Int), x) = true) (hm : 1 ≤ m) (v : Nat) : (stB ((n : Int), x) y m v).length ≤ m := by
  unfold stB
  rcases Nat.eq_zero_or_pos v with h | h
  · subst h
    rw [states_zero (valid_good hv) (valid_rises hv)]
    unfold beg0
    split
    · simpa using hm
    · simp
  · rw [states_pos (valid_good hv) (valid_rises hv) _ _ _ h]
    exact topR_len _ _
theorem okBs {x : XLattice} {y : XLexicon} {k v : Int} : okReadingS (bsL x y k v) := by
  unfold bsL okReadingS
  split
  · rename_i h
    obtain ⟨n, x⟩ := x
    obtain ⟨h1, _, h3, h4⟩ := codeB_0 h.1
    obtain ⟨b1, b2, b3⟩ := valid_bd h1
    obtain ⟨m, rfl⟩ : ∃ m : Nat, n = m := ⟨n.toNat, by omega⟩
    have := stB_ok (y := y) (m := k.toNat) h1 (by omega) v.toNat
    omega
  · simp
theorem okBz {x : XLattice} {y : XLexicon} {k : Int} : okInt64S (bzL x y k) := by
  unfold bzL okInt64S
  split
  · rename_i h
    obtain ⟨n, x⟩ := x
    obtain ⟨h1, _, h3, h4⟩ := codeB_0 h
    obtain ⟨b1, b2, b3⟩ := valid_bd h1
    simp; omega
  · simp
set_option maxHeartbeats 4000000 in
set_option maxRecDepth 100000 in
theorem implBeamStates_any (v1 : Value) (x : XLattice) (v2 : Value) (y : XLexicon) (k v : Int) (w : World) {lo1 hi1 lo2 hi2 : Nat} (h1 : rLattice.at_ lo1 hi1 w v1 x) (h2 : rLexicon.at_ lo2 hi2 w v2 y) (ok1 : okLattice x) (ok2 : okLexicon y) (g1 : goodLattice x) (g2 : goodLexicon y) :
    Calls Try.prog 36 #[v1, v2, .int .i64 k, .int .i64 v] w (RetNew rReadingS (bsL x y k v) #[.int .i64 (bsC x y k v)] w) := by
  obtain ⟨u1, rfl, h1⟩ := h1
  obtain ⟨u2, rfl, h2⟩ := h2
  replace h1 := ArrIn.arr h1
  replace h2 := ArrIn.arr h2
  obtain ⟨n, x⟩ := x
  obtain ⟨a1, k1, hu⟩ := h1.isSlice
  subst hu
  obtain ⟨a2, k2, hu⟩ := h2.isSlice
  subst hu
  simp only at h1
  obtain ⟨W, hW⟩ : ∃ W, W = (w.alloc (.cells #[.int .i64 n, .slice a1 x.length k1] 32)).alloc (.cells #[.slice a2 y.length k2] 51) := ⟨_, rfl⟩
  have hbW : Below w.heap.size w W := by rw [hW]; exact belowA2 _ _ _
  have q1 : Box W w.heap.size #[.int .i64 n, .slice a1 x.length k1] 32 := by rw [hW]; exact (Box.new w _ _).later (below_alloc _ _)
  have q2 : Box W (w.heap.size + 1) #[.slice a2 y.length k2] 51 := by
    rw [hW]
    have := Box.new (w.alloc (.cells #[.int .i64 n, .slice a1 x.length k1] 32)) #[.slice a2 y.length k2] 51
    simp at this
    exact this
  have hA := h1.below hbW
  have hB := h2.below hbW
  obtain ⟨p1, hp1⟩ : ∃ p, p = w.heap.size := ⟨_, rfl⟩
  obtain ⟨p2, hp2⟩ : ∃ p, p = w.heap.size + 1 := ⟨_, rfl⟩
  rw [← hp1] at q1
  rw [← hp2] at q2
  have hlt : w.heap.size ≤ W.heap.size := hbW.size
  have HP1 := hid hp1
  have HP2 := hid hp2
  have HW := hid hW
  clear hp1 hp2 hW h1 h2
  have m10 := q1.cell (j := 0) rfl
  have m11 := q1.cell (j := 1) rfl
  have m20 := q2.cell (j := 0) rfl
  have finish : ∀ (w' : World) (u : Value) (z : List DReading) (c : Int), Hid (bsL (n, x) y k v = z ∧ bsC (n, x) y k v = c) → Own eReading 27 w.heap.size w' u z → Below w.heap.size w w' → RetNew rReadingS (bsL (n, x) y k v) #[.int .i64 (bsC (n, x) y k v)] w (.returned (.tuple #[u, .int .i64 c])) w' := by
    intro w' u z c hz ho hb
    rw [hz.out.1, hz.out.2]
    exact ⟨_, rfl, rReadingS_own ho (Nat.le_refl _), hb⟩
  have CB := beamable_any (.agg #[.int .i64 n, .slice a1 x.length k1]) (n, x) (.agg #[.slice a2 y.length k2]) y k W (show rLattice.at_ 0 W.heap.size W _ (n, x) from ⟨_, rfl, hA.in_⟩) (show rLexicon.at_ 0 W.heap.size W _ y from ⟨_, rfl, hB.in_⟩) ok1 ok2 g1 g2
  rcases Decidable.em (¬ codeB (n, x) y k = 0) with hcb | hcb
  · have HZ : Hid (bsL (n, x) y k v = [] ∧ bsC (n, x) y k v = codeB (n, x) y k) := by show _ ∧ _; simp [bsL, bsC, hcb]
    obtain ⟨cb, hcbd⟩ : ∃ cb, cb = codeB (n, x) y k := ⟨_, rfl⟩
    rw [← hcbd] at CB HZ hcb
    clear hcbd
    go_enter Try.func36, Try.ntmps36
    go_wp2_with fail
    rw [← HP2.out, ← HP1.out, ← HW.out]
    refine CB.mono ?_
    rintro e w3 ⟨rfl, hb⟩
    go_wp2_with fail
    go_ret2
    exact finish _ _ _ _ HZ (Own.nil _ _ _) (hbW.trans (hb.mono hlt))
  · replace hcb := Decidable.not_not.1 hcb
    rw [hcb] at CB
    obtain ⟨hv, hvy, kk1, kk2⟩ := codeB_0 hcb
    obtain ⟨b1, b2, b3⟩ := valid_bd hv
    obtain ⟨N, rfl⟩ : ∃ N : Nat, n = N := ⟨n.toNat, by omega⟩
    obtain ⟨m, rfl⟩ : ∃ m : Nat, k = m := ⟨k.toNat, by omega⟩
    have hNi : (N : Int) ≤ 20 := by omega
    have hNw : IntKind.i64.wrap ((N : Int) - 1) = (N : Int) - 1 := IntWalk.i64_in _ (by omega)
    have CI : ∀ w', Calls Try.prog 45 #[.int .i64 v, .int .i64 0, .int .i64 ((N : Int) - 1)] w' fun e w'' => e = .returned (.bool (inB v 0 ((N : Int) - 1))) ∧ w' = w'' := fun w' => within_any _ _ _ w'
    have CM := fun w' (hb : Below W.heap.size W w') => beam_any (.agg #[.int .i64 N, .slice a1 x.length k1]) N x (.agg #[.slice a2 y.length k2]) y m w' (show rLattice.at_ 0 w'.heap.size w' _ ((N : Int), x) from ⟨_, rfl, (hA.below hb).in_⟩) (show rLexicon.at_ 0 w'.heap.size w' _ y from ⟨_, rfl, (hB.below hb).in_⟩) hv (sorted_of_valid hvy) ok2 g2 (by omega) (by omega)
    cases hi : inB v 0 ((N : Int) - 1)
    · have HZ : Hid (bsL ((N : Int), x) y (m : Int) v = [] ∧ bsC ((N : Int), x) y (m : Int) v = 2) := by show _ ∧ _; simp [bsL, bsC, hcb, hi]
      rw [hi] at CI
      go_enter Try.func36, Try.ntmps36
      go_wp2_with fail
      rw [← HP2.out, ← HP1.out, ← HW.out]
      refine CB.mono ?_
      rintro e w3 ⟨rfl, hb⟩
      have s10 := cell_later hb m10
      go_wp2_with (go_at_call 45; refine (CI _).mono ?_; rintro e w' ⟨rfl, rfl⟩)
      go_ret2
      exact finish _ _ _ _ HZ (Own.nil _ _ _) (hbW.trans (hb.mono hlt))
    · rw [hi] at CI
      have hi' := inB_true.1 hi
      obtain ⟨t, rfl⟩ : ∃ t : Nat, v = t := ⟨v.toNat, by omega⟩
      have htN : t < N := by omega
      have htNi : (t : Int) < (N : Int) := by omega
      have HZ : Hid (bsL ((N : Int), x) y (m : Int) (t : Int) = pullR m (begLx y) (beg0 y) x (N - 1) t ∧ bsC ((N : Int), x) y (m : Int) (t : Int) = 0) := by
        show _ ∧ _
        have := pull_eq (valid_good hv) (valid_rises hv) m (begLx y) (beg0 y) (N - 1) t (by omega)
        simp only [bsL, bsC, hcb, hi, if_true, and_self, stB, Int.toNat_natCast, this]
      clear hcb hi hi'
      go_enter Try.func36, Try.ntmps36
      go_wp2_with fail
      rw [← HP2.out, ← HP1.out, ← HW.out]
      refine CB.mono ?_
      rintro e w3 ⟨rfl, hb⟩
      have s10 := cell_later hb m10
      have s11 := cell_later hb m11
      have s20 := cell_later hb m20
      go_wp2_with (first | (go_at_call 45; refine (CI _).mono ?_; rintro e w' ⟨rfl, rfl⟩) | (go_at_call 61; refine (CM w3 hb).mono ?_; rintro e w4 ⟨g, vs, rfl, hr, hg, hb4⟩; obtain ⟨⟨sa, sn, sc⟩, hsv, hsn, a0, _⟩ := hr.toR.get htN; have hrow := hr.row t _ hsv; simp only at hsn a0; subst hsn))
      go_ret2
      have hb5 := hb.trans (hb4.mono hb.size)
      exact finish _ _ _ _ HZ (hrow.1.mono (Nat.le_trans (Nat.le_trans (Nat.le_trans hlt hb.size) hg) (Nat.le_succ g))) (hbW.trans (hb5.mono hlt))
set_option maxHeartbeats 4000000 in
set_option maxRecDepth 100000 in
theorem implBeamSizes_any (v1 : Value) (x : XLattice) (v2 : Value) (y : XLexicon) (k : Int) (w : World) {lo1 hi1 lo2 hi2 : Nat} (h1 : rLattice.at_ lo1 hi1 w v1 x) (h2 : rLexicon.at_ lo2 hi2 w v2 y) (ok1 : okLattice x) (ok2 : okLexicon y) (g1 : goodLattice x) (g2 : goodLexicon y) :
    Calls Try.prog 31 #[v1, v2, .int .i64 k] w (RetNew rInt64S (bzL x y k) #[.int .i64 (codeB x y k)] w) := by
  obtain ⟨u1, rfl, h1⟩ := h1
  obtain ⟨u2, rfl, h2⟩ := h2
  replace h1 := ArrIn.arr h1
  replace h2 := ArrIn.arr h2
  obtain ⟨n, x⟩ := x
  obtain ⟨a1, k1, hu⟩ := h1.isSlice
  subst hu
  obtain ⟨a2, k2, hu⟩ := h2.isSlice
  subst hu
  simp only at h1
  obtain ⟨W, hW⟩ : ∃ W, W = (w.alloc (.cells #[.int .i64 n, .slice a1 x.length k1] 32)).alloc (.cells #[.slice a2 y.length k2] 51) := ⟨_, rfl⟩
  have hbW : Below w.heap.size w W := by rw [hW]; exact belowA2 _ _ _
  have q1 : Box W w.heap.size #[.int .i64 n, .slice a1 x.length k1] 32 := by rw [hW]; exact (Box.new w _ _).later (below_alloc _ _)
  have q2 : Box W (w.heap.size + 1) #[.slice a2 y.length k2] 51 := by
    rw [hW]
    have := Box.new (w.alloc (.cells #[.int .i64 n, .slice a1 x.length k1] 32)) #[.slice a2 y.length k2] 51
    simp at this
    exact this
  have hA := h1.below hbW
  have hB := h2.below hbW
  obtain ⟨p1, hp1⟩ : ∃ p, p = w.heap.size := ⟨_, rfl⟩
  obtain ⟨p2, hp2⟩ : ∃ p, p = w.heap.size + 1 := ⟨_, rfl⟩
  rw [← hp1] at q1
  rw [← hp2] at q2
  have hlt : w.heap.size ≤ W.heap.size := hbW.size
  have HP1 := hid hp1
  have HP2 := hid hp2
  have HW := hid hW
  clear hp1 hp2 hW h1 h2
  have m10 := q1.cell (j := 0) rfl
  have m11 := q1.cell (j := 1) rfl
  have m20 := q2.cell (j := 0) rfl
  have finish : ∀ (w' : World) (u : Value) (z : List Int) (c : Int), Hid (bzL (n, x) y k = z ∧ codeB (n, x) y k = c) → Own eI 2 w.heap.size w' u z → Below w.heap.size w w' → RetNew rInt64S (bzL (n, x) y k) #[.int .i64 (codeB (n, x) y k)] w (.returned (.tuple #[u, .int .i64 c])) w' := by
    intro w' u z c hz ho hb
    rw [hz.out.1, hz.out.2]
    exact ⟨_, rfl, rInt64S_own ho (Nat.le_refl _), hb⟩
  have CB := beamable_any (.agg #[.int .i64 n, .slice a1 x.length k1]) (n, x) (.agg #[.slice a2 y.length k2]) y k W (show rLattice.at_ 0 W.heap.size W _ (n, x) from ⟨_, rfl, hA.in_⟩) (show rLexicon.at_ 0 W.heap.size W _ y from ⟨_, rfl, hB.in_⟩) ok1 ok2 g1 g2
  rcases Decidable.em (¬ codeB (n, x) y k = 0) with hcb | hcb
  · have HZ : Hid (bzL (n, x) y k = [] ∧ codeB (n, x) y k = codeB (n, x) y k) := by show _ ∧ _; simp [bzL, hcb]
    obtain ⟨cb, hcbd⟩ : ∃ cb, cb = codeB (n, x) y k := ⟨_, rfl⟩
    have HZ' : Hid (bzL (n, x) y k = [] ∧ codeB (n, x) y k = cb) := hid ⟨HZ.out.1, hcbd.symm⟩
    rw [← hcbd] at CB hcb
    clear hcbd HZ
    go_enter Try.func31, Try.ntmps31
    go_wp2_with fail
    rw [← HP2.out, ← HP1.out, ← HW.out]
    refine CB.mono ?_
    rintro e w3 ⟨rfl, hb⟩
    go_wp2_with fail
    go_ret2
    exact finish _ _ _ _ HZ' (Own.nil _ _ _) (hbW.trans (hb.mono hlt))
  · replace hcb := Decidable.not_not.1 hcb
    rw [hcb] at CB
    obtain ⟨hv, hvy, kk1, kk2⟩ := codeB_0 hcb
    obtain ⟨b1, b2, b3⟩ := valid_bd hv
    obtain ⟨N, rfl⟩ : ∃ N : Nat, n = N := ⟨n.toNat, by omega⟩
    obtain ⟨m, rfl⟩ : ∃ m : Nat, k = m := ⟨k.toNat, by omega⟩
    have hNi : (N : Int) ≤ 20 := by omega
    have CM := fun w' (hb : Below W.heap.size W w') => beam_any (.agg #[.int .i64 N, .slice a1 x.length k1]) N x (.agg #[.slice a2 y.length k2]) y m w' (show rLattice.at_ 0 w'.heap.size w' _ ((N : Int), x) from ⟨_, rfl, (hA.below hb).in_⟩) (show rLexicon.at_ 0 w'.heap.size w' _ y from ⟨_, rfl, (hB.below hb).in_⟩) hv (sorted_of_valid hvy) ok2 g2 (by omega) (by omega)
    have HZ : Hid (bzL ((N : Int), x) y (m : Int) = (List.range N).map (fun v => ((pullR m (begLx y) (beg0 y) x (N - 1) v).length : Int)) ∧ codeB ((N : Int), x) y (m : Int) = 0) := by
      show _ ∧ _
      refine ⟨?_, hcb⟩
      simp only [bzL, hcb, if_true, stB, Int.toNat_natCast]
      refine List.map_congr_left fun v hv' => ?_
      rw [pull_eq (valid_good hv) (valid_rises hv) m (begLx y) (beg0 y) (N - 1) v (by have := List.mem_range.1 hv'; omega)]
    obtain ⟨st, hst⟩ : ∃ st, st = pullR m (begLx y) (beg0 y) x (N - 1) := ⟨_, rfl⟩
    rw [← hst] at CM HZ
    clear hcb hst
    go_enter Try.func31, Try.ntmps31
    go_wp2_with fail
    rw [← HP2.out, ← HP1.out, ← HW.out]
    refine CB.mono ?_
    rintro e w3 ⟨rfl, hb⟩
    have s10 := cell_later hb m10
    have s11 := cell_later hb m11
    have s20 := cell_later hb m20
    go_wp2_with (go_at_call 61; refine (CM w3 hb).mono ?_; rintro e w4 ⟨g, vs, rfl, hr, hg, hb4⟩)
    have hb5 := hb.trans (hb4.mono hb.size)
    have hbe := hbW.trans (hb5.mono hlt)
    obtain ⟨H, hH⟩ : ∃ H, H = w4.heap.size := ⟨_, rfl⟩
    have hgH : g < H := by rw [hH]; exact hr.toR.lt
    have HH := hid hH
    have hwH : w.heap.size ≤ H := by rw [hH]; exact hbe.size
    clear hH hb hb4 hb5 s10 s11 s20
    go_loopw [9, 24] (fun l i wr => ∃ j : Nat, j ≤ N ∧ i = .int .i64 j ∧ Own eI 2 H wr l ((List.range j).map fun v => ((st v).length : Int)) ∧ Below H w4 wr) (fun _ i _ => N - (intOf i).toNat)
    case atStart => exact ⟨0, Nat.zero_le _, rfl, Own.nil _ _ _, Below.refl _ _⟩
    case round =>
      obtain ⟨j, hj, rfl, ho, hb⟩ := hrel
      have hHr : H ≤ wr.heap.size := by rw [HH.out]; exact hb.size
      obtain ⟨LS, hLS⟩ : ∃ LS, LS = (List.range j).map fun v => ((st v).length : Int) := ⟨_, rfl⟩
      have hll : LS.length = j := by rw [hLS]; simp
      rw [← hLS] at ho
      have HLS := hid hLS
      have HLL := hid hll
      obtain ⟨sl, sc, hls⟩ := ho.isSlice
      subst hls
      clear hLS hll
      by_cases hlt2 : j < N
      · have hji : (j : Int) < (N : Int) := by omega
        obtain ⟨⟨sa, sn, sc2⟩, _, _, a0, _⟩ := hr.toR.get hlt2
        simp only at a0
        have b0 := below_cell hb hgH a0
        have HN : Hid (LS ++ [((st j).length : Int)] = (List.range (j + 1)).map fun v => ((st v).length : Int)) := hid (by rw [HLS.out, List.range_succ]; simp)
        clear a0
        go_wp2_with (at_builtin; (refine wpList_appA rfl _ _ 61 rfl H 2 _ 8 infI64 Try.underlying61 rfl _ LS rfl (ho.alloc _) _ [((st j).length : Int)] rfl (by exact arr_block1 (E := eI) (n := 1) [((st j).length : Int)] #[.int .i64 ((st j).length : Int)] rfl rfl (maxLen_ge (Nat.le_of_ble_eq_true rfl)) (by simp)) (by have := HLL.out; unfold maxLen; simp <;> omega) (by have := HLL.out; simp <;> omega) (by simp <;> omega) ?_; intro v' wA hoA hbA htA))
        go_roundw
        case rel => exact ⟨j + 1, by omega, by go_num, by rw [← HN.out]; exact hoA, (hb.alloc hHr _).trans hbA⟩
        case measure => simp [intOf]; omega
      · have hjN : j = N := by omega
        have hjd : ¬ ((j : Int) < (N : Int)) := by omega
        have HF : Hid (LS = (List.range N).map fun v => ((st v).length : Int)) := hid (by rw [HLS.out, hjN])
        clear hjN
        go_wp2_with fail
        go_ret2
        exact finish _ _ _ _ HZ (by rw [← HF.out]; exact ho.mono hwH) (hbe.trans (hb.mono hwH))
end Go.Proofs.Ytnhmailnnggmjaa
