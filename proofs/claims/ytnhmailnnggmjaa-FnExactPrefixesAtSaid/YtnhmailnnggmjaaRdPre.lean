/- The beginnings of words that lead to a node: both calls. -/
import Derived.Test.YtnhmailnnggmjaaRdBr
import Derived.Test.YtnhmailnnggmjaaRdSpc
import Derived.Deep.CutRange
namespace Go.Proofs.Ytnhmailnnggmjaa
open Go.RowKit Go.Sort
attribute [local go_sem ↓] Go.wp_at_zero Go.wp_at_succ

def pfL (x : XLattice) (y : XLexicon) (v : Int) : List DReading := if validLt x && validLx y && inB v 0 (x.1 - 1) then statesR 1000 (begLx y) (beg0 y) x.2 v.toNat else []
def pfC (x : XLattice) (y : XLexicon) (v : Int) : Int := if validLt x && validLx y then (if inB v 0 (x.1 - 1) then 0 else 2) else 1
theorem okPf {x : XLattice} {y : XLexicon} {v : Int} : okReadingS (pfL x y v) := by
  unfold pfL okReadingS
  split
  · rename_i h
    rw [Bool.and_eq_true, Bool.and_eq_true] at h
    obtain ⟨n, x⟩ := x
    obtain ⟨b1, b2, b3⟩ := valid_bd h.1.1
    obtain ⟨m, rfl⟩ : ∃ m : Nat, n = m := ⟨n.toNat, by omega⟩
    have := states_len (m := 1000) (beg := begLx y) (valid_good h.1.1) (valid_rises h.1.1) (I := beg0 y) (beg0_le y) (by omega) v.toNat
    exact Nat.le_trans this (by omega)
  · simp
def FinQ (g N : Nat) (W : World) (st : SR) (w' : World) : Prop := ∃ vs, RowsP g N w' vs st ∧ Below g W w'
theorem FinQ.below {g N : Nat} {W : World} {st : SR} {w w' : World} (h : FinQ g N W st w) (hb : Below w.heap.size w w') : FinQ g N W st w' := by
  obtain ⟨vs, h1, h2⟩ := h
  exact ⟨vs, h1.below hb, h2.trans (hb.mono (Nat.le_of_lt h1.toR.lt))⟩
set_option maxHeartbeats 4000000 in
set_option maxRecDepth 100000 in
theorem specPrefixesAt_any (v1 : Value) (x : XLattice) (v2 : Value) (y : XLexicon) (v : Int) (w : World) {lo1 hi1 lo2 hi2 : Nat} (h1 : rLattice.at_ lo1 hi1 w v1 x) (h2 : rLexicon.at_ lo2 hi2 w v2 y) (ok1 : okLattice x) (ok2 : okLexicon y) (g1 : goodLattice x) (g2 : goodLexicon y) :
    Calls Try.prog 22 #[v1, v2, .int .i64 v] w (RetNew rReadingS (pfL x y v) #[.int .i64 (pfC x y v)] w) := by
  obtain ⟨u1, rfl, h1⟩ := h1
  obtain ⟨u2, rfl, h2⟩ := h2
  replace h1 := ArrIn.arr h1
  replace h2 := ArrIn.arr h2
  obtain ⟨n, x⟩ := x
  obtain ⟨a1, k1, hu⟩ := h1.isSlice
  subst hu
  obtain ⟨a2, k2, hu⟩ := h2.isSlice
  subst hu
  simp only at h1
  obtain ⟨W, hW⟩ : ∃ u, u = ((w.alloc (.cells #[.int .i64 n, .slice a1 x.length k1] 32)).alloc (.cells #[.slice a2 y.length k2] 51)) := ⟨_, rfl⟩
  have hbW : Below w.heap.size w W := by rw [hW]; exact belowA2 _ _ _
  have q1 : Box W (w.heap.size) #[.int .i64 n, .slice a1 x.length k1] 32 := by
    have hq := Box.new w #[.int .i64 n, .slice a1 x.length k1] 32
    rw [hW]
    exact (hq.alloc _)
  have q2 : Box W (w.heap.size + 1) #[.slice a2 y.length k2] 51 := by
    have hq := Box.new (w.alloc (.cells #[.int .i64 n, .slice a1 x.length k1] 32)) #[.slice a2 y.length k2] 51
    simp at hq
    rw [hW]
    exact hq
  obtain ⟨p1, hp1⟩ : ∃ p, p = w.heap.size := ⟨_, rfl⟩
  rw [← hp1] at q1
  have hge1 : w.heap.size ≤ p1 := by omega
  obtain ⟨p2, hp2⟩ : ∃ p, p = w.heap.size + 1 := ⟨_, rfl⟩
  rw [← hp2] at q2
  have hge2 : w.heap.size ≤ p2 := by omega
  have hlW : w.heap.size ≤ W.heap.size := hbW.size
  have hlp1 : p1 < W.heap.size := q1.lt
  have hlp2 : p2 < W.heap.size := q2.lt
  have hne12 : p1 ≠ p2 := by omega
  have HP1 := hid hp1
  have HP2 := hid hp2
  have HW := hid hW
  clear hW hp1 hp2
  have hA := h1.below hbW
  have hB := h2.below hbW
  have m10 := q1.cell (j := 0) rfl
  have m11 := q1.cell (j := 1) rfl
  have m20 := q2.cell (j := 0) rfl
  have finish : ∀ (w' : World) (u : Value) (z : List DReading) (c : Int), Hid (pfL (n, x) y v = z ∧ pfC (n, x) y v = c) → Own eReading 27 w.heap.size w' u z → Below w.heap.size w w' → RetNew rReadingS (pfL (n, x) y v) #[.int .i64 (pfC (n, x) y v)] w (.returned (.tuple #[u, .int .i64 c])) w' := by
    intro w' u z c hz ho hb
    rw [hz.out.1, hz.out.2]
    exact ⟨_, rfl, rReadingS_own ho (Nat.le_refl _), hb⟩
  have CL := fun w' (hb : Below W.heap.size W w') => l15Ok_any p1 n _ x w' (cell_later hb m10) (cell_later hb m11) (hA.below hb) ok1 g1
  have CX := fun w' (hb : Below W.heap.size W w') => l16Ok_any p2 _ y w' (cell_later hb m20) (hB.below hb) ok2 g2
  cases hv : validLt (n, x)
  · have HZ : Hid (pfL (n, x) y v = [] ∧ pfC (n, x) y v = 1) := by show _ ∧ _; simp [pfL, pfC, hv]
    rw [hv] at CL
    go_enter Try.func22, Try.ntmps22
    go_wp2_with fail
    rw [← HP2.out, ← HP1.out, ← HW.out]
    refine (CL W (Below.refl _ _)).mono ?_
    rintro e w3 ⟨rfl, hb⟩
    go_wp2_with fail
    go_ret2
    exact finish _ _ _ _ HZ (Own.nil _ _ _) (hbW.trans (hb.mono hlW))
  rw [hv] at CL
  cases hvy : validLx y
  · have HZ : Hid (pfL (n, x) y v = [] ∧ pfC (n, x) y v = 1) := by show _ ∧ _; simp [pfL, pfC, hv, hvy]
    rw [hvy] at CX
    go_enter Try.func22, Try.ntmps22
    go_wp2_with fail
    rw [← HP2.out, ← HP1.out, ← HW.out]
    refine (CL W (Below.refl _ _)).mono ?_
    rintro e w3 ⟨rfl, hb⟩
    have s20 := cell_later hb m20
    go_wp2_with fail
    refine (CX w3 hb).mono ?_
    rintro e w4 ⟨rfl, hb4⟩
    have hb5 := hb.trans (hb4.mono hb.size)
    go_wp2_with fail
    go_ret2
    exact finish _ _ _ _ HZ (Own.nil _ _ _) (hbW.trans (hb5.mono hlW))
  rw [hvy] at CX
  obtain ⟨n1, n2, x2⟩ := valid_bd hv
  obtain ⟨N, rfl⟩ : ∃ N : Nat, n = N := ⟨n.toNat, by omega⟩
  have hNi : (N : Int) ≤ 20 := by omega
  have hNw : IntKind.i64.wrap ((N : Int) - 1) = (N : Int) - 1 := IntWalk.i64_in _ (by omega)
  have CI : ∀ w', Calls Try.prog 44 #[.int .i64 v, .int .i64 0, .int .i64 ((N : Int) - 1)] w' fun e w'' => e = .returned (.bool (inB v 0 ((N : Int) - 1))) ∧ w' = w'' := fun w' => l00In_any _ _ _ w'
  cases hi : inB v 0 ((N : Int) - 1)
  · have HZ : Hid (pfL ((N : Int), x) y v = [] ∧ pfC ((N : Int), x) y v = 2) := by show _ ∧ _; simp [pfL, pfC, hv, hvy, hi]
    rw [hi] at CI
    go_enter Try.func22, Try.ntmps22
    go_wp2_with fail
    rw [← HP2.out, ← HP1.out, ← HW.out]
    refine (CL W (Below.refl _ _)).mono ?_
    rintro e w3 ⟨rfl, hb⟩
    have s20 := cell_later hb m20
    go_wp2_with fail
    refine (CX w3 hb).mono ?_
    rintro e w4 ⟨rfl, hb4⟩
    have hb5 := hb.trans (hb4.mono hb.size)
    have s10 := cell_later hb5 m10
    go_wp2_with (go_at_call 44; refine (CI _).mono ?_; rintro e w' ⟨rfl, rfl⟩)
    go_ret2
    exact finish _ _ _ _ HZ (Own.nil _ _ _) (hbW.trans (hb5.mono hlW))
  rw [hi] at CI
  have hi' := inB_true.1 hi
  obtain ⟨V, rfl⟩ : ∃ V : Nat, v = V := ⟨v.toNat, by omega⟩
  have hVN : V < N := by omega
  have hVNi : (V : Int) < (N : Int) := by omega
  have HZ : Hid (pfL ((N : Int), x) y (V : Int) = statesR 1000 (begLx y) (beg0 y) x V ∧ pfC ((N : Int), x) y (V : Int) = 0) := by show _ ∧ _; simp [pfL, pfC, hv, hvy, hi]
  have CM := fun w' (hb : Below W.heap.size W w') => l16States_any p1 p2 (.slice a1 x.length k1) (.slice a2 y.length k2) N 1000 x y w' (cell_later hb m10) (cell_later hb m11) (cell_later hb m20) (hA.below hb) (hB.below hb) ok2 g2 hv (by omega) (by omega)
  have hlen := states_len (m := 1000) (beg := begLx y) (valid_good hv) (valid_rises hv) (I := beg0 y) (beg0_le y) (by omega) V
  obtain ⟨RS, hRS⟩ : ∃ RS, RS = statesR 1000 (begLx y) (beg0 y) x V := ⟨_, rfl⟩
  rw [← hRS] at HZ hlen
  have HRS := hid hRS.symm
  clear hi hi' hRS
  go_enter Try.func22, Try.ntmps22
  go_wp2_with fail
  rw [← HP2.out, ← HP1.out, ← HW.out]
  refine (CL W (Below.refl _ _)).mono ?_
  rintro e w3 ⟨rfl, hb⟩
  have s20 := cell_later hb m20
  go_wp2_with fail
  refine (CX w3 hb).mono ?_
  rintro e w4 ⟨rfl, hb4⟩
  have hb5 := hb.trans (hb4.mono hb.size)
  have s10 := cell_later hb5 m10
  have hbA := hb5.trans ((below_alloc w4 (.cells #[] 27)).mono hb5.size)
  have hl3 : w.heap.size ≤ w4.heap.size := Nat.le_trans hlW hb5.size
  go_wp2_with (first | (go_at_call 44; refine (CI _).mono ?_; rintro e w' ⟨rfl, rfl⟩) | (go_at_call 50; refine (CM _ hbA).mono ?_; rintro e w6 ⟨g, vs, rfl, hr, hg, hb6⟩; obtain ⟨⟨sa, sn, sc⟩, hsv, hsn, a0, hAr⟩ := hr.get hVN; simp only at a0 hAr; rw [HRS.out] at a0 hAr) | (at_builtin; (refine wpList_appA rfl _ _ 37 rfl w.heap.size 27 _ 24 infReading Try.underlying37 rfl _ [] rfl ((Own.empty (E := eReading) 27 w4 hl3).below (hb6.mono (by simp))) _ RS rfl (ArrIn.arr hAr) (by unfold maxLen; simp; omega) (by simp; omega) (Nat.le_trans hl3 (Nat.le_trans (by simp) hb6.size)) ?_; intro v' wA hoA hbA2 htA)))
  go_ret2
  exact finish _ _ _ _ HZ (by simpa using hoA) ((hbW.trans ((hbA.trans (hb6.mono hbA.size)).mono hlW)).trans hbA2)
set_option maxHeartbeats 16000000 in
set_option maxRecDepth 100000 in
theorem implPrefixesAt_any (v1 : Value) (x : XLattice) (v2 : Value) (y : XLexicon) (v : Int) (w : World) {lo1 hi1 lo2 hi2 : Nat} (h1 : rLattice.at_ lo1 hi1 w v1 x) (h2 : rLexicon.at_ lo2 hi2 w v2 y) (ok1 : okLattice x) (oky : okLexicon y) (g1 : goodLattice x) (gy : goodLexicon y) :
    Calls Try.prog 24 #[v1, v2, .int .i64 v] w (RetNew rReadingS (pfL x y v) #[.int .i64 (pfC x y v)] w) := by
  obtain ⟨u1, rfl, h1⟩ := h1
  obtain ⟨u2, rfl, h2⟩ := h2
  replace h1 := ArrIn.arr h1
  replace h2 := ArrIn.arr h2
  obtain ⟨n, x⟩ := x
  obtain ⟨a1, k1, hu⟩ := h1.isSlice
  subst hu
  obtain ⟨a2, k2, hu⟩ := h2.isSlice
  subst hu
  simp only at h1
  obtain ⟨W, hW⟩ : ∃ u, u = ((w.alloc (.cells #[.int .i64 n, .slice a1 x.length k1] 32)).alloc (.cells #[.slice a2 y.length k2] 51)) := ⟨_, rfl⟩
  have hbW : Below w.heap.size w W := by rw [hW]; exact belowA2 _ _ _
  have q1 : Box W (w.heap.size) #[.int .i64 n, .slice a1 x.length k1] 32 := by
    have hq := Box.new w #[.int .i64 n, .slice a1 x.length k1] 32
    rw [hW]
    exact (hq.alloc _)
  have q2 : Box W (w.heap.size + 1) #[.slice a2 y.length k2] 51 := by
    have hq := Box.new (w.alloc (.cells #[.int .i64 n, .slice a1 x.length k1] 32)) #[.slice a2 y.length k2] 51
    simp at hq
    rw [hW]
    exact hq
  obtain ⟨p1, hp1⟩ : ∃ p, p = w.heap.size := ⟨_, rfl⟩
  rw [← hp1] at q1
  have hge1 : w.heap.size ≤ p1 := by omega
  obtain ⟨p2, hp2⟩ : ∃ p, p = w.heap.size + 1 := ⟨_, rfl⟩
  rw [← hp2] at q2
  have hge2 : w.heap.size ≤ p2 := by omega
  have hlW : w.heap.size ≤ W.heap.size := hbW.size
  have hlp1 : p1 < W.heap.size := q1.lt
  have hlp2 : p2 < W.heap.size := q2.lt
  have hne12 : p1 ≠ p2 := by omega
  have HP1 := hid hp1
  have HP2 := hid hp2
  have HW := hid hW
  clear hW hp1 hp2
  have hA := h1.below hbW
  have hB := h2.below hbW
  have m10 := q1.cell (j := 0) rfl
  have m11 := q1.cell (j := 1) rfl
  have m20 := q2.cell (j := 0) rfl
  have finish : ∀ (w' : World) (u : Value) (z : List DReading) (c : Int), Hid (pfL (n, x) y v = z ∧ pfC (n, x) y v = c) → Own eReading 27 w.heap.size w' u z → Below w.heap.size w w' → RetNew rReadingS (pfL (n, x) y v) #[.int .i64 (pfC (n, x) y v)] w (.returned (.tuple #[u, .int .i64 c])) w' := by
    intro w' u z c hz ho hb
    rw [hz.out.1, hz.out.2]
    exact ⟨_, rfl, rReadingS_own ho (Nat.le_refl _), hb⟩
  have CL := fun w' (hb : Below W.heap.size W w') => implValidLattice_any _ (n, x) w' (show rLattice.at_ 0 w'.heap.size w' (.agg #[.int .i64 n, .slice a1 x.length k1]) (n, x) from ⟨_, rfl, (hA.below hb).in_⟩) ok1 g1
  have CX := fun w' (hb : Below W.heap.size W w') => implValidLexicon_any _ y w' (show rLexicon.at_ 0 w'.heap.size w' (.agg #[.slice a2 y.length k2]) y from ⟨_, rfl, (hB.below hb).in_⟩) oky gy
  cases hv : validLt (n, x)
  · have HZ : Hid (pfL (n, x) y v = [] ∧ pfC (n, x) y v = 1) := by show _ ∧ _; simp [pfL, pfC, hv]
    rw [hv] at CL
    go_enter Try.func24, Try.ntmps24
    go_wp2_with fail
    rw [← HP2.out, ← HP1.out, ← HW.out]
    refine (CL W (Below.refl _ _)).mono ?_
    rintro e w3 ⟨rfl, hb⟩
    go_wp2_with fail
    go_ret2
    exact finish _ _ _ _ HZ (Own.nil _ _ _) (hbW.trans (hb.mono hlW))
  rw [hv] at CL
  cases hvy : validLx y
  · have HZ : Hid (pfL (n, x) y v = [] ∧ pfC (n, x) y v = 1) := by show _ ∧ _; simp [pfL, pfC, hv, hvy]
    rw [hvy] at CX
    go_enter Try.func24, Try.ntmps24
    go_wp2_with fail
    rw [← HP2.out, ← HP1.out, ← HW.out]
    refine (CL W (Below.refl _ _)).mono ?_
    rintro e w3 ⟨rfl, hb⟩
    have s20 := cell_later hb m20
    go_wp2_with fail
    refine (CX w3 hb).mono ?_
    rintro e w4 ⟨rfl, hb4⟩
    have hb5 := hb.trans (hb4.mono hb.size)
    go_wp2_with fail
    go_ret2
    exact finish _ _ _ _ HZ (Own.nil _ _ _) (hbW.trans (hb5.mono hlW))
  rw [hvy] at CX
  obtain ⟨n1, n2, x2⟩ := valid_bd hv
  obtain ⟨N, rfl⟩ : ∃ N : Nat, n = N := ⟨n.toNat, by omega⟩
  have hNi : (N : Int) ≤ 20 := by omega
  have hNw : IntKind.i64.wrap ((N : Int) - 1) = (N : Int) - 1 := IntWalk.i64_in _ (by omega)
  have CI : ∀ w', Calls Try.prog 45 #[.int .i64 v, .int .i64 0, .int .i64 ((N : Int) - 1)] w' fun e w'' => e = .returned (.bool (inB v 0 ((N : Int) - 1))) ∧ w' = w'' := fun w' => within_any _ _ _ w'
  cases hi : inB v 0 ((N : Int) - 1)
  · have HZ : Hid (pfL ((N : Int), x) y v = [] ∧ pfC ((N : Int), x) y v = 2) := by show _ ∧ _; simp [pfL, pfC, hv, hvy, hi]
    rw [hi] at CI
    go_enter Try.func24, Try.ntmps24
    go_wp2_with fail
    rw [← HP2.out, ← HP1.out, ← HW.out]
    refine (CL W (Below.refl _ _)).mono ?_
    rintro e w3 ⟨rfl, hb⟩
    have s20 := cell_later hb m20
    go_wp2_with fail
    refine (CX w3 hb).mono ?_
    rintro e w4 ⟨rfl, hb4⟩
    have hb5 := hb.trans (hb4.mono hb.size)
    have s10 := cell_later hb5 m10
    go_wp2_with (go_at_call 45; refine (CI _).mono ?_; rintro e w' ⟨rfl, rfl⟩)
    go_ret2
    exact finish _ _ _ _ HZ (Own.nil _ _ _) (hbW.trans (hb5.mono hlW))
  rw [hi] at CI
  have hi' := inB_true.1 hi
  obtain ⟨V, rfl⟩ : ∃ V : Nat, v = V := ⟨v.toNat, by omega⟩
  have hVN : V < N := by omega
  have hVNi : (V : Int) < (N : Int) := by omega
  have HZ : Hid (pfL ((N : Int), x) y (V : Int) = statesR 1000 (begLx y) (beg0 y) x V ∧ pfC ((N : Int), x) y (V : Int) = 0) := by show _ ∧ _; simp [pfL, pfC, hv, hvy, hi]
  obtain ⟨b, off, ao, cap, hveq, hnc, hcm, hao, hc⟩ := id hA
  simp only [Value.slice.injEq] at hveq
  obtain ⟨rfl, _, rfl⟩ := hveq
  unfold maxLen at hcm
  have hs := sorted_of_valid hvy
  have HV := hid hv
  have HG := hid (valid_good hv)
  have HWAY := hid (pref_way (valid_good hv) (valid_rises hv) (valid_labs hv) hvy)
  obtain ⟨i0, hi0, hz0, hz1, hz2⟩ := info_parts infRows
  have hN0 : 0 < N := by omega
  have hN1 : (0 : Int) < (N : Int) := by omega
  obtain ⟨B0, hB0⟩ : ∃ B0, B0 = 1000 + x.length * 1000 := ⟨_, rfl⟩
  have hB1 : B0 ≤ 201000 := by omega
  have HB0 := hid hB0
  obtain ⟨c, hcb⟩ : ∃ c, begLx y ⟨#[]⟩ = c := ⟨_, rfl⟩
  have HCB := hid hcb
  obtain ⟨WW, hWW⟩ : ∃ WW, WW = W := ⟨_, rfl⟩
  have hbWA : 0 < x.length → b < W.heap.size := fun h => (hao h).2
  have haoA : 0 < x.length → a1 = some ⟨b, off, none⟩ := fun h => (hao h).1
  clear hi hi' hB0 hcb hWW hv hao
  go_enter Try.func24, Try.ntmps24
  go_wp2_with fail
  rw [← HP2.out, ← HP1.out, ← HW.out]
  refine (CL W (Below.refl _ _)).mono ?_
  rintro e w3 ⟨rfl, hb3⟩
  have s20 := cell_later hb3 m20
  go_wp2_with fail
  refine (CX w3 hb3).mono ?_
  rintro e U ⟨rfl, hb4⟩
  have hb5 := hb3.trans (hb4.mono hb3.size)
  have hbU : Below w.heap.size w U := hbW.trans (hb5.mono hlW)
  have l0 := cell_later hb5 m10
  have l1 := cell_later hb5 m11
  have m0 := cell_later hb5 m20
  obtain ⟨g, hg⟩ : ∃ g, g = U.heap.size := ⟨_, rfl⟩
  have hWU : W.heap.size ≤ g := by rw [hg]; exact hb5.size
  have hp1g : p1 < g := Nat.lt_of_lt_of_le hlp1 hWU
  have hp2g : p2 < g := Nat.lt_of_lt_of_le hlp2 hWU
  have hwg : w.heap.size ≤ g := Nat.le_trans hlW hWU
  have hcW : 0 < x.length → Cells eEdge U b off x := fun h => hc.below hb5 (hbWA h)
  have hbg : 0 < x.length → b < g := fun h => Nat.lt_of_lt_of_le (hbWA h) hWU
  have hao : 0 < x.length → a1 = some ⟨b, off, none⟩ ∧ b < g := fun h => ⟨haoA h, hbg h⟩
  have HYH := hid (fun w' (hb : Below g U w') => (show rLexicon.at_ 0 w'.heap.size w' (.agg #[.slice a2 y.length k2]) y from ⟨_, rfl, ((hB.below hb5).below (by rw [hg] at hb; exact hb)).in_⟩))
  have hbw0 : Below g U U := Below.refl _ _
  have Hg := hid hg
  clear hg hc hbWA haoA m10 m11 m20 s20 hA hB hb3 hb4 hb5 q1 q2
  go_upto_if 33 with (first | (go_at_call 45; refine (CI _).mono ?_; rintro e w' ⟨rfl, rfl⟩) | (at_make; refine wpList_make_full _ rfl _ _ 82 rfl U.heap.size 37 i0 _ 1 Try.underlying82 hi0 hz0 hz1 _ _ _ _ N rfl rfl rfl rfl (by rw [hz2]; omega) (by unfold maxLen; omega) (Nat.le_refl _) ?_; intro w1 hown hgr; have hown := Own.made (E := eS1) (z := (⟨none, 0, 0⟩ : SV)) hown rfl; have hw1 : Below g U w1 := (by rw [Hg.out]; exact (Below.refl _ _).grown hgr (Nat.le_refl _) (by simp)); have m0n := below_cell hw1 hp2g m0) | (go_at_call 53; refine (begins_is HCB.out (HYH.out w1 hw1) oky gy hs (by decide)).mono ?_; rintro en w2 ⟨rfl, hb2⟩))
  rw [← Hg.out] at hown ⊢
  have hown2 := hown.below hb2
  have hw2 : Below g U w2 := hw1.trans (hb2.mono (by have := hown.lt.2; omega))
  have HOW := hid hown2
  have HW2 := hid hw2
  have hr1 := (RowsP.made hown2).below (below_alloc w2 (.cells #[.string ⟨#[]⟩, .int .i64 0] 27))
  obtain ⟨_, _, _, q0, _⟩ := hr1.toR.get hN0
  have q1 := hr1.toR.free 0
  clear hown hown2 hw1 hw2 hb2 hgr hi0 hz0 hz1 hz2 m0n hr1
  go_cut [8] from 34 to 37 (fun s8 wx => s8 = .slice (some ⟨g, 0, none⟩) N N ∧ FinQ g N U (startR (beg0 y)) wx)
  case first =>
    cases c
    · go_wp2_with fail
      go_meet
      have hbeg : beg0 y = [] := by unfold beg0; rw [show begLx y ByteArray.empty = false from HCB.out]; rfl
      exact ⟨rfl, _, by rw [hbeg]; have : startR [] = fun _ => [] := (by funext v; unfold startR; split <;> rfl); rw [this]; exact RowsP.made HOW.out, HW2.out⟩
    · go_wp2_with fail
      go_meet
      have hbeg : beg0 y = I0 := by unfold beg0; rw [show begLx y ByteArray.empty = true from HCB.out]; rfl
      obtain ⟨vs0, hr2, hb2⟩ := RowsP.start HOW.out hN0
      exact ⟨rfl, vs0, by rw [hbeg]; exact hr2, HW2.out.trans hb2⟩
  case rest =>
  obtain ⟨hs8, vs0, hr2, hb2⟩ := hcut
  subst hs8
  clear q0 q1
  go_wp2_with fail
  go_loopw [9] (fun i wr => ∃ (k : Nat) (st : SR) (vs : List SV), k ≤ V + 1 ∧ i = .int .i64 k ∧ RowsP g N wr vs st ∧ Below g U wr ∧ Hid (st = rawR (wholeR) (begLx y) (beg0 y) x k)) (fun i _ => V + 1 - (intOf i).toNat)
  case atStart => exact ⟨0, _, _, Nat.zero_le _, rfl, hr2, hb2, hid rfl⟩
  case round =>
    clear hr2 hb2
    obtain ⟨k, st, vs, hk, rfl, hr, hb, HST⟩ := hrel
    obtain ⟨w0, rfl⟩ : ∃ w0, w0 = wr := ⟨wr, rfl⟩
    have t0 := below_cell hb hp1g l0
    have t1 := below_cell hb hp1g l1
    have t2 := below_cell hb hp2g m0
    by_cases hkV : k ≤ V
    · have hlt : k < N := by omega
      have hli : (k : Int) < (N : Int) := by omega
      have hkd : ((k : Int) ≤ (V : Int)) := by omega
      obtain ⟨H, hH⟩ : ∃ H, H = w0.heap.size := ⟨_, rfl⟩
      have hgH : g < H := by rw [hH]; exact hr.toR.lt
      have HH := hid hH
      obtain ⟨⟨sa, sn, sc⟩, hsv, hsn, a0, _⟩ := hr.toR.get hlt
      simp only at hsn a0
      subst hsn
      have hrow : Own eReading 27 (g + 1) w0 (.slice sa (st k).length sc) (st k) := (hr.row k _ hsv).1
      have HBD := hid (show okB B0 st by rw [HB0.out, HST.out]; exact HWAY.out.bd k (by omega))
      have hLk : (st k).length ≤ 1048576 := by have := (HBD.out k).1; omega
      have HTk := hid (show ∀ r ∈ st k, r.text.size ≤ 1048576 from fun r hr => by have := (HBD.out k).2 r hr; omega)
      have HP0 := hid (show PartOk (wholeR) (begLx y) x st k 0 B0 1000 (setR st k (wholeR (st k))) by rw [HB0.out]; exact part_start HWAY.out HG.out hlt HST.out (Nat.le_refl _) (fun S r hr => topR_mem hr))
      have HSV := hid hsv
      clear hH hsv
      have HR := hid hr
      have HB := hid hb
      obtain ⟨st1, hst1⟩ : ∃ st1, st1 = setR st k (wholeR (st k)) := ⟨_, rfl⟩
      rw [← hst1] at HP0
      have HST1 := hid hst1
      clear hr hb hst1 hrow
      go_wp2_with fail
      refine wp_region_stg 11 13 (fun c w' => match c with | 0 => Below w0.heap.size w0 w' | 1 => w0.grownBy w' (SV.blk ⟨sa, (st k).length, sc⟩) | _ => FinQ g N U st1 w') (fun c i v w' => match i with
            | 0 => v = .slice (some ⟨g, 0, none⟩) N N
            | 1 => v = .int .i64 k
            | 2 => v = .slice (some ⟨g, 0, none⟩) N N
            | 3 => v = .int .i64 k
            | 4 => v = .pointer (some ⟨g, k, none⟩)
            | 5 => v = .slice sa (st k).length sc
            | 6 => v = .slice (some ⟨g, 0, none⟩) N N
            | 7 => v = .int .i64 k
            | 8 => v = .pointer (some ⟨g, k, none⟩)
            | 9 => v = .slice sa (st k).length sc
            | 10 => v = .int .i64 (st k).length
            | 11 => (match c with | 0 => True | 1 => NewO (g + 1) w0.heap.size (SV.blk ⟨sa, (st k).length, sc⟩) w' v (wholeR (st k)) | _ => True)
            | 12 => v = .pointer (some ⟨g, k, none⟩)
            | 13 => (match c with | 0 => True | 1 => True | _ => True)
            | _ => True) (by kernel_rfl) (by kernel_rfl) (by kernel_rfl) (by kernel_rfl) (by kernel_rfl) ?_ ?_ ?_ ?_ ?_ ?_ (by decide) ?_
      · exact (Below.refl _ w0).drew
      · intro c w w' h hb
        match c, h with
        | 0, h => exact Below.trans (B := w0.heap.size) h (hb.mono (Below.size h))
        | 1, h => exact grownBy_ofBelow h (Nat.le_refl _) hb
        | (k + 2), h => exact (FinQ.below h hb)
      · intro c i v w w' h hb
        match i, h with
        | 0, h => exact h
        | 1, h => exact h
        | 2, h => exact h
        | 3, h => exact h
        | 4, h => exact h
        | 5, h => exact h
        | 6, h => exact h
        | 7, h => exact h
        | 8, h => exact h
        | 9, h => exact h
        | 10, h => exact h
        | 11, h =>
          match c, h with
          | 0, h => exact trivial
          | 1, h => exact (NewO.below h hb)
          | (k + 2), h => exact trivial
        | 12, h => exact h
        | 13, h =>
          match c, h with
          | 0, h => exact trivial
          | 1, h => exact trivial
          | (k + 2), h => exact trivial
        | (k + 14), h => exact h
      · refine ⟨?_, ?_, ?_, ?_, ?_, ?_, ?_, ?_, ?_, ?_, ?_, ?_, ?_, ?_, trivial⟩
        · refine .inr (.inr ⟨fun _ => ?_, fun _ => ?_, can_no (by kernel_rfl)⟩)
          · intro ρ w' hbw ht hcs hfn hgl hdep G hG
            replace hbw : Below w0.heap.size w0 w' := hbw
            refine ⟨fun _ => ?_, fun h => by cases h⟩
            have s8 : ρ (.tmp 8) = .slice (some ⟨g, 0, none⟩) N N := ht 8 rfl
            clear ht hdep hgl
            go_simp
            exact hG _ _ (Below.refl _ _) rfl
          · intro ρ w' hbw ht hcs hfn hgl hdep G hG
            replace hbw : w0.grownBy w' (SV.blk ⟨sa, (st k).length, sc⟩) := hbw
            refine ⟨fun _ => ?_, fun h => by cases h⟩
            have s8 : ρ (.tmp 8) = .slice (some ⟨g, 0, none⟩) N N := ht 8 rfl
            clear ht hdep hgl
            go_simp
            exact hG _ _ (Below.refl _ _) rfl
        · refine .inr (.inr ⟨fun _ => ?_, fun _ => ?_, can_no (by kernel_rfl)⟩)
          · intro ρ w' hbw ht hcs hfn hgl hdep G hG
            replace hbw : Below w0.heap.size w0 w' := hbw
            refine ⟨fun _ => ?_, fun h => by cases h⟩
            have s9 : ρ (.tmp 9) = .int .i64 k := ht 9 rfl
            clear ht hdep hgl
            go_simp
            exact hG _ _ (Below.refl _ _) rfl
          · intro ρ w' hbw ht hcs hfn hgl hdep G hG
            replace hbw : w0.grownBy w' (SV.blk ⟨sa, (st k).length, sc⟩) := hbw
            refine ⟨fun _ => ?_, fun h => by cases h⟩
            have s9 : ρ (.tmp 9) = .int .i64 k := ht 9 rfl
            clear ht hdep hgl
            go_simp
            exact hG _ _ (Below.refl _ _) rfl
        · refine .inr (.inr ⟨fun _ => ?_, can_no (by kernel_rfl), can_no (by kernel_rfl)⟩)
          · intro ρ w' hbw ht hcs hfn hgl hdep G hG
            replace hbw : Below w0.heap.size w0 w' := hbw
            refine ⟨fun _ => ?_, fun h => by cases h⟩
            have s8 : ρ (.tmp 8) = .slice (some ⟨g, 0, none⟩) N N := ht 8 rfl
            clear ht hdep hgl
            go_simp
            exact hG _ _ (Below.refl _ _) rfl
        · refine .inr (.inr ⟨fun _ => ?_, can_no (by kernel_rfl), can_no (by kernel_rfl)⟩)
          · intro ρ w' hbw ht hcs hfn hgl hdep G hG
            replace hbw : Below w0.heap.size w0 w' := hbw
            refine ⟨fun _ => ?_, fun h => by cases h⟩
            have s9 : ρ (.tmp 9) = .int .i64 k := ht 9 rfl
            clear ht hdep hgl
            go_simp
            exact hG _ _ (Below.refl _ _) rfl
        · refine .inr (.inr ⟨fun _ => ?_, can_no (by kernel_rfl), can_no (by kernel_rfl)⟩)
          · intro ρ w' hbw ht hcs hfn hgl hdep G hG
            replace hbw : Below w0.heap.size w0 w' := hbw
            refine ⟨fun _ => ?_, fun h => by cases h⟩
            have s45 : ρ (.tmp 45) = .slice (some ⟨g, 0, none⟩) N N := hdep ⟨2, .data⟩ (by simp) rfl 45 rfl
            have s46 : ρ (.tmp 46) = .int .i64 k := hdep ⟨3, .data⟩ (by simp) rfl 46 rfl
            clear ht hdep hgl
            go_simp
            exact hG _ _ (Below.refl _ _) rfl
        · refine .inr (.inr ⟨fun _ => ?_, can_no (by kernel_rfl), can_no (by kernel_rfl)⟩)
          · intro ρ w' hbw ht hcs hfn hgl hdep G hG
            replace hbw : Below w0.heap.size w0 w' := hbw
            refine ⟨fun _ => ?_, fun h => by cases h⟩
            have s47 : ρ (.tmp 47) = .pointer (some ⟨g, k, none⟩) := hdep ⟨4, .data⟩ (by simp) rfl 47 rfl
            have a0 := cell_later hbw a0
            clear ht hdep hgl
            go_simp
            exact hG _ _ (Below.refl _ _) rfl
        · refine .inr (.inr ⟨fun _ => ?_, can_no (by kernel_rfl), can_no (by kernel_rfl)⟩)
          · intro ρ w' hbw ht hcs hfn hgl hdep G hG
            replace hbw : Below w0.heap.size w0 w' := hbw
            refine ⟨fun _ => ?_, fun h => by cases h⟩
            have s8 : ρ (.tmp 8) = .slice (some ⟨g, 0, none⟩) N N := ht 8 rfl
            clear ht hdep hgl
            go_simp
            exact hG _ _ (Below.refl _ _) rfl
        · refine .inr (.inr ⟨fun _ => ?_, can_no (by kernel_rfl), can_no (by kernel_rfl)⟩)
          · intro ρ w' hbw ht hcs hfn hgl hdep G hG
            replace hbw : Below w0.heap.size w0 w' := hbw
            refine ⟨fun _ => ?_, fun h => by cases h⟩
            have s9 : ρ (.tmp 9) = .int .i64 k := ht 9 rfl
            clear ht hdep hgl
            go_simp
            exact hG _ _ (Below.refl _ _) rfl
        · refine .inr (.inr ⟨fun _ => ?_, can_no (by kernel_rfl), can_no (by kernel_rfl)⟩)
          · intro ρ w' hbw ht hcs hfn hgl hdep G hG
            replace hbw : Below w0.heap.size w0 w' := hbw
            refine ⟨fun _ => ?_, fun h => by cases h⟩
            have s49 : ρ (.tmp 49) = .slice (some ⟨g, 0, none⟩) N N := hdep ⟨6, .data⟩ (by simp) rfl 49 rfl
            have s50 : ρ (.tmp 50) = .int .i64 k := hdep ⟨7, .data⟩ (by simp) rfl 50 rfl
            clear ht hdep hgl
            go_simp
            exact hG _ _ (Below.refl _ _) rfl
        · refine .inr (.inr ⟨fun _ => ?_, can_no (by kernel_rfl), can_no (by kernel_rfl)⟩)
          · intro ρ w' hbw ht hcs hfn hgl hdep G hG
            replace hbw : Below w0.heap.size w0 w' := hbw
            refine ⟨fun _ => ?_, fun h => by cases h⟩
            have s51 : ρ (.tmp 51) = .pointer (some ⟨g, k, none⟩) := hdep ⟨8, .data⟩ (by simp) rfl 51 rfl
            have a0 := cell_later hbw a0
            clear ht hdep hgl
            go_simp
            exact hG _ _ (Below.refl _ _) rfl
        · refine .inr (.inr ⟨fun _ => ?_, can_no (by kernel_rfl), can_no (by kernel_rfl)⟩)
          · intro ρ w' hbw ht hcs hfn hgl hdep G hG
            replace hbw : Below w0.heap.size w0 w' := hbw
            refine ⟨fun _ => ?_, fun h => by cases h⟩
            have s52 : ρ (.tmp 52) = .slice sa (st k).length sc := hdep ⟨9, .data⟩ (by simp) rfl 52 rfl
            clear ht hdep hgl
            go_simp
            exact hG _ _ (Below.refl _ _) rfl
        · exact .inl rfl
        · refine .inr (.inr ⟨fun _ => ?_, fun _ => ?_, can_no (by kernel_rfl)⟩)
          · intro ρ w' hbw ht hcs hfn hgl hdep G hG
            replace hbw : Below w0.heap.size w0 w' := hbw
            refine ⟨fun _ => ?_, fun h => by cases h⟩
            have s43 : ρ (.tmp 43) = .slice (some ⟨g, 0, none⟩) N N := hdep ⟨0, .data⟩ (by simp) rfl 43 rfl
            have s44 : ρ (.tmp 44) = .int .i64 k := hdep ⟨1, .data⟩ (by simp) rfl 44 rfl
            clear ht hdep hgl
            go_simp
            exact hG _ _ (Below.refl _ _) rfl
          · intro ρ w' hbw ht hcs hfn hgl hdep G hG
            replace hbw : w0.grownBy w' (SV.blk ⟨sa, (st k).length, sc⟩) := hbw
            refine ⟨fun _ => ?_, fun h => by cases h⟩
            have s43 : ρ (.tmp 43) = .slice (some ⟨g, 0, none⟩) N N := hdep ⟨0, .data⟩ (by simp) rfl 43 rfl
            have s44 : ρ (.tmp 44) = .int .i64 k := hdep ⟨1, .data⟩ (by simp) rfl 44 rfl
            clear ht hdep hgl
            go_simp
            exact hG _ _ (Below.refl _ _) rfl
        · exact .inr (.inl rfl)
      · intro o ho
        obtain rfl := Option.some.inj ho
        intro ρ w' hbw ht hcs hfn hgl hdep G hG
        replace hbw : Below w0.heap.size w0 w' := hbw
        refine ⟨fun _ => ?_, fun h => by cases h⟩
        have s48 : ρ (.tmp 48) = .slice sa (st k).length sc := hdep ⟨5, .data⟩ (by simp) rfl 48 rfl
        have s53 : ρ (.tmp 53) = .int .i64 (st k).length := hdep ⟨10, .data⟩ (by simp) rfl 53 rfl
        clear ht hdep hgl
        have hr4 := HR.out.below hbw
        have hrow4 : Own eReading 27 (g + 1) w' (.slice sa (st k).length sc) (st k) := (hr4.row k _ HSV.out).1
        go_simp
        refine (firstReadings_any _ (st k) (st k).length (g + 1) w' hrow4 (by have := HH.out; have := hbw.size; omega) hLk hLk HTk.out).mono ?_
        rintro en w5 ⟨u5, rfl, ho5, hg5⟩
        obtain ⟨a5, c5, hu5⟩ := ho5.isSlice
        refine ⟨_, rfl, hG _ _ (grown_of_below hbw hg5) ⟨a5, c5, hu5, (ho5.in_).mono (lo' := g + 1) (by have := HH.out; have := hbw.size; omega) (Nat.le_refl _), .inr fun q hq => Nat.le_trans hbw.size (World.ownsRow.lt ho5 q hq).1⟩ ?_⟩
        intro j u hj hne h
        match j, h with
        | 0, h => exact h
        | 1, h => exact h
        | 2, h => exact h
        | 3, h => exact h
        | 4, h => exact h
        | 5, h => exact h
        | 6, h => exact h
        | 7, h => exact h
        | 8, h => exact h
        | 9, h => exact h
        | 10, h => exact h
        | 11, h => exact absurd rfl hne
        | 12, h => exact h
        | 13, h => exact trivial
        | (k + 14), h => exact h
      · intro o ho
        obtain rfl := Option.some.inj ho
        intro ρ w' hbw ht hcs hfn hgl hdep G hG
        replace hbw : w0.grownBy w' (SV.blk ⟨sa, (st k).length, sc⟩) := hbw
        refine ⟨fun _ => ?_, fun h => by cases h⟩
        have s55 : ρ (.tmp 55) = .pointer (some ⟨g, k, none⟩) := hdep ⟨12, .data⟩ (by simp) rfl 55 rfl
        have d54 := hdep ⟨11, .data⟩ (by simp) rfl 54 rfl
        clear ht hdep hgl
        obtain ⟨ua, uc, s54, hoA, hlA⟩ := d54
        have htn := (HR.out.turn HSV.out hbw).1
        obtain ⟨_, a2⟩ := rows_cell htn HR.out.len hlt
        have q2 := htn.free HR.out.len k
        rw [s54] at hoA hlA
        have hp := HR.out.put hlt HSV.out hbw hoA hlA
        have hf4 := hid (show FinQ g N U st1 _ from ⟨_, by rw [HST1.out]; exact hp.1, (HB.out.grown hbw (by have := HH.out; omega) (fun kk hh => by have := (World.ownsRow.lt (HR.out.row k _ HSV.out).1 kk hh).1; omega)).grown hp.2 (by have := HH.out; have := hbw.size; omega) (by intro kk hh; cases hh; exact Nat.le_refl _)⟩)
        clear hp htn hoA hlA
        go_simp
        refine hG _ _ hf4.out trivial ?_
        intro j u hj hne h
        match j, h with
        | 0, h => exact h
        | 1, h => exact h
        | 2, h => exact h
        | 3, h => exact h
        | 4, h => exact h
        | 5, h => exact h
        | 6, h => exact h
        | 7, h => exact h
        | 8, h => exact h
        | 9, h => exact h
        | 10, h => exact h
        | 11, h => exact trivial
        | 12, h => exact h
        | 13, h => exact trivial
        | (k + 14), h => exact h
      intro xx w6 hF hx
      clear hx
      simp only [putAll, Act.put, List.setIfInBounds_toArray, List.set_cons_succ, List.set_cons_zero, Nat.zero_add, Nat.reduceAdd]
      obtain ⟨vs6, hr6, hb6⟩ := hF
      have t0 := below_cell hb6 hp1g l0
      have t1 := below_cell hb6 hp1g l1
      go_wp2_with fail
      go_loopw [59] (fun i wq => ∃ (j : Nat) (st2 : SR) (vs : List SV), j ≤ x.length ∧ i = .int .i64 j ∧ RowsP g N wq vs st2 ∧ Below g U wq ∧ Hid (PartOk (wholeR) (begLx y) x st k j B0 1000 st2)) (fun i _ => x.length - (intOf i).toNat)
      case atStart => exact ⟨0, _, _, Nat.zero_le _, rfl, hr6, hb6, HP0⟩
      case round =>
        clear t0 t1 hr6 hb6 HP0
        obtain ⟨j, st2, vs2, hj, rfl, hr, hb, HP⟩ := hrel
        have t0 := below_cell hb hp1g l0
        have t1 := below_cell hb hp1g l1
        by_cases hjl : j < x.length
        · obtain ⟨hao', hbw⟩ := hao (by omega)
          subst hao'
          obtain ⟨e, he⟩ : ∃ e, x[j]? = some e := ⟨_, List.getElem?_eq_getElem hjl⟩
          have hli2 : (j : Int) < (x.length : Int) := by omega
          obtain ⟨f0, f1, f2, f3, f4⟩ := valid_fit HV.out he
          have hlb := valid_lab HV.out he
          obtain ⟨c0, c1, c2, c3⟩ := eEdge_cells (w := U) (hcW (by omega)) he
          have hbgx := hbg (by omega)
          replace c0 := below_cell hb hbgx c0
          replace c1 := below_cell hb hbgx c1
          replace c2 := below_cell hb hbgx c2
          replace c3 := below_cell hb hbgx c3
          have HE := hid he
          obtain ⟨fq, tq, la, co⟩ := e
          simp only at f0 f1 f2 f3 f4 hlb c0 c1 c2 c3
          obtain ⟨f, rfl⟩ : ∃ f : Nat, fq = f := ⟨fq.toNat, by omega⟩
          obtain ⟨t, rfl⟩ : ∃ t : Nat, tq = t := ⟨tq.toNat, by omega⟩
          clear he hao
          obtain ⟨wE, hwE⟩ : ∃ wE, wE = wr.alloc (.cells #[.int .i64 f, .int .i64 t, .string la, .int .i64 co] 89) := ⟨_, rfl⟩
          have hmE : Below wr.heap.size wr wE := by rw [hwE]; exact below_alloc _ _
          obtain ⟨pe, hpe⟩ : ∃ pe, pe = wr.heap.size := ⟨_, rfl⟩
          have bE : Box wE pe #[.int .i64 f, .int .i64 t, .string la, .int .i64 co] 89 := by rw [hwE, hpe]; exact Box.new _ _ _
          have hgr0 : g < wr.heap.size := hr.toR.lt
          have hgpe : g ≠ pe := by omega
          have hrE := hr.below hmE
          have hbE : Below g U wE := hb.trans (hmE.mono (Nat.le_of_lt hgr0))
          have HWE := hid hwE
          have HPE := hid hpe
          clear hwE hpe
          by_cases hfk : f = k
          · subst hfk
            have hft : f < t := by omega
            have htN : t < N := by omega
            have htNi : (t : Int) < (N : Int) := by omega
            have hfNi : (f : Int) < (N : Int) := by omega
            obtain ⟨⟨sa, sn, sc⟩, hsF, hsn, a0, _⟩ := hr.toR.get hlt
            simp only at hsn a0
            obtain ⟨L, hL⟩ : ∃ L, L = st2 f := ⟨_, rfl⟩
            rw [← hL] at hsn a0
            subst hsn
            have hL9 : L.length ≤ 1000 := by rw [hL]; exact HP.out.row
            have hTX := hid (show ∀ r ∈ L, r.text.size ≤ f by rw [hL]; exact (HP.out.ok f).2)
            have HL := hid hL
            have HSF := hid hsF
            have ae0 := cell_alloc a0 (.cells #[.int .i64 f, .int .i64 t, .string la, .int .i64 co] 89)
            have z0 := bE.cell (j := 0) rfl
            clear hL a0 hsF
            go_wp2_with fail
            rw [← HWE.out]
            try rw [← HPE.out]
            go_loopw [72] (fun i wz => ∃ (q : Nat) (st3 : SR) (vs3 : List SV), q ≤ L.length ∧ i = .int .i64 q ∧ RowsP g N wz vs3 st3 ∧ vs3[f]? = some ⟨sa, L.length, sc⟩ ∧ Below g U wz ∧ Box wz pe #[.int .i64 f, .int .i64 t, .string la, .int .i64 co] 89 ∧ Hid (st3 = layQ (begLx y) st2 ⟨f, t, la, co⟩ q)) (fun i _ => L.length - (intOf i).toNat)
            case atStart => exact ⟨0, st2, vs2, Nat.zero_le _, rfl, hrE, HSF.out, hbE, bE, hid (layQ_zero _ _ _).symm⟩
            case round =>
              clear t0 t1 c0 c1 c2 c3 hr hrE hb hbE bE ae0 z0 hmE hgr0
              obtain ⟨q, st3, vs3, hq, rfl, hr, hsF, hb, bE, HS3⟩ := hrel
              have hgr0 : g < wr.heap.size := hr.toR.lt
              by_cases hql : q < L.length
              · have hqi : (q : Int) < (L.length : Int) := by omega
                obtain ⟨r, hrq⟩ : ∃ r, L[q]? = some r := ⟨_, List.getElem?_eq_getElem hql⟩
                have hAf := ArrIn.arr ((hr.toR.row f _ hsF))
                have hsf3 : st3 f = L := by rw [HS3.out, HL.out]; exact layQ_from (e := ⟨f, t, la, co⟩) (by show f < t; exact hft)
                rw [hsf3] at hAf
                obtain ⟨b2, o2, ao2, cp2, hv2, hnc2, hcm2, hao2, hcl2⟩ := hAf
                simp only [SV.val, Value.slice.injEq] at hv2
                obtain ⟨rfl, _, rfl⟩ := hv2
                obtain ⟨hae, hbl2⟩ := hao2 (by omega)
                subst hae
                unfold maxLen at hcm2
                obtain ⟨r0, r1⟩ := eReading_cells hcl2 hrq
                have hrs := hTX.out r (List.mem_of_getElem? hrq)
                have HRQ := hid hrq
                obtain ⟨tx, cr⟩ := r
                simp only at r0 r1 hrs
                have hcat : tx.size + la.size ≤ 9223372036854775807 := by omega
                have hcati : (tx.size : Int) + (la.size : Int) ≤ 9223372036854775807 := by omega
                have hcc : ¬ 9223372036854775807 < tx.size + 1 := by omega
                clear hao2 hcl2 hrq hsf3
                have htxs : (tx ++ la).size = tx.size + la.size := ByteArray.size_append ..
                have hlt3 : (st3 t).length ≤ 402000 := by
                  have h1 := (HP.out.lay (e := ⟨f, t, la, co⟩) rfl (by show f < t; exact hft) hlb q t).1
                  rw [← HS3.out] at h1
                  omega
                obtain ⟨w3, hw3⟩ : ∃ w3, w3 = wr.alloc (.cells #[.string tx, .int .i64 cr] 27) := ⟨_, rfl⟩
                have hm3 : Below wr.heap.size wr w3 := by rw [hw3]; exact below_alloc _ _
                obtain ⟨pr, hpr⟩ : ∃ pr, pr = wr.heap.size := ⟨_, rfl⟩
                have bR : Box w3 pr #[.string tx, .int .i64 cr] 27 := by rw [hw3, hpr]; exact Box.new _ _ _
                have bE3 := bE.later hm3
                have hgpr : g ≠ pr := by omega
                have hb3 : Below g U w3 := hb.trans (hm3.mono (Nat.le_of_lt hgr0))
                have hr3 := hr.below hm3
                have hg3 : g < w3.heap.size := hr3.toR.lt
                have y2 := bE3.cell (j := 2) rfl
                have y0 := bR.cell (j := 0) rfl
                have ym := below_cell hb3 hp2g m0
                have z2 := cell_alloc (bE.cell (j := 2) rfl) (.cells #[.string tx, .int .i64 cr] 27)
                have zm := cell_alloc (below_cell hb hp2g m0) (.cells #[.string tx, .int .i64 cr] 27)
                have HSF3 := hid hsF
                have HR3 := hid hr3
                have HB3 := hid hb3
                have HBE := hid bE3
                have HBR := hid bR
                have HW3 := hid hw3
                have HPR := hid hpr
                have hbt := HS3.out
                clear hbt
                clear hsF hr hb bE bR bE3 hr3 hb3 hw3 hpr hm3
                go_wp2_with fail
                rw [← HW3.out]
                try rw [← HPR.out]
                clear r0 r1 z2 zm
                cases hbt : begLx y (tx ++ la)
                · have HSAME : Hid (st3 = layQ (begLx y) st2 ⟨f, t, la, co⟩ (q + 1)) := hid (by
                    have h1 := layQ_at (beg := begLx y) (st := st2) (e := ⟨f, t, la, co⟩) (q := q) (r := ⟨tx, cr⟩) (by show (st2 f)[q]? = _; rw [← HL.out]; exact HRQ.out)
                    have h2 : (extR ⟨tx, cr⟩ (⟨f, t, la, co⟩ : DEdge)).text = tx ++ la := rfl
                    rw [h2, if_neg (by rw [hbt]; exact Bool.false_ne_true)] at h1
                    rw [h1]; exact HS3.out)
                  refine (begins_is hbt (HYH.out w3 HB3.out) oky gy hs (by rw [htxs]; omega)).mono ?_
                  rintro en w4 ⟨rfl, hb4⟩
                  go_wp2_with fail
                  go_roundw
                  case rel => exact ⟨q + 1, st3, vs3, by omega, by go_num, HR3.out.below hb4, HSF3.out, HB3.out.trans (hb4.mono (Nat.le_of_lt hg3)), HBE.out.later hb4, HSAME⟩
                  case measure => simp [intOf]; omega
                obtain ⟨ws, hws⟩ : ∃ ws, ws = IntKind.i64.wrap (cr + co) := ⟨_, rfl⟩
                have hws' := hws.symm
                have HNEW : Hid (setR st3 t (st3 t ++ [⟨tx ++ la, ws⟩]) = layQ (begLx y) st2 ⟨f, t, la, co⟩ (q + 1)) := hid (by
                  have h1 := layQ_at (beg := begLx y) (st := st2) (e := ⟨f, t, la, co⟩) (q := q) (r := ⟨tx, cr⟩) (by show (st2 f)[q]? = _; rw [← HL.out]; exact HRQ.out)
                  have h2 : extR ⟨tx, cr⟩ ⟨f, t, la, co⟩ = ⟨tx ++ la, ws⟩ := by rw [hws]; rfl
                  rw [h2, if_pos hbt] at h1
                  rw [h1, HS3.out]; rfl)
                clear hws
                refine (begins_is hbt (HYH.out w3 HB3.out) oky gy hs (by rw [htxs]; omega)).mono ?_
                rintro en w4 ⟨rfl, hb4⟩
                have HB4 := hid (HB3.out.trans (hb4.mono (Nat.le_of_lt hg3)))
                have HR4 := hid (HR3.out.below hb4)
                have HBE4 := hid (HBE.out.later hb4)
                have HBR4 := hid (HBR.out.later hb4)
                have hg4 : g < w4.heap.size := HR4.out.toR.lt
                obtain ⟨⟨ta, tn, tc⟩, hsT, htn, a1, _⟩ := HR4.out.toR.get htN
                simp only at htn a1
                subst htn
                have HST3 := hid hsT
                have z1 := HBE4.out.cell (j := 1) rfl
                have z3 := HBE4.out.cell (j := 3) rfl
                have y1 := HBR4.out.cell (j := 1) rfl
                have hne4 := own_box_ne (HR4.out.row t _ HST3.out).1 HBE4.out (by decide)
                clear hsT y0 y2 ym hbt htxs
                go_wp2_with fail
                refine wp_region_stg 16 18 (fun c w' => match c with | 0 => Below w4.heap.size w4 w' | 1 => w4.grownBy w' (SV.blk ⟨ta, (st3 t).length, tc⟩) | _ => FinP g N U pe #[.int .i64 f, .int .i64 t, .string la, .int .i64 co] f ⟨some ⟨b2, o2, none⟩, L.length, sc⟩ (setR st3 t (st3 t ++ [⟨tx ++ la, ws⟩])) w') (fun c i v w' => match i with
                      | 0 => v = .slice (some ⟨g, 0, none⟩) N N
                      | 1 => v = .pointer (some ⟨pe, 1, none⟩)
                      | 2 => v = .int .i64 t
                      | 3 => v = .slice (some ⟨g, 0, none⟩) N N
                      | 4 => v = .pointer (some ⟨pe, 1, none⟩)
                      | 5 => v = .int .i64 t
                      | 6 => v = .pointer (some ⟨g, t, none⟩)
                      | 7 => v = .slice ta (st3 t).length tc
                      | 8 => v = .string (tx ++ la)
                      | 9 => v = .pointer (some ⟨pr, 1, none⟩)
                      | 10 => v = .int .i64 cr
                      | 11 => v = .pointer (some ⟨pe, 3, none⟩)
                      | 12 => v = .int .i64 co
                      | 13 => v = .int .i64 ws
                      | 14 => v = .agg #[.string (tx ++ la), .int .i64 ws]
                      | 15 => (match c with | 0 => Arr eReading w' v [⟨tx ++ la, ws⟩] | 1 => True | _ => True)
                      | 16 => (match c with | 0 => True | 1 => NewO (g + 1) w4.heap.size (SV.blk ⟨ta, (st3 t).length, tc⟩) w' v (st3 t ++ [⟨tx ++ la, ws⟩]) | _ => True)
                      | 17 => v = .pointer (some ⟨g, t, none⟩)
                      | 18 => (match c with | 0 => True | 1 => True | _ => True)
                      | _ => True) (by kernel_rfl) (by kernel_rfl) (by kernel_rfl) (by kernel_rfl) (by kernel_rfl) ?_ ?_ ?_ ?_ ?_ ?_ (by decide) ?_
                · exact (Below.refl _ w4).drew
                · intro c w w' h hb
                  match c, h with
                  | 0, h => exact Below.trans (B := w4.heap.size) h (hb.mono (Below.size h))
                  | 1, h => exact grownBy_ofBelow h (Nat.le_refl _) hb
                  | (k + 2), h => exact (FinP.below h hb)
                · intro c i v w w' h hb
                  match i, h with
                  | 0, h => exact h
                  | 1, h => exact h
                  | 2, h => exact h
                  | 3, h => exact h
                  | 4, h => exact h
                  | 5, h => exact h
                  | 6, h => exact h
                  | 7, h => exact h
                  | 8, h => exact h
                  | 9, h => exact h
                  | 10, h => exact h
                  | 11, h => exact h
                  | 12, h => exact h
                  | 13, h => exact h
                  | 14, h => exact h
                  | 15, h =>
                    match c, h with
                    | 0, h => exact (Arr.below h hb)
                    | 1, h => exact trivial
                    | (k + 2), h => exact trivial
                  | 16, h =>
                    match c, h with
                    | 0, h => exact trivial
                    | 1, h => exact (NewO.below h hb)
                    | (k + 2), h => exact trivial
                  | 17, h => exact h
                  | 18, h =>
                    match c, h with
                    | 0, h => exact trivial
                    | 1, h => exact trivial
                    | (k + 2), h => exact trivial
                  | (k + 19), h => exact h
                · refine ⟨?_, ?_, ?_, ?_, ?_, ?_, ?_, ?_, ?_, ?_, ?_, ?_, ?_, ?_, ?_, ?_, ?_, ?_, ?_, trivial⟩
                  · refine .inr (.inr ⟨fun _ => ?_, fun _ => ?_, can_no (by kernel_rfl)⟩)
                    · intro ρ w' hbw ht hcs hfn hgl hdep G hG
                      replace hbw : Below w4.heap.size w4 w' := hbw
                      refine ⟨fun _ => ?_, fun h => by cases h⟩
                      have s8 : ρ (.tmp 8) = .slice (some ⟨g, 0, none⟩) N N := ht 8 rfl
                      clear ht hdep hgl
                      go_simp
                      exact hG _ _ (Below.refl _ _) rfl
                    · intro ρ w' hbw ht hcs hfn hgl hdep G hG
                      replace hbw : w4.grownBy w' (SV.blk ⟨ta, (st3 t).length, tc⟩) := hbw
                      refine ⟨fun _ => ?_, fun h => by cases h⟩
                      have s8 : ρ (.tmp 8) = .slice (some ⟨g, 0, none⟩) N N := ht 8 rfl
                      clear ht hdep hgl
                      go_simp
                      exact hG _ _ (Below.refl _ _) rfl
                  · refine .inr (.inr ⟨fun _ => ?_, fun _ => ?_, can_no (by kernel_rfl)⟩)
                    · intro ρ w' hbw ht hcs hfn hgl hdep G hG
                      replace hbw : Below w4.heap.size w4 w' := hbw
                      refine ⟨fun _ => ?_, fun h => by cases h⟩
                      have s11 : ρ (.tmp 11) = .pointer (some ⟨pe, 0, none⟩) := ht 11 rfl
                      clear ht hdep hgl
                      go_simp
                      exact hG _ _ (Below.refl _ _) rfl
                    · intro ρ w' hbw ht hcs hfn hgl hdep G hG
                      replace hbw : w4.grownBy w' (SV.blk ⟨ta, (st3 t).length, tc⟩) := hbw
                      refine ⟨fun _ => ?_, fun h => by cases h⟩
                      have s11 : ρ (.tmp 11) = .pointer (some ⟨pe, 0, none⟩) := ht 11 rfl
                      clear ht hdep hgl
                      go_simp
                      exact hG _ _ (Below.refl _ _) rfl
                  · refine .inr (.inr ⟨fun _ => ?_, fun _ => ?_, can_no (by kernel_rfl)⟩)
                    · intro ρ w' hbw ht hcs hfn hgl hdep G hG
                      replace hbw : Below w4.heap.size w4 w' := hbw
                      refine ⟨fun _ => ?_, fun h => by cases h⟩
                      have s85 : ρ (.tmp 85) = .pointer (some ⟨pe, 1, none⟩) := hdep ⟨1, .data⟩ (by simp) rfl 85 rfl
                      have z1 := cell_later hbw z1
                      have z3 := cell_later hbw z3
                      have y1 := cell_later hbw y1
                      have a1 := cell_later hbw a1
                      clear ht hdep hgl
                      go_simp
                      exact hG _ _ (Below.refl _ _) rfl
                    · intro ρ w' hbw ht hcs hfn hgl hdep G hG
                      replace hbw : w4.grownBy w' (SV.blk ⟨ta, (st3 t).length, tc⟩) := hbw
                      refine ⟨fun _ => ?_, fun h => by cases h⟩
                      have s85 : ρ (.tmp 85) = .pointer (some ⟨pe, 1, none⟩) := hdep ⟨1, .data⟩ (by simp) rfl 85 rfl
                      have z1 := grown_cell hbw z1 hne4
                      clear ht hdep hgl
                      go_simp
                      exact hG _ _ (Below.refl _ _) rfl
                  · refine .inr (.inr ⟨fun _ => ?_, can_no (by kernel_rfl), can_no (by kernel_rfl)⟩)
                    · intro ρ w' hbw ht hcs hfn hgl hdep G hG
                      replace hbw : Below w4.heap.size w4 w' := hbw
                      refine ⟨fun _ => ?_, fun h => by cases h⟩
                      have s8 : ρ (.tmp 8) = .slice (some ⟨g, 0, none⟩) N N := ht 8 rfl
                      clear ht hdep hgl
                      go_simp
                      exact hG _ _ (Below.refl _ _) rfl
                  · refine .inr (.inr ⟨fun _ => ?_, can_no (by kernel_rfl), can_no (by kernel_rfl)⟩)
                    · intro ρ w' hbw ht hcs hfn hgl hdep G hG
                      replace hbw : Below w4.heap.size w4 w' := hbw
                      refine ⟨fun _ => ?_, fun h => by cases h⟩
                      have s11 : ρ (.tmp 11) = .pointer (some ⟨pe, 0, none⟩) := ht 11 rfl
                      clear ht hdep hgl
                      go_simp
                      exact hG _ _ (Below.refl _ _) rfl
                  · refine .inr (.inr ⟨fun _ => ?_, can_no (by kernel_rfl), can_no (by kernel_rfl)⟩)
                    · intro ρ w' hbw ht hcs hfn hgl hdep G hG
                      replace hbw : Below w4.heap.size w4 w' := hbw
                      refine ⟨fun _ => ?_, fun h => by cases h⟩
                      have s88 : ρ (.tmp 88) = .pointer (some ⟨pe, 1, none⟩) := hdep ⟨4, .data⟩ (by simp) rfl 88 rfl
                      have z1 := cell_later hbw z1
                      have z3 := cell_later hbw z3
                      have y1 := cell_later hbw y1
                      have a1 := cell_later hbw a1
                      clear ht hdep hgl
                      go_simp
                      exact hG _ _ (Below.refl _ _) rfl
                  · refine .inr (.inr ⟨fun _ => ?_, can_no (by kernel_rfl), can_no (by kernel_rfl)⟩)
                    · intro ρ w' hbw ht hcs hfn hgl hdep G hG
                      replace hbw : Below w4.heap.size w4 w' := hbw
                      refine ⟨fun _ => ?_, fun h => by cases h⟩
                      have s87 : ρ (.tmp 87) = .slice (some ⟨g, 0, none⟩) N N := hdep ⟨3, .data⟩ (by simp) rfl 87 rfl
                      have s89 : ρ (.tmp 89) = .int .i64 t := hdep ⟨5, .data⟩ (by simp) rfl 89 rfl
                      clear ht hdep hgl
                      go_simp
                      exact hG _ _ (Below.refl _ _) rfl
                  · refine .inr (.inr ⟨fun _ => ?_, can_no (by kernel_rfl), can_no (by kernel_rfl)⟩)
                    · intro ρ w' hbw ht hcs hfn hgl hdep G hG
                      replace hbw : Below w4.heap.size w4 w' := hbw
                      refine ⟨fun _ => ?_, fun h => by cases h⟩
                      have s90 : ρ (.tmp 90) = .pointer (some ⟨g, t, none⟩) := hdep ⟨6, .data⟩ (by simp) rfl 90 rfl
                      have z1 := cell_later hbw z1
                      have z3 := cell_later hbw z3
                      have y1 := cell_later hbw y1
                      have a1 := cell_later hbw a1
                      clear ht hdep hgl
                      go_simp
                      exact hG _ _ (Below.refl _ _) rfl
                  · refine .inr (.inr ⟨fun _ => ?_, can_no (by kernel_rfl), can_no (by kernel_rfl)⟩)
                    · intro ρ w' hbw ht hcs hfn hgl hdep G hG
                      replace hbw : Below w4.heap.size w4 w' := hbw
                      refine ⟨fun _ => ?_, fun h => by cases h⟩
                      have s14 : ρ (.tmp 14) = .string (tx ++ la) := ht 14 rfl
                      clear ht hdep hgl
                      go_simp
                      exact hG _ _ (Below.refl _ _) rfl
                  · refine .inr (.inr ⟨fun _ => ?_, can_no (by kernel_rfl), can_no (by kernel_rfl)⟩)
                    · intro ρ w' hbw ht hcs hfn hgl hdep G hG
                      replace hbw : Below w4.heap.size w4 w' := hbw
                      refine ⟨fun _ => ?_, fun h => by cases h⟩
                      have s13 : ρ (.tmp 13) = .pointer (some ⟨pr, 0, none⟩) := ht 13 rfl
                      clear ht hdep hgl
                      go_simp
                      exact hG _ _ (Below.refl _ _) rfl
                  · refine .inr (.inr ⟨fun _ => ?_, can_no (by kernel_rfl), can_no (by kernel_rfl)⟩)
                    · intro ρ w' hbw ht hcs hfn hgl hdep G hG
                      replace hbw : Below w4.heap.size w4 w' := hbw
                      refine ⟨fun _ => ?_, fun h => by cases h⟩
                      have s93 : ρ (.tmp 93) = .pointer (some ⟨pr, 1, none⟩) := hdep ⟨9, .data⟩ (by simp) rfl 93 rfl
                      have z1 := cell_later hbw z1
                      have z3 := cell_later hbw z3
                      have y1 := cell_later hbw y1
                      have a1 := cell_later hbw a1
                      clear ht hdep hgl
                      go_simp
                      exact hG _ _ (Below.refl _ _) rfl
                  · refine .inr (.inr ⟨fun _ => ?_, can_no (by kernel_rfl), can_no (by kernel_rfl)⟩)
                    · intro ρ w' hbw ht hcs hfn hgl hdep G hG
                      replace hbw : Below w4.heap.size w4 w' := hbw
                      refine ⟨fun _ => ?_, fun h => by cases h⟩
                      have s11 : ρ (.tmp 11) = .pointer (some ⟨pe, 0, none⟩) := ht 11 rfl
                      clear ht hdep hgl
                      go_simp
                      exact hG _ _ (Below.refl _ _) rfl
                  · refine .inr (.inr ⟨fun _ => ?_, can_no (by kernel_rfl), can_no (by kernel_rfl)⟩)
                    · intro ρ w' hbw ht hcs hfn hgl hdep G hG
                      replace hbw : Below w4.heap.size w4 w' := hbw
                      refine ⟨fun _ => ?_, fun h => by cases h⟩
                      have s95 : ρ (.tmp 95) = .pointer (some ⟨pe, 3, none⟩) := hdep ⟨11, .data⟩ (by simp) rfl 95 rfl
                      have z1 := cell_later hbw z1
                      have z3 := cell_later hbw z3
                      have y1 := cell_later hbw y1
                      have a1 := cell_later hbw a1
                      clear ht hdep hgl
                      go_simp
                      exact hG _ _ (Below.refl _ _) rfl
                  · refine .inr (.inr ⟨fun _ => ?_, can_no (by kernel_rfl), can_no (by kernel_rfl)⟩)
                    · intro ρ w' hbw ht hcs hfn hgl hdep G hG
                      replace hbw : Below w4.heap.size w4 w' := hbw
                      refine ⟨fun _ => ?_, fun h => by cases h⟩
                      have s94 : ρ (.tmp 94) = .int .i64 cr := hdep ⟨10, .data⟩ (by simp) rfl 94 rfl
                      have s96 : ρ (.tmp 96) = .int .i64 co := hdep ⟨12, .data⟩ (by simp) rfl 96 rfl
                      clear ht hdep hgl
                      go_simp
                      exact hG _ _ (Below.refl _ _) rfl
                  · refine .inr (.inr ⟨fun _ => ?_, can_no (by kernel_rfl), can_no (by kernel_rfl)⟩)
                    · intro ρ w' hbw ht hcs hfn hgl hdep G hG
                      replace hbw : Below w4.heap.size w4 w' := hbw
                      refine ⟨fun _ => ?_, fun h => by cases h⟩
                      have s92 : ρ (.tmp 92) = .string (tx ++ la) := hdep ⟨8, .data⟩ (by simp) rfl 92 rfl
                      have s97 : ρ (.tmp 97) = .int .i64 ws := hdep ⟨13, .data⟩ (by simp) rfl 97 rfl
                      clear ht hdep hgl
                      go_simp
                      exact hG _ _ (Below.refl _ _) rfl
                  · refine .inr (.inr ⟨fun _ => ?_, can_no (by kernel_rfl), can_no (by kernel_rfl)⟩)
                    · intro ρ w' hbw ht hcs hfn hgl hdep G hG
                      replace hbw : Below w4.heap.size w4 w' := hbw
                      refine ⟨fun _ => ?_, fun h => by cases h⟩
                      have s98 : ρ (.tmp 98) = .agg #[.string (tx ++ la), .int .i64 ws] := hdep ⟨14, .data⟩ (by simp) rfl 98 rfl
                      clear ht hdep hgl
                      go_simp
                      exact hG _ _ (below_alloc _ _) (arr_block1 (E := eReading) (n := 1) [(⟨tx ++ la, ws⟩ : DReading)] #[.string (tx ++ la), .int .i64 ws] rfl rfl (maxLen_ge (Nat.le_of_ble_eq_true rfl)) rfl)
                  · exact .inl rfl
                  · refine .inr (.inr ⟨fun _ => ?_, fun _ => ?_, can_no (by kernel_rfl)⟩)
                    · intro ρ w' hbw ht hcs hfn hgl hdep G hG
                      replace hbw : Below w4.heap.size w4 w' := hbw
                      refine ⟨fun _ => ?_, fun h => by cases h⟩
                      have s84 : ρ (.tmp 84) = .slice (some ⟨g, 0, none⟩) N N := hdep ⟨0, .data⟩ (by simp) rfl 84 rfl
                      have s86 : ρ (.tmp 86) = .int .i64 t := hdep ⟨2, .data⟩ (by simp) rfl 86 rfl
                      clear ht hdep hgl
                      go_simp
                      exact hG _ _ (Below.refl _ _) rfl
                    · intro ρ w' hbw ht hcs hfn hgl hdep G hG
                      replace hbw : w4.grownBy w' (SV.blk ⟨ta, (st3 t).length, tc⟩) := hbw
                      refine ⟨fun _ => ?_, fun h => by cases h⟩
                      have s84 : ρ (.tmp 84) = .slice (some ⟨g, 0, none⟩) N N := hdep ⟨0, .data⟩ (by simp) rfl 84 rfl
                      have s86 : ρ (.tmp 86) = .int .i64 t := hdep ⟨2, .data⟩ (by simp) rfl 86 rfl
                      clear ht hdep hgl
                      go_simp
                      exact hG _ _ (Below.refl _ _) rfl
                  · exact .inr (.inl rfl)
                · intro o ho
                  obtain rfl := Option.some.inj ho
                  intro ρ w' hbw ht hcs hfn hgl hdep G hG
                  replace hbw : Below w4.heap.size w4 w' := hbw
                  refine ⟨fun _ => ?_, fun h => by cases h⟩
                  have s91 : ρ (.tmp 91) = .slice ta (st3 t).length tc := hdep ⟨7, .data⟩ (by simp) rfl 91 rfl
                  have d99 := hdep ⟨15, .data⟩ (by simp) rfl 99 rfl
                  clear ht hdep hgl
                  have hr4 := HR4.out.below hbw
                  refine upon_appO _ _ 37 (by rfl) (g + 1) 27 _ 24 infReading Try.underlying37 rfl _ (st3 t) s91 (hr4.row t _ HST3.out).1 [⟨tx ++ la, ws⟩] d99 (by unfold maxLen; simp <;> omega) (by simp <;> omega) (Nat.le_trans hg4 hbw.size) ?_
                  intro v' wA hoA hgA hlA
                  obtain ⟨ua, uc, hu⟩ := hoA.isSlice
                  refine hG _ _ (grown_of_below hbw hgA) ⟨ua, uc, hu, hoA.in_, hlA.imp id fun e q hq => ?_⟩ ?_
                  · rw [e] at hq; cases hq; exact hbw.size
                  intro j u hj hne h
                  match j, h with
                  | 0, h => exact h
                  | 1, h => exact h
                  | 2, h => exact h
                  | 3, h => exact h
                  | 4, h => exact h
                  | 5, h => exact h
                  | 6, h => exact h
                  | 7, h => exact h
                  | 8, h => exact h
                  | 9, h => exact h
                  | 10, h => exact h
                  | 11, h => exact h
                  | 12, h => exact h
                  | 13, h => exact h
                  | 14, h => exact h
                  | 15, h => exact trivial
                  | 16, h => exact absurd rfl hne
                  | 17, h => exact h
                  | 18, h => exact trivial
                  | (k + 19), h => exact h
                · intro o ho
                  obtain rfl := Option.some.inj ho
                  intro ρ w' hbw ht hcs hfn hgl hdep G hG
                  replace hbw : w4.grownBy w' (SV.blk ⟨ta, (st3 t).length, tc⟩) := hbw
                  refine ⟨fun _ => ?_, fun h => by cases h⟩
                  have s101 : ρ (.tmp 101) = .pointer (some ⟨g, t, none⟩) := hdep ⟨17, .data⟩ (by simp) rfl 101 rfl
                  have d100 := hdep ⟨16, .data⟩ (by simp) rfl 100 rfl
                  clear ht hdep hgl
                  obtain ⟨ua, uc, s100, hoA, hlA⟩ := d100
                  have htn := (HR4.out.turn HST3.out hbw).1
                  obtain ⟨_, a2⟩ := rows_cell htn HR4.out.len htN
                  have q2 := htn.free HR4.out.len t
                  rw [show (st3 t ++ [(⟨tx ++ la, ws⟩ : DReading)]).length = (st3 t).length + 1 from by simp] at s100
                  rw [s100] at hoA hlA
                  have hp := HR4.out.put htN HST3.out hbw hoA hlA
                  have hty := own_typed (HR4.out.row t _ HST3.out).1 hbw
                  have hf4 := hid (show FinP g N U pe #[.int .i64 f, .int .i64 t, .string la, .int .i64 co] f ⟨some ⟨b2, o2, none⟩, L.length, sc⟩ (setR st3 t (st3 t ++ [⟨tx ++ la, ws⟩])) _ from ⟨_, hp.1, by rw [List.getElem?_set_ne (by omega)]; exact HSF3.out, ((HB4.out.grown hbw (Nat.le_of_lt hg4) (fun kk hh => by have := (World.ownsRow.lt (HR4.out.row t _ HST3.out).1 kk hh).1; omega)).grown hp.2 (Nat.le_of_lt (Nat.lt_of_lt_of_le hg4 hbw.size)) (by intro kk hh; cases hh; exact Nat.le_refl _)), boxOther2 (HBE4.out.typed hty rfl) hgpe.symm⟩)
                  clear hp htn hoA hlA hty
                  go_simp
                  refine hG _ _ hf4.out trivial ?_
                  intro j u hj hne h
                  match j, h with
                  | 0, h => exact h
                  | 1, h => exact h
                  | 2, h => exact h
                  | 3, h => exact h
                  | 4, h => exact h
                  | 5, h => exact h
                  | 6, h => exact h
                  | 7, h => exact h
                  | 8, h => exact h
                  | 9, h => exact h
                  | 10, h => exact h
                  | 11, h => exact h
                  | 12, h => exact h
                  | 13, h => exact h
                  | 14, h => exact h
                  | 15, h => exact trivial
                  | 16, h => exact trivial
                  | 17, h => exact h
                  | 18, h => exact trivial
                  | (k + 19), h => exact h
                intro xx wF hF hx
                clear hx
                simp only [putAll, Act.put, List.setIfInBounds_toArray, List.set_cons_succ, List.set_cons_zero, Nat.zero_add, Nat.reduceAdd]
                obtain ⟨vs4, hF1, hF2, hF3, hF4⟩ := hF
                go_wp2
                go_roundw
                case rel => exact ⟨q + 1, _, vs4, by omega, by go_num, hF1, hF2, hF3, hF4, HNEW⟩
                case measure => simp [intOf]; omega
              · have hql2 : q = L.length := by omega
                have hqd : ¬ ((q : Int) < (L.length : Int)) := by omega
                have HN : Hid (PartOk (wholeR) (begLx y) x st f (j + 1) B0 1000 st3) := hid (by
                  rw [HS3.out, hql2, HL.out]
                  have h1 := layQ_all (begLx y) st2 (⟨f, t, la, co⟩ : DEdge)
                  rw [show (st2 f).length = (st2 (fr (⟨f, t, la, co⟩ : DEdge))).length from rfl, h1]
                  exact HP.out.next HE.out rfl (by show f < t; exact hft) hlb (Nat.le_refl _))
                clear hql2
                go_wp2_with fail
                go_roundw
                case rel => exact ⟨j + 1, st3, vs3, by omega, by go_num, hr, hb, HN⟩
                case measure => simp [intOf]; omega
          · have hfd : ((f : Int) == (k : Int)) = false := by simp; omega
            have hfki : ¬ ((f : Int) = (k : Int)) := by omega
            have HN : Hid (PartOk (wholeR) (begLx y) x st k (j + 1) B0 1000 st2) := hid (HP.out.skip HE.out (by simpa [fr] using hfk))
            have z0 := bE.cell (j := 0) rfl
            go_wp2_with fail
            rw [← HWE.out]
            go_roundw
            case rel => exact ⟨j + 1, st2, vs2, by omega, by go_num, hrE, hbE, HN⟩
            case measure => simp [intOf]; omega
        · have hjx : j = x.length := by omega
          have hjd : ¬ ((j : Int) < (x.length : Int)) := by omega
          have HN : Hid (st2 = rawR (wholeR) (begLx y) (beg0 y) x (k + 1)) := hid (by
            have := HP.out
            rw [hjx] at this
            exact part_end this HST.out)
          clear hjx
          go_wp2_with fail
          go_roundw
          case rel => exact ⟨k + 1, st2, vs2, by omega, by go_num, hr, hb, HN⟩
          case measure => simp [intOf]; omega
    · have hkN : k = V + 1 := by omega
      have hkd : ¬ ((k : Int) ≤ (V : Int)) := by omega
      obtain ⟨⟨sa, sn, sc⟩, hsv, hsn, a0, _⟩ := hr.toR.get (v := V) hVN
      have hrow : Own eReading 27 (g + 1) w0 (.slice sa sn sc) (st V) := (hr.row V _ hsv).1
      simp only at hsn a0
      subst hsn
      have HFIN : Hid (st V = statesR 1000 (begLx y) (beg0 y) x V) := hid (by rw [HST.out, hkN]; exact HWAY.out.at_ (V + 1) (by omega) V (by omega))
      clear hkN
      go_wp2
      go_ret2
      refine finish _ _ _ _ HZ (by rw [← HFIN.out]; exact hrow.mono (by omega)) ?_
      rw [Hg.out] at hb
      exact hbU.trans (hb.mono hbU.size)
end Go.Proofs.Ytnhmailnnggmjaa
