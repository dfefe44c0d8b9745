/- The word that a beam finds: the two calls. -/
import Derived.Test.YtnhmailnnggmjabGreatRdWord2
namespace Go.Proofs.YtnhmailnnggmjabGreat
open Go.RowKit Go.Sort
attribute [local go_sem ↓] Go.wp_at_zero Go.wp_at_succ

set_option maxHeartbeats 4000000 in
set_option maxRecDepth 100000 in
theorem implBeamWord_any (v1 : Value) (x : XLattice) (v2 : Value) (y : XLexicon) (k : Int) (w : World) {lo1 hi1 lo2 hi2 : Nat} (h1 : rLattice.at_ lo1 hi1 w v1 x) (h2 : rLexicon.at_ lo2 hi2 w v2 y) (ok1 : okLattice x) (ok2 : okLexicon y) (g1 : goodLattice x) (g2 : goodLexicon y) :
    Calls Tryz.prog 21 #[v1, v2, .int .i64 k] w (Ret (.tuple #[.agg #[.string (bwW x y k).word, .int .i64 (bwW x y k).path, .int .i64 (bwW x y k).own_], .int .i64 (bwC x y k)]) w) := by
  obtain ⟨u1, rfl, h1⟩ := h1
  obtain ⟨u2, rfl, h2⟩ := h2
  replace h1 := ArrIn.arr h1
  replace h2 := ArrIn.arr h2
  obtain ⟨n, x⟩ := x
  obtain ⟨a1, k1, hu⟩ := h1.isSlice
  subst hu
  obtain ⟨a2, k2, hu⟩ := h2.isSlice
  subst hu
  simp only at h1
  obtain ⟨W, hW⟩ : ∃ u, u = (((w.alloc (.cells #[.int .i64 n, .slice a1 x.length k1] 34)).alloc (.cells #[.slice a2 y.length k2] 38)).alloc (.cells #[.string ⟨#[]⟩, .int .i64 0, .int .i64 0] 53)) := ⟨_, rfl⟩
  have hbW : Below w.heap.size w W := by rw [hW]; exact belowA3 _ _ _ _
  have q1 : Box W (w.heap.size) #[.int .i64 n, .slice a1 x.length k1] 34 := by
    have hq := Box.new w #[.int .i64 n, .slice a1 x.length k1] 34
    rw [hW]
    exact ((hq.alloc _).alloc _)
  have q2 : Box W (w.heap.size + 1) #[.slice a2 y.length k2] 38 := by
    have hq := Box.new (w.alloc (.cells #[.int .i64 n, .slice a1 x.length k1] 34)) #[.slice a2 y.length k2] 38
    simp at hq
    rw [hW]
    exact (hq.alloc _)
  have q3 : Box W (w.heap.size + 1 + 1) #[.string ⟨#[]⟩, .int .i64 0, .int .i64 0] 53 := by
    have hq := Box.new ((w.alloc (.cells #[.int .i64 n, .slice a1 x.length k1] 34)).alloc (.cells #[.slice a2 y.length k2] 38)) #[.string ⟨#[]⟩, .int .i64 0, .int .i64 0] 53
    simp at hq
    rw [hW]
    exact hq
  obtain ⟨p1, hp1⟩ : ∃ p, p = w.heap.size := ⟨_, rfl⟩
  rw [← hp1] at q1
  have hge1 : w.heap.size ≤ p1 := by omega
  obtain ⟨p2, hp2⟩ : ∃ p, p = w.heap.size + 1 := ⟨_, rfl⟩
  rw [← hp2] at q2
  have hge2 : w.heap.size ≤ p2 := by omega
  obtain ⟨p3, hp3⟩ : ∃ p, p = w.heap.size + 1 + 1 := ⟨_, rfl⟩
  rw [← hp3] at q3
  have hge3 : w.heap.size ≤ p3 := by omega
  have hlW : w.heap.size ≤ W.heap.size := hbW.size
  have hlp1 : p1 < W.heap.size := q1.lt
  have hlp2 : p2 < W.heap.size := q2.lt
  have hlp3 : p3 < W.heap.size := q3.lt
  have hne12 : p1 ≠ p2 := by omega
  have hne13 : p1 ≠ p3 := by omega
  have hne23 : p2 ≠ p3 := by omega
  have HP1 := hid hp1
  have HP2 := hid hp2
  have HP3 := hid hp3
  have HW := hid hW
  clear hW hp1 hp2 hp3
  have hA := h1.below hbW
  have hB := h2.below hbW
  have m10 := q1.cell (j := 0) rfl
  have m11 := q1.cell (j := 1) rfl
  have m20 := q2.cell (j := 0) rfl
  have finish : ∀ (w' : World) (f : DFound) (c : Int), Hid (bwW (n, x) y k = f ∧ bwC (n, x) y k = c) → Below w.heap.size w w' → Ret (.tuple #[.agg #[.string (bwW (n, x) y k).word, .int .i64 (bwW (n, x) y k).path, .int .i64 (bwW (n, x) y k).own_], .int .i64 (bwC (n, x) y k)]) w (.returned (.tuple #[.agg #[.string f.word, .int .i64 f.path, .int .i64 f.own_], .int .i64 c])) w' := by
    intro w' f c hz hb
    rw [hz.out.1, hz.out.2]
    exact ⟨rfl, hb⟩
  have CB := beamable_any (.agg #[.int .i64 n, .slice a1 x.length k1]) (n, x) (.agg #[.slice a2 y.length k2]) y k W (show rLattice.at_ 0 W.heap.size W _ (n, x) from ⟨_, rfl, hA.in_⟩) (show rLexicon.at_ 0 W.heap.size W _ y from ⟨_, rfl, hB.in_⟩) ok1 ok2 g1 g2
  rcases Decidable.em (¬ codeB (n, x) y k = 0) with hcb | hcb
  · have HZ : Hid (bwW (n, x) y k = fz ∧ bwC (n, x) y k = codeB (n, x) y k) := by show _ ∧ _; simp [bwW, bwC, hcb]
    obtain ⟨cb, hcbd⟩ : ∃ cb, cb = codeB (n, x) y k := ⟨_, rfl⟩
    rw [← hcbd] at CB HZ hcb
    have hcd : (cb == 0) = false := by simpa using hcb
    clear hcbd
    go_enter Tryz.func21, Tryz.ntmps21
    go_wp2_with fail
    rw [← HP3.out, ← HP2.out, ← HP1.out, ← HW.out]
    refine CB.mono ?_
    rintro e w3 ⟨rfl, hb⟩
    have b0 := (q3.later hb).cell (j := 0) rfl
    have b1 := (q3.later hb).cell (j := 1) rfl
    have b2 := (q3.later hb).cell (j := 2) rfl
    have bf := (q3.later hb).free
    clear m10 m11 m20
    go_wp2_with fail
    refine bodyPost_ret (v := .tuple #[.agg #[.string ⟨#[]⟩, .int .i64 0, .int .i64 0], .int .i64 cb]) (by simp [results, Tryz.results21, go_sem, b0, b1, b2]) rfl (finish _ fz _ HZ ?_)
    exact (((hbW.trans (hb.mono hlW)).setCell hge3 _).setCell hge3 _).setCell hge3 _
  · replace hcb := Decidable.not_not.1 hcb
    rw [hcb] at CB
    obtain ⟨hv, hvy, kk1, kk2⟩ := codeB_0 hcb
    obtain ⟨b1, b2, b3⟩ := valid_bd hv
    obtain ⟨N, rfl⟩ : ∃ N : Nat, n = N := ⟨n.toNat, by omega⟩
    obtain ⟨m, rfl⟩ : ∃ m : Nat, k = m := ⟨k.toNat, by omega⟩
    obtain ⟨o, ho⟩ : ∃ o, bwO ((N : Int), x) y m = o := ⟨_, rfl⟩
    have CM := fun w' (hb : Below W.heap.size W w') => beamWord_any (.agg #[.int .i64 N, .slice a1 x.length k1]) (.agg #[.slice a2 y.length k2]) N m x y w' (show rLattice.at_ 0 w'.heap.size w' _ ((N : Int), x) from ⟨_, rfl, (hA.below hb).in_⟩) (show rLexicon.at_ 0 w'.heap.size w' _ y from ⟨_, rfl, (hB.below hb).in_⟩) ok2 g2 hv (sorted_of_valid hvy) (by omega) (by omega) o ho
    have HZ : Hid (bwW ((N : Int), x) y (m : Int) = o.getD fz ∧ bwC ((N : Int), x) y (m : Int) = if o.isSome then 0 else 3) := by show _ ∧ _; simp [bwW, bwC, hcb, ho]
    clear hcb ho
    cases o with
    | none =>
      simp only [Option.getD_none, Option.isSome_none, Bool.false_eq_true, if_false] at HZ CM
      go_enter Tryz.func21, Tryz.ntmps21
      go_wp2_with fail
      rw [← HP3.out, ← HP2.out, ← HP1.out, ← HW.out]
      refine CB.mono ?_
      rintro e w3 ⟨rfl, hb⟩
      have s10 := cell_later hb m10
      have s11 := cell_later hb m11
      have s20 := cell_later hb m20
      go_wp2_with fail
      refine (CM w3 hb).mono ?_
      rintro e w4 ⟨rfl, hb4⟩
      have hb5 := hb.trans (hb4.mono hb.size)
      have b0 := (q3.later hb5).cell (j := 0) rfl
      have b1 := (q3.later hb5).cell (j := 1) rfl
      have b2 := (q3.later hb5).cell (j := 2) rfl
      have bf := (q3.later hb5).free
      have e0 := cell_alloc b0 (.cells #[.string fz.word, .int .i64 fz.path, .int .i64 fz.own_] 53)
      have e1 := cell_alloc b1 (.cells #[.string fz.word, .int .i64 fz.path, .int .i64 fz.own_] 53)
      have e2 := cell_alloc b2 (.cells #[.string fz.word, .int .i64 fz.path, .int .i64 fz.own_] 53)
      have ef := ((q3.later hb5).alloc (.cells #[.string fz.word, .int .i64 fz.path, .int .i64 fz.own_] 53)).free
      clear m10 m11 m20
      unfold vF
      go_wp2_with fail
      refine bodyPost_ret (v := .tuple #[.agg #[.string ⟨#[]⟩, .int .i64 0, .int .i64 0], .int .i64 3]) (by simp [results, Tryz.results21, go_sem, e0, e1, e2]) rfl (finish _ fz _ HZ ?_)
      exact ((((hbW.trans (hb5.mono hlW)).alloc (Nat.le_trans hlW hb5.size) _).setCell hge3 _).setCell hge3 _).setCell hge3 _
    | some f =>
      simp only [Option.getD_some, Option.isSome_some, if_true] at HZ CM
      go_enter Tryz.func21, Tryz.ntmps21
      go_wp2_with fail
      rw [← HP3.out, ← HP2.out, ← HP1.out, ← HW.out]
      refine CB.mono ?_
      rintro e w3 ⟨rfl, hb⟩
      have s10 := cell_later hb m10
      have s11 := cell_later hb m11
      have s20 := cell_later hb m20
      go_wp2_with fail
      refine (CM w3 hb).mono ?_
      rintro e w4 ⟨rfl, hb4⟩
      have hb5 := hb.trans (hb4.mono hb.size)
      have b0 := (q3.later hb5).cell (j := 0) rfl
      have b1 := (q3.later hb5).cell (j := 1) rfl
      have b2 := (q3.later hb5).cell (j := 2) rfl
      have bf := (q3.later hb5).free
      have e0 := cell_alloc b0 (.cells #[.string f.word, .int .i64 f.path, .int .i64 f.own_] 53)
      have e1 := cell_alloc b1 (.cells #[.string f.word, .int .i64 f.path, .int .i64 f.own_] 53)
      have e2 := cell_alloc b2 (.cells #[.string f.word, .int .i64 f.path, .int .i64 f.own_] 53)
      have ef := ((q3.later hb5).alloc (.cells #[.string f.word, .int .i64 f.path, .int .i64 f.own_] 53)).free
      clear m10 m11 m20
      unfold vF
      go_wp2_with fail
      refine bodyPost_ret (v := .tuple #[.agg #[.string f.word, .int .i64 f.path, .int .i64 f.own_], .int .i64 0]) (by simp [results, Tryz.results21, go_sem, e0, e1, e2]) rfl (finish _ f _ HZ ?_)
      exact ((((hbW.trans (hb5.mono hlW)).alloc (Nat.le_trans hlW hb5.size) _).setCell hge3 _).setCell hge3 _).setCell hge3 _
end Go.Proofs.YtnhmailnnggmjabGreat
