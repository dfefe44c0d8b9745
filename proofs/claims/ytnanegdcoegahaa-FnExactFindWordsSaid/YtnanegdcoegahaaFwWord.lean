/- The first readable word: both calls. -/
import Derived.Test.YtnanegdcoegahaaFwAll
namespace Go.Proofs.Ytnanegdcoegahaa
open Go.RowKit Go.Sort
attribute [local go_sem ↓] Go.wp_at_zero Go.wp_at_succ

set_option maxHeartbeats 4000000 in
set_option maxRecDepth 100000 in
theorem specFindWord_any (v1 : Value) (x : XLattice) (v2 : Value) (y : XLexicon) (w : World) {lo1 hi1 lo2 hi2 : Nat} (h1 : rLattice.at_ lo1 hi1 w v1 x) (h2 : rLexicon.at_ lo2 hi2 w v2 y) (ok1 : okLattice x) (ok2 : okLexicon y) (g1 : goodLattice x) (g2 : goodLexicon y) :
    Calls Try.prog 11 #[v1, v2] w (Ret (.tuple #[.agg #[.string (findW x y).word, .int .i64 (findW x y).path, .int .i64 (findW x y).own_], .int .i64 (findC x y)]) w) := by
  obtain ⟨u1, rfl, h1⟩ := h1
  obtain ⟨u2, rfl, h2⟩ := h2
  replace h1 := ArrIn.arr h1
  replace h2 := ArrIn.arr h2
  obtain ⟨n, x⟩ := x
  obtain ⟨a1, k1, hu⟩ := h1.isSlice
  subst hu
  obtain ⟨a2, k2, hu⟩ := h2.isSlice
  subst hu
  simp only at h1
  obtain ⟨W, hW⟩ : ∃ W, W = ((w.alloc (.cells #[.int .i64 n, .slice a1 x.length k1] 36)).alloc (.cells #[.slice a2 y.length k2] 40)).alloc (.cells #[.string ⟨#[]⟩, .int .i64 0, .int .i64 0] 31) := ⟨_, rfl⟩
  have hbW : Below w.heap.size w W := by rw [hW]; exact belowA3 _ _ _ _
  have q1 : Box W w.heap.size #[.int .i64 n, .slice a1 x.length k1] 36 := by rw [hW]; exact ((Box.new w _ _).later (below_alloc _ _)).later (below_alloc _ _)
  have q2 : Box W (w.heap.size + 1) #[.slice a2 y.length k2] 40 := by
    rw [hW]
    have := Box.new (w.alloc (.cells #[.int .i64 n, .slice a1 x.length k1] 36)) #[.slice a2 y.length k2] 40
    simp at this
    exact this.later (below_alloc _ _)
  have q3 : Box W (w.heap.size + 2) #[.string ⟨#[]⟩, .int .i64 0, .int .i64 0] 31 := by
    rw [hW]
    have := Box.new ((w.alloc (.cells #[.int .i64 n, .slice a1 x.length k1] 36)).alloc (.cells #[.slice a2 y.length k2] 40)) #[.string ⟨#[]⟩, .int .i64 0, .int .i64 0] 31
    simp at this
    exact this
  have hA := h1.below hbW
  have hB := h2.below hbW
  obtain ⟨p1, hp1⟩ : ∃ p, p = w.heap.size := ⟨_, rfl⟩
  obtain ⟨p2, hp2⟩ : ∃ p, p = w.heap.size + 1 := ⟨_, rfl⟩
  obtain ⟨p3, hp3⟩ : ∃ p, p = w.heap.size + 1 + 1 := ⟨_, rfl⟩
  rw [← hp1] at q1
  rw [← hp2] at q2
  rw [← hp3] at q3
  have hge3 : w.heap.size ≤ p3 := by omega
  have hlt : w.heap.size ≤ W.heap.size := hbW.size
  have HP1 := hid hp1
  have HP2 := hid hp2
  have HP3 := hid hp3
  have HW := hid hW
  clear hp1 hp2 hp3 hW h1 h2
  have m10 := q1.cell (j := 0) rfl
  have m11 := q1.cell (j := 1) rfl
  have m20 := q2.cell (j := 0) rfl
  have finish : ∀ (w' : World) (f : DFound) (c : Int), Hid (findW (n, x) y = f ∧ findC (n, x) y = c) → Below w.heap.size w w' → Ret (.tuple #[.agg #[.string (findW (n, x) y).word, .int .i64 (findW (n, x) y).path, .int .i64 (findW (n, x) y).own_], .int .i64 (findC (n, x) y)]) w (.returned (.tuple #[.agg #[.string f.word, .int .i64 f.path, .int .i64 f.own_], .int .i64 c])) w' := by
    intro w' f c hz hb
    rw [hz.out.1, hz.out.2]
    exact ⟨rfl, hb⟩
  have CL := fun w' (hb : Below W.heap.size W w') => l15Ok_any p1 n _ x w' (cell_later hb m10) (cell_later hb m11) (hA.below hb) ok1 g1
  have CX := fun w' (hb : Below W.heap.size W w') => l16Ok_any p2 _ y w' (cell_later hb m20) (hB.below hb) ok2 g2
  cases hv : validLt (n, x)
  · have HZ : Hid (findW (n, x) y = fz ∧ findC (n, x) y = 1) := by show _ ∧ _; simp [findW, findC, hv]
    rw [hv] at CL
    go_enter Try.func11, Try.ntmps11
    go_wp2_with fail
    rw [← HP3.out, ← HP2.out, ← HP1.out, ← HW.out]
    refine (CL W (Below.refl _ _)).mono ?_
    rintro e w3 ⟨rfl, hb⟩
    have b0 := (q3.later hb).cell (j := 0) rfl
    have b1 := (q3.later hb).cell (j := 1) rfl
    have b2 := (q3.later hb).cell (j := 2) rfl
    have bf := (q3.later hb).free
    clear m10 m11 m20
    go_wp2_with fail
    refine bodyPost_ret (v := .tuple #[.agg #[.string ⟨#[]⟩, .int .i64 0, .int .i64 0], .int .i64 1]) (by simp [results, Try.results11, go_sem, b0, b1, b2]) rfl (finish _ fz _ HZ ?_)
    exact (((hbW.trans (hb.mono hlt)).setCell hge3 _).setCell hge3 _).setCell hge3 _
  rw [hv] at CL
  cases hvy : validLx y
  · have HZ : Hid (findW (n, x) y = fz ∧ findC (n, x) y = 1) := by show _ ∧ _; simp [findW, findC, hv, hvy]
    rw [hvy] at CX
    go_enter Try.func11, Try.ntmps11
    go_wp2_with fail
    rw [← HP3.out, ← HP2.out, ← HP1.out, ← HW.out]
    refine (CL W (Below.refl _ _)).mono ?_
    rintro e w3 ⟨rfl, hb⟩
    go_wp2_with fail
    refine (CX w3 hb).mono ?_
    rintro e w4 ⟨rfl, hb4⟩
    have hb5 := hb.trans (hb4.mono hb.size)
    have b0 := (q3.later hb5).cell (j := 0) rfl
    have b1 := (q3.later hb5).cell (j := 1) rfl
    have b2 := (q3.later hb5).cell (j := 2) rfl
    have bf := (q3.later hb5).free
    clear m10 m11 m20
    go_wp2_with fail
    refine bodyPost_ret (v := .tuple #[.agg #[.string ⟨#[]⟩, .int .i64 0, .int .i64 0], .int .i64 1]) (by simp [results, Try.results11, go_sem, b0, b1, b2]) rfl (finish _ fz _ HZ ?_)
    exact (((hbW.trans (hb5.mono hlt)).setCell hge3 _).setCell hge3 _).setCell hge3 _
  rw [hvy] at CX
  obtain ⟨n1, n2, x2⟩ := valid_bd hv
  obtain ⟨m, rfl⟩ : ∃ m : Nat, n = m := ⟨n.toNat, by omega⟩
  have CA := fun w' (hb : Below W.heap.size W w') => l16All_any p1 p2 m _ x _ y w' (cell_later hb m10) (cell_later hb m11) (hA.below hb) hv (cell_later hb m20) (hB.below hb) hvy
  rcases hF : findAll ((m : Int), x) y with _ | ⟨f, t⟩
  · have HZ : Hid (findW ((m : Int), x) y = fz ∧ findC ((m : Int), x) y = 3) := by show _ ∧ _; simp [findW, findC, hv, hvy, hF]
    rw [hF] at CA
    go_enter Try.func11, Try.ntmps11
    go_wp2_with fail
    rw [← HP3.out, ← HP2.out, ← HP1.out, ← HW.out]
    refine (CL W (Below.refl _ _)).mono ?_
    rintro e w3 ⟨rfl, hb⟩
    go_wp2_with fail
    refine (CX w3 hb).mono ?_
    rintro e w4 ⟨rfl, hb4⟩
    have hb5 := hb.trans (hb4.mono hb.size)
    go_wp2_with fail
    refine (CA w4 hb5).mono ?_
    rintro e w5 ⟨u, rfl, ho, hb6⟩
    have hb7 := hb5.trans (hb6.mono hb5.size)
    obtain ⟨sa, sc, hu⟩ := ho.isSlice
    subst hu
    have b0 := (q3.later hb7).cell (j := 0) rfl
    have b1 := (q3.later hb7).cell (j := 1) rfl
    have b2 := (q3.later hb7).cell (j := 2) rfl
    have bf := (q3.later hb7).free
    clear m10 m11 m20
    go_wp2_with fail
    refine bodyPost_ret (v := .tuple #[.agg #[.string ⟨#[]⟩, .int .i64 0, .int .i64 0], .int .i64 3]) (by simp [results, Try.results11, go_sem, b0, b1, b2]) rfl (finish _ fz _ HZ ?_)
    exact (((hbW.trans (hb7.mono hlt)).setCell hge3 _).setCell hge3 _).setCell hge3 _
  · have HZ : Hid (findW ((m : Int), x) y = f ∧ findC ((m : Int), x) y = 0) := by show _ ∧ _; simp [findW, findC, hv, hvy, hF]
    have hll := findAll_len ((m : Int), x) y
    have hly := valid_len hvy
    rw [hF] at CA hll
    simp only [List.length_cons] at hll
    go_enter Try.func11, Try.ntmps11
    go_wp2_with fail
    rw [← HP3.out, ← HP2.out, ← HP1.out, ← HW.out]
    refine (CL W (Below.refl _ _)).mono ?_
    rintro e w3 ⟨rfl, hb⟩
    go_wp2_with fail
    refine (CX w3 hb).mono ?_
    rintro e w4 ⟨rfl, hb4⟩
    have hb5 := hb.trans (hb4.mono hb.size)
    go_wp2_with fail
    refine (CA w4 hb5).mono ?_
    rintro e w5 ⟨u, rfl, ho, hb6⟩
    have hb7 := hb5.trans (hb6.mono hb5.size)
    obtain ⟨g, cap, rfl, hBg, hg⟩ := ho.shape.resolve_left (fun h => by have := h.2; cases this)
    obtain ⟨c0, c1, c2⟩ := eFound_cells (own_cells ho rfl).1 (k := 0) (x := f) rfl
    simp only [Nat.zero_mul, Nat.zero_add] at c0 c1 c2
    have b0 := (q3.later hb7).cell (j := 0) rfl
    have b1 := (q3.later hb7).cell (j := 1) rfl
    have b2 := (q3.later hb7).cell (j := 2) rfl
    have bf := (q3.later hb7).free
    have hl0 : (((f :: t).length : Int) == 0) = false := by rw [beq_eq_false_iff_ne]; simp only [List.length_cons]; omega
    have hl1 : (0 : Int) < ((f :: t).length : Int) := by simp only [List.length_cons]; omega
    have hl2 : 0 < (f :: t).length := by simp
    generalize (f :: t).length = ln at hl0 hl1 hl2 ⊢
    clear m10 m11 m20
    go_wp2_with fail
    refine bodyPost_ret (v := .tuple #[.agg #[.string f.word, .int .i64 f.path, .int .i64 f.own_], .int .i64 0]) (by simp [results, Try.results11, go_sem, b0, b1, b2]) rfl (finish _ f _ HZ ?_)
    exact (((hbW.trans (hb7.mono hlt)).setCell hge3 _).setCell hge3 _).setCell hge3 _
set_option maxHeartbeats 4000000 in
set_option maxRecDepth 100000 in
theorem implFindWord_any (v1 : Value) (x : XLattice) (v2 : Value) (y : XLexicon) (w : World) {lo1 hi1 lo2 hi2 : Nat} (h1 : rLattice.at_ lo1 hi1 w v1 x) (h2 : rLexicon.at_ lo2 hi2 w v2 y) (ok1 : okLattice x) (ok2 : okLexicon y) (g1 : goodLattice x) (g2 : goodLexicon y) :
    Calls Try.prog 14 #[v1, v2] w (Ret (.tuple #[.agg #[.string (findW x y).word, .int .i64 (findW x y).path, .int .i64 (findW x y).own_], .int .i64 (findC x y)]) w) := by
  obtain ⟨u1, rfl, h1⟩ := h1
  obtain ⟨u2, rfl, h2⟩ := h2
  replace h1 := ArrIn.arr h1
  replace h2 := ArrIn.arr h2
  obtain ⟨n, x⟩ := x
  obtain ⟨a1, k1, hu⟩ := h1.isSlice
  subst hu
  obtain ⟨a2, k2, hu⟩ := h2.isSlice
  subst hu
  simp only at h1
  obtain ⟨W, hW⟩ : ∃ W, W = ((w.alloc (.cells #[.int .i64 n, .slice a1 x.length k1] 36)).alloc (.cells #[.slice a2 y.length k2] 40)).alloc (.cells #[.string ⟨#[]⟩, .int .i64 0, .int .i64 0] 31) := ⟨_, rfl⟩
  have hbW : Below w.heap.size w W := by rw [hW]; exact belowA3 _ _ _ _
  have q1 : Box W w.heap.size #[.int .i64 n, .slice a1 x.length k1] 36 := by rw [hW]; exact ((Box.new w _ _).later (below_alloc _ _)).later (below_alloc _ _)
  have q2 : Box W (w.heap.size + 1) #[.slice a2 y.length k2] 40 := by
    rw [hW]
    have := Box.new (w.alloc (.cells #[.int .i64 n, .slice a1 x.length k1] 36)) #[.slice a2 y.length k2] 40
    simp at this
    exact this.later (below_alloc _ _)
  have q3 : Box W (w.heap.size + 2) #[.string ⟨#[]⟩, .int .i64 0, .int .i64 0] 31 := by
    rw [hW]
    have := Box.new ((w.alloc (.cells #[.int .i64 n, .slice a1 x.length k1] 36)).alloc (.cells #[.slice a2 y.length k2] 40)) #[.string ⟨#[]⟩, .int .i64 0, .int .i64 0] 31
    simp at this
    exact this
  have hA := h1.below hbW
  have hB := h2.below hbW
  obtain ⟨p1, hp1⟩ : ∃ p, p = w.heap.size := ⟨_, rfl⟩
  obtain ⟨p2, hp2⟩ : ∃ p, p = w.heap.size + 1 := ⟨_, rfl⟩
  obtain ⟨p3, hp3⟩ : ∃ p, p = w.heap.size + 1 + 1 := ⟨_, rfl⟩
  rw [← hp1] at q1
  rw [← hp2] at q2
  rw [← hp3] at q3
  have hge3 : w.heap.size ≤ p3 := by omega
  have hlt : w.heap.size ≤ W.heap.size := hbW.size
  have HP1 := hid hp1
  have HP2 := hid hp2
  have HP3 := hid hp3
  have HW := hid hW
  clear hp1 hp2 hp3 hW h1 h2
  have m10 := q1.cell (j := 0) rfl
  have m11 := q1.cell (j := 1) rfl
  have m20 := q2.cell (j := 0) rfl
  have finish : ∀ (w' : World) (f : DFound) (c : Int), Hid (findW (n, x) y = f ∧ findC (n, x) y = c) → Below w.heap.size w w' → Ret (.tuple #[.agg #[.string (findW (n, x) y).word, .int .i64 (findW (n, x) y).path, .int .i64 (findW (n, x) y).own_], .int .i64 (findC (n, x) y)]) w (.returned (.tuple #[.agg #[.string f.word, .int .i64 f.path, .int .i64 f.own_], .int .i64 c])) w' := by
    intro w' f c hz hb
    rw [hz.out.1, hz.out.2]
    exact ⟨rfl, hb⟩
  have CL := fun w' (hb : Below W.heap.size W w') => implValidLattice_any _ (n, x) w' (show rLattice.at_ 0 w'.heap.size w' (.agg #[.int .i64 n, .slice a1 x.length k1]) (n, x) from ⟨_, rfl, (hA.below hb).in_⟩) ok1 g1
  have CX := fun w' (hb : Below W.heap.size W w') => implValidLexicon_any _ y w' (show rLexicon.at_ 0 w'.heap.size w' (.agg #[.slice a2 y.length k2]) y from ⟨_, rfl, (hB.below hb).in_⟩) ok2 g2
  cases hv : validLt (n, x)
  · have HZ : Hid (findW (n, x) y = fz ∧ findC (n, x) y = 1) := by show _ ∧ _; simp [findW, findC, hv]
    rw [hv] at CL
    go_enter Try.func14, Try.ntmps14
    go_wp2_with fail
    rw [← HP3.out, ← HP2.out, ← HP1.out, ← HW.out]
    refine (CL W (Below.refl _ _)).mono ?_
    rintro e w3 ⟨rfl, hb⟩
    have b0 := (q3.later hb).cell (j := 0) rfl
    have b1 := (q3.later hb).cell (j := 1) rfl
    have b2 := (q3.later hb).cell (j := 2) rfl
    have bf := (q3.later hb).free
    clear m10 m11 m20
    go_wp2_with fail
    refine bodyPost_ret (v := .tuple #[.agg #[.string ⟨#[]⟩, .int .i64 0, .int .i64 0], .int .i64 1]) (by simp [results, Try.results14, go_sem, b0, b1, b2]) rfl (finish _ fz _ HZ ?_)
    exact (((hbW.trans (hb.mono hlt)).setCell hge3 _).setCell hge3 _).setCell hge3 _
  rw [hv] at CL
  cases hvy : validLx y
  · have HZ : Hid (findW (n, x) y = fz ∧ findC (n, x) y = 1) := by show _ ∧ _; simp [findW, findC, hv, hvy]
    rw [hvy] at CX
    go_enter Try.func14, Try.ntmps14
    go_wp2_with fail
    rw [← HP3.out, ← HP2.out, ← HP1.out, ← HW.out]
    refine (CL W (Below.refl _ _)).mono ?_
    rintro e w3 ⟨rfl, hb⟩
    have s20 := cell_later hb m20
    go_wp2_with fail
    refine (CX w3 hb).mono ?_
    rintro e w4 ⟨rfl, hb4⟩
    have hb5 := hb.trans (hb4.mono hb.size)
    have b0 := (q3.later hb5).cell (j := 0) rfl
    have b1 := (q3.later hb5).cell (j := 1) rfl
    have b2 := (q3.later hb5).cell (j := 2) rfl
    have bf := (q3.later hb5).free
    clear m10 m11 m20
    go_wp2_with fail
    refine bodyPost_ret (v := .tuple #[.agg #[.string ⟨#[]⟩, .int .i64 0, .int .i64 0], .int .i64 1]) (by simp [results, Try.results14, go_sem, b0, b1, b2]) rfl (finish _ fz _ HZ ?_)
    exact (((hbW.trans (hb5.mono hlt)).setCell hge3 _).setCell hge3 _).setCell hge3 _
  rw [hvy] at CX
  obtain ⟨n1, n2, x2⟩ := valid_bd hv
  obtain ⟨m, rfl⟩ : ∃ m : Nat, n = m := ⟨n.toNat, by omega⟩
  have CA := fun w' (hb : Below W.heap.size W w') => readable_any m _ x _ y w' (hA.below hb) hv (hB.below hb) hvy
  rcases hF : findAll ((m : Int), x) y with _ | ⟨f, t⟩
  · have HZ : Hid (findW ((m : Int), x) y = fz ∧ findC ((m : Int), x) y = 3) := by show _ ∧ _; simp [findW, findC, hv, hvy, hF]
    rw [hF] at CA
    go_enter Try.func14, Try.ntmps14
    go_wp2_with fail
    rw [← HP3.out, ← HP2.out, ← HP1.out, ← HW.out]
    refine (CL W (Below.refl _ _)).mono ?_
    rintro e w3 ⟨rfl, hb⟩
    have s20 := cell_later hb m20
    go_wp2_with fail
    refine (CX w3 hb).mono ?_
    rintro e w4 ⟨rfl, hb4⟩
    have hb5 := hb.trans (hb4.mono hb.size)
    have s10 := cell_later hb5 m10
    have s11 := cell_later hb5 m11
    have s21 := cell_later hb5 m20
    go_wp2_with fail
    refine (CA w4 hb5).mono ?_
    rintro e w5 ⟨u, rfl, ho, hb6⟩
    have hb7 := hb5.trans (hb6.mono hb5.size)
    obtain ⟨sa, sc, hu⟩ := ho.isSlice
    subst hu
    have b0 := (q3.later hb7).cell (j := 0) rfl
    have b1 := (q3.later hb7).cell (j := 1) rfl
    have b2 := (q3.later hb7).cell (j := 2) rfl
    have bf := (q3.later hb7).free
    clear m10 m11 m20
    go_wp2_with fail
    refine bodyPost_ret (v := .tuple #[.agg #[.string ⟨#[]⟩, .int .i64 0, .int .i64 0], .int .i64 3]) (by simp [results, Try.results14, go_sem, b0, b1, b2]) rfl (finish _ fz _ HZ ?_)
    exact (((hbW.trans (hb7.mono hlt)).setCell hge3 _).setCell hge3 _).setCell hge3 _
  · have HZ : Hid (findW ((m : Int), x) y = f ∧ findC ((m : Int), x) y = 0) := by show _ ∧ _; simp [findW, findC, hv, hvy, hF]
    have hll := findAll_len ((m : Int), x) y
    have hly := valid_len hvy
    rw [hF] at CA hll
    simp only [List.length_cons] at hll
    go_enter Try.func14, Try.ntmps14
    go_wp2_with fail
    rw [← HP3.out, ← HP2.out, ← HP1.out, ← HW.out]
    refine (CL W (Below.refl _ _)).mono ?_
    rintro e w3 ⟨rfl, hb⟩
    have s20 := cell_later hb m20
    go_wp2_with fail
    refine (CX w3 hb).mono ?_
    rintro e w4 ⟨rfl, hb4⟩
    have hb5 := hb.trans (hb4.mono hb.size)
    have s10 := cell_later hb5 m10
    have s11 := cell_later hb5 m11
    have s21 := cell_later hb5 m20
    go_wp2_with fail
    refine (CA w4 hb5).mono ?_
    rintro e w5 ⟨u, rfl, ho, hb6⟩
    have hb7 := hb5.trans (hb6.mono hb5.size)
    obtain ⟨g, cap, rfl, hBg, hg⟩ := ho.shape.resolve_left (fun h => by have := h.2; cases this)
    obtain ⟨c0, c1, c2⟩ := eFound_cells (own_cells ho rfl).1 (k := 0) (x := f) rfl
    simp only [Nat.zero_mul, Nat.zero_add] at c0 c1 c2
    have b0 := (q3.later hb7).cell (j := 0) rfl
    have b1 := (q3.later hb7).cell (j := 1) rfl
    have b2 := (q3.later hb7).cell (j := 2) rfl
    have bf := (q3.later hb7).free
    have hl0 : (((f :: t).length : Int) == 0) = false := by rw [beq_eq_false_iff_ne]; simp only [List.length_cons]; omega
    have hl1 : (0 : Int) < ((f :: t).length : Int) := by simp only [List.length_cons]; omega
    have hl2 : 0 < (f :: t).length := by simp
    generalize (f :: t).length = ln at hl0 hl1 hl2 ⊢
    clear m10 m11 m20
    go_wp2_with fail
    refine bodyPost_ret (v := .tuple #[.agg #[.string f.word, .int .i64 f.path, .int .i64 f.own_], .int .i64 0]) (by simp [results, Try.results14, go_sem, b0, b1, b2]) rfl (finish _ f _ HZ ?_)
    exact (((hbW.trans (hb7.mono hlt)).setCell hge3 _).setCell hge3 _).setCell hge3 _
end Go.Proofs.Ytnanegdcoegahaa
