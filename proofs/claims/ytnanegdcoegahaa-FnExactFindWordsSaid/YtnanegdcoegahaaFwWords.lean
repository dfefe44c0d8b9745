/- The first readable words: both calls. -/
import Derived.Test.YtnanegdcoegahaaFwWord
import Derived.Test.YtnanegdcoegahaaWrFoundS
import Derived.Test.YtnanegdcoegahaaMinMax
namespace Go.Proofs.Ytnanegdcoegahaa
open Go.RowKit Go.Sort
attribute [local go_sem ↓] Go.wp_at_zero Go.wp_at_succ

theorem okFinds {x : XLattice} {y : XLexicon} {k : Int} (_ : okLexicon y) : okFoundS (findWs x y k) := by
  unfold findWs okFoundS
  split
  · rename_i h
    have hv : validLx y = true := by
      simp only [Bool.and_eq_true] at h; exact h.1.2
    have h1 := findAll_len x y
    have h2 := valid_len hv
    rw [List.length_take]; omega
  · simp
theorem own_take {B g n cap k : Nat} {w : World} {X : List DFound} (h : Own eFound 31 B w (.slice (some ⟨g, 0, none⟩) n cap) X) (hn : n = X.length) (hk : k ≤ n) : Own eFound 31 B w (.slice (some ⟨g, 0, none⟩) k cap) (X.take k) := by
  subst hn
  obtain ⟨h1, h2⟩ := h
  rcases h2 with ⟨h0, _⟩ | ⟨g', cap', cur, hv, hg, hb, hn, hc, hs, ht⟩
  · cases h0
  cases hv
  have hl : (X.take k).length = k := by rw [List.length_take]; omega
  refine ⟨by rw [eFound.flat_len, hl], .inr ⟨g, cap, cur, by rw [hl], hg, hb, by rw [hl]; omega, hc, hs, ?_⟩⟩
  have e1 : eFound.flat X = eFound.flat (X.take k) ++ eFound.flat (X.drop k) := by rw [← eFound.flat_append, List.take_append_drop]
  have e2 : (eFound.flat (X.take k)).length = k * eFound.sz := by rw [eFound.flat_len, hl]
  have e3 : (cur.toList.take (X.length * eFound.sz)).take (k * eFound.sz) = eFound.flat (X.take k) := by rw [ht, e1, List.take_append_of_le_length (by omega), List.take_of_length_le (by omega)]
  rw [List.take_take, Nat.min_eq_left (Nat.mul_le_mul_right _ hk)] at e3
  rw [hl]; exact e3
set_option maxHeartbeats 4000000 in
set_option maxRecDepth 100000 in
theorem specFindWords_any (v1 : Value) (x : XLattice) (v2 : Value) (y : XLexicon) (k : Int) (w : World) {lo1 hi1 lo2 hi2 : Nat} (h1 : rLattice.at_ lo1 hi1 w v1 x) (h2 : rLexicon.at_ lo2 hi2 w v2 y) (ok1 : okLattice x) (ok2 : okLexicon y) (g1 : goodLattice x) (g2 : goodLexicon y) :
    Calls Try.prog 18 #[v1, v2, .int .i64 k] w (RetNew rFoundS (findWs x y k) #[.int .i64 (findWsC x y k)] w) := by
  obtain ⟨u1, rfl, h1⟩ := h1
  obtain ⟨u2, rfl, h2⟩ := h2
  replace h1 := ArrIn.arr h1
  replace h2 := ArrIn.arr h2
  obtain ⟨n, x⟩ := x
  obtain ⟨a1, k1, hu⟩ := h1.isSlice
  subst hu
  obtain ⟨a2, k2, hu⟩ := h2.isSlice
  subst hu
  simp only at h1
  obtain ⟨W, hW⟩ : ∃ W, W = (w.alloc (.cells #[.int .i64 n, .slice a1 x.length k1] 36)).alloc (.cells #[.slice a2 y.length k2] 40) := ⟨_, rfl⟩
  have hbW : Below w.heap.size w W := by rw [hW]; exact belowA2 _ _ _
  have q1 : Box W w.heap.size #[.int .i64 n, .slice a1 x.length k1] 36 := by rw [hW]; exact (Box.new w _ _).later (below_alloc _ _)
  have q2 : Box W (w.heap.size + 1) #[.slice a2 y.length k2] 40 := by
    rw [hW]
    have := Box.new (w.alloc (.cells #[.int .i64 n, .slice a1 x.length k1] 36)) #[.slice a2 y.length k2] 40
    simp at this
    exact this
  have hA := h1.below hbW
  have hB := h2.below hbW
  obtain ⟨p1, hp1⟩ : ∃ p, p = w.heap.size := ⟨_, rfl⟩
  obtain ⟨p2, hp2⟩ : ∃ p, p = w.heap.size + 1 := ⟨_, rfl⟩
  rw [← hp1] at q1
  rw [← hp2] at q2
  have hlt : w.heap.size ≤ W.heap.size := hbW.size
  have HP1 := hid hp1
  have HP2 := hid hp2
  have HW := hid hW
  clear hp1 hp2 hW h1 h2
  have m10 := q1.cell (j := 0) rfl
  have m11 := q1.cell (j := 1) rfl
  have m20 := q2.cell (j := 0) rfl
  have finish : ∀ (w' : World) (u : Value) (z : List DFound) (c : Int), Hid (findWs (n, x) y k = z ∧ findWsC (n, x) y k = c) → Own eFound 31 w.heap.size w' u z → Below w.heap.size w w' → RetNew rFoundS (findWs (n, x) y k) #[.int .i64 (findWsC (n, x) y k)] w (.returned (.tuple #[u, .int .i64 c])) w' := by
    intro w' u z c hz ho hb
    rw [hz.out.1, hz.out.2]
    exact ⟨_, rfl, rFoundS_own ho (Nat.le_refl _), hb⟩
  have CL := fun w' (hb : Below W.heap.size W w') => l15Ok_any p1 n _ x w' (cell_later hb m10) (cell_later hb m11) (hA.below hb) ok1 g1
  have CX := fun w' (hb : Below W.heap.size W w') => l16Ok_any p2 _ y w' (cell_later hb m20) (hB.below hb) ok2 g2
  cases hv : validLt (n, x)
  · have HZ : Hid (findWs (n, x) y k = [] ∧ findWsC (n, x) y k = 1) := by show _ ∧ _; simp [findWs, findWsC, hv]
    rw [hv] at CL
    go_enter Try.func18, Try.ntmps18
    go_wp2_with fail
    rw [← HP2.out, ← HP1.out, ← HW.out]
    refine (CL W (Below.refl _ _)).mono ?_
    rintro e w3 ⟨rfl, hb⟩
    go_wp2_with fail
    go_ret2
    exact finish _ _ _ _ HZ (Own.nil _ _ _) (hbW.trans (hb.mono hlt))
  rw [hv] at CL
  cases hvy : validLx y
  · have HZ : Hid (findWs (n, x) y k = [] ∧ findWsC (n, x) y k = 1) := by show _ ∧ _; simp [findWs, findWsC, hv, hvy]
    rw [hvy] at CX
    go_enter Try.func18, Try.ntmps18
    go_wp2_with fail
    rw [← HP2.out, ← HP1.out, ← HW.out]
    refine (CL W (Below.refl _ _)).mono ?_
    rintro e w3 ⟨rfl, hb⟩
    go_wp2_with fail
    refine (CX w3 hb).mono ?_
    rintro e w4 ⟨rfl, hb4⟩
    go_wp2_with fail
    go_ret2
    exact finish _ _ _ _ HZ (Own.nil _ _ _) (hbW.trans ((hb.trans (hb4.mono hb.size)).mono hlt))
  rw [hvy] at CX
  have HI : ∀ w', Calls Try.prog 60 #[.int .i64 k, .int .i64 1, .int .i64 20] w' fun e w'' => e = .returned (.bool (inB k 1 20)) ∧ w' = w'' := fun w' => l00In_any _ _ _ w'
  cases hk : inB k 1 20
  · have HZ : Hid (findWs (n, x) y k = [] ∧ findWsC (n, x) y k = 2) := by show _ ∧ _; simp [findWs, findWsC, hv, hvy, hk]
    rw [hk] at HI
    go_enter Try.func18, Try.ntmps18
    go_wp2_with fail
    rw [← HP2.out, ← HP1.out, ← HW.out]
    refine (CL W (Below.refl _ _)).mono ?_
    rintro e w3 ⟨rfl, hb⟩
    go_wp2_with fail
    refine (CX w3 hb).mono ?_
    rintro e w4 ⟨rfl, hb4⟩
    go_wp2_with (go_at_call 60; refine (HI _).mono ?_; rintro e w' ⟨rfl, rfl⟩)
    go_ret2
    exact finish _ _ _ _ HZ (Own.nil _ _ _) (hbW.trans ((hb.trans (hb4.mono hb.size)).mono hlt))
  rw [hk] at HI
  obtain ⟨hk1, hk2⟩ := inB_true.1 hk
  obtain ⟨kn, rfl⟩ : ∃ kn : Nat, k = kn := ⟨k.toNat, by omega⟩
  obtain ⟨n1, n2, x2⟩ := valid_bd hv
  obtain ⟨m, rfl⟩ : ∃ m : Nat, n = m := ⟨n.toNat, by omega⟩
  have CA := fun w' (hb : Below W.heap.size W w') => l16All_any p1 p2 m _ x _ y w' (cell_later hb m10) (cell_later hb m11) (hA.below hb) hv (cell_later hb m20) (hB.below hb) hvy
  have hll := findAll_len ((m : Int), x) y
  have hly := valid_len hvy
  have HZ : Hid (findWs ((m : Int), x) y (kn : Int) = (findAll ((m : Int), x) y).take kn ∧ findWsC ((m : Int), x) y (kn : Int) = 0) := by show _ ∧ _; simp [findWs, findWsC, hv, hvy, hk]
  obtain ⟨XS, hXS⟩ : ∃ XS, XS = findAll ((m : Int), x) y := ⟨_, rfl⟩
  rw [← hXS] at CA hll HZ
  clear hXS
  go_enter Try.func18, Try.ntmps18
  go_wp2_with fail
  rw [← HP2.out, ← HP1.out, ← HW.out]
  refine (CL W (Below.refl _ _)).mono ?_
  rintro e w3 ⟨rfl, hb⟩
  go_wp2_with fail
  refine (CX w3 hb).mono ?_
  rintro e w4 ⟨rfl, hb4⟩
  have hb5 := hb.trans (hb4.mono hb.size)
  go_wp2_with (go_at_call 60; refine (HI _).mono ?_; rintro e w' ⟨rfl, rfl⟩)
  refine (CA w4 hb5).mono ?_
  rintro e w5 ⟨u, rfl, ho, hb6⟩
  have hb7 := hb5.trans (hb6.mono hb5.size)
  have hbe := hbW.trans (hb7.mono hlt)
  have hwl : w.heap.size ≤ w4.heap.size := Nat.le_trans hlt hb5.size
  obtain ⟨sa, sc, hu⟩ := ho.isSlice
  subst hu
  have hsc : XS.length ≤ sc := by
    obtain ⟨_, _, _, _, hv, hl, _⟩ := ho.arr
    simp only [Value.slice.injEq] at hv
    obtain ⟨_, _, rfl⟩ := hv
    exact hl
  rcases ho.shape with ⟨hn, h0⟩ | ⟨g, cap, hn, hBg, hg⟩
  · simp only [Value.slice.injEq] at hn
    obtain ⟨rfl, _, rfl⟩ := hn
    subst h0
    simp only [List.length_nil]
    have hmin : min (kn : Int) 0 = 0 := by omega
    rw [List.take_nil] at HZ
    go_wp2_with (go_at_call 61; refine (l00Min_any _ _ _).mono ?_; rintro e w' ⟨rfl, rfl⟩; rw [hmin])
    go_ret2
    exact finish _ _ _ _ HZ (Own.nil _ _ _) hbe
  · simp only [Value.slice.injEq] at hn
    obtain ⟨rfl, _, rfl⟩ := hn
    obtain ⟨q, hq⟩ : ∃ q : Nat, q = min kn XS.length := ⟨_, rfl⟩
    have hmin : min (kn : Int) (XS.length : Int) = (q : Int) := by omega
    have hqX : XS.take kn = XS.take q := by
      rcases Nat.le_total kn XS.length with h | h
      · rw [hq, Nat.min_eq_left h]
      · rw [hq, Nat.min_eq_right h, List.take_of_length_le h, List.take_length]
    have hql : q ≤ XS.length := by omega
    rw [hqX] at HZ
    have hqc : (q : Int) ≤ (sc : Int) := by omega
    have hot := (own_take ho rfl hql).mono hwl
    clear hq hqX
    go_wp2_with (go_at_call 61; refine (l00Min_any _ _ _).mono ?_; rintro e w' ⟨rfl, rfl⟩; rw [hmin])
    go_ret2
    exact finish _ _ _ _ HZ hot hbe
set_option maxHeartbeats 4000000 in
set_option maxRecDepth 100000 in
theorem implFindWords_any (v1 : Value) (x : XLattice) (v2 : Value) (y : XLexicon) (k : Int) (w : World) {lo1 hi1 lo2 hi2 : Nat} (h1 : rLattice.at_ lo1 hi1 w v1 x) (h2 : rLexicon.at_ lo2 hi2 w v2 y) (ok1 : okLattice x) (ok2 : okLexicon y) (g1 : goodLattice x) (g2 : goodLexicon y) :
    Calls Try.prog 19 #[v1, v2, .int .i64 k] w (RetNew rFoundS (findWs x y k) #[.int .i64 (findWsC x y k)] w) := by
  obtain ⟨u1, rfl, h1⟩ := h1
  obtain ⟨u2, rfl, h2⟩ := h2
  replace h1 := ArrIn.arr h1
  replace h2 := ArrIn.arr h2
  obtain ⟨n, x⟩ := x
  obtain ⟨a1, k1, hu⟩ := h1.isSlice
  subst hu
  obtain ⟨a2, k2, hu⟩ := h2.isSlice
  subst hu
  simp only at h1
  obtain ⟨W, hW⟩ : ∃ W, W = (w.alloc (.cells #[.int .i64 n, .slice a1 x.length k1] 36)).alloc (.cells #[.slice a2 y.length k2] 40) := ⟨_, rfl⟩
  have hbW : Below w.heap.size w W := by rw [hW]; exact belowA2 _ _ _
  have q1 : Box W w.heap.size #[.int .i64 n, .slice a1 x.length k1] 36 := by rw [hW]; exact (Box.new w _ _).later (below_alloc _ _)
  have q2 : Box W (w.heap.size + 1) #[.slice a2 y.length k2] 40 := by
    rw [hW]
    have := Box.new (w.alloc (.cells #[.int .i64 n, .slice a1 x.length k1] 36)) #[.slice a2 y.length k2] 40
    simp at this
    exact this
  have hA := h1.below hbW
  have hB := h2.below hbW
  obtain ⟨p1, hp1⟩ : ∃ p, p = w.heap.size := ⟨_, rfl⟩
  obtain ⟨p2, hp2⟩ : ∃ p, p = w.heap.size + 1 := ⟨_, rfl⟩
  rw [← hp1] at q1
  rw [← hp2] at q2
  have hlt : w.heap.size ≤ W.heap.size := hbW.size
  have HP1 := hid hp1
  have HP2 := hid hp2
  have HW := hid hW
  clear hp1 hp2 hW h1 h2
  have m10 := q1.cell (j := 0) rfl
  have m11 := q1.cell (j := 1) rfl
  have m20 := q2.cell (j := 0) rfl
  have finish : ∀ (w' : World) (u : Value) (z : List DFound) (c : Int), Hid (findWs (n, x) y k = z ∧ findWsC (n, x) y k = c) → Own eFound 31 w.heap.size w' u z → Below w.heap.size w w' → RetNew rFoundS (findWs (n, x) y k) #[.int .i64 (findWsC (n, x) y k)] w (.returned (.tuple #[u, .int .i64 c])) w' := by
    intro w' u z c hz ho hb
    rw [hz.out.1, hz.out.2]
    exact ⟨_, rfl, rFoundS_own ho (Nat.le_refl _), hb⟩
  have CL := fun w' (hb : Below W.heap.size W w') => implValidLattice_any _ (n, x) w' (show rLattice.at_ 0 w'.heap.size w' (.agg #[.int .i64 n, .slice a1 x.length k1]) (n, x) from ⟨_, rfl, (hA.below hb).in_⟩) ok1 g1
  have CX := fun w' (hb : Below W.heap.size W w') => implValidLexicon_any _ y w' (show rLexicon.at_ 0 w'.heap.size w' (.agg #[.slice a2 y.length k2]) y from ⟨_, rfl, (hB.below hb).in_⟩) ok2 g2
  cases hv : validLt (n, x)
  · have HZ : Hid (findWs (n, x) y k = [] ∧ findWsC (n, x) y k = 1) := by show _ ∧ _; simp [findWs, findWsC, hv]
    rw [hv] at CL
    go_enter Try.func19, Try.ntmps19
    go_wp2_with fail
    rw [← HP2.out, ← HP1.out, ← HW.out]
    refine (CL W (Below.refl _ _)).mono ?_
    rintro e w3 ⟨rfl, hb⟩
    go_wp2_with fail
    go_ret2
    exact finish _ _ _ _ HZ (Own.nil _ _ _) (hbW.trans (hb.mono hlt))
  rw [hv] at CL
  cases hvy : validLx y
  · have HZ : Hid (findWs (n, x) y k = [] ∧ findWsC (n, x) y k = 1) := by show _ ∧ _; simp [findWs, findWsC, hv, hvy]
    rw [hvy] at CX
    go_enter Try.func19, Try.ntmps19
    go_wp2_with fail
    rw [← HP2.out, ← HP1.out, ← HW.out]
    refine (CL W (Below.refl _ _)).mono ?_
    rintro e w3 ⟨rfl, hb⟩
    have s20 := cell_later hb m20
    go_wp2_with fail
    refine (CX w3 hb).mono ?_
    rintro e w4 ⟨rfl, hb4⟩
    go_wp2_with fail
    go_ret2
    exact finish _ _ _ _ HZ (Own.nil _ _ _) (hbW.trans ((hb.trans (hb4.mono hb.size)).mono hlt))
  rw [hvy] at CX
  have HI : ∀ w', Calls Try.prog 62 #[.int .i64 k, .int .i64 1, .int .i64 20] w' fun e w'' => e = .returned (.bool (inB k 1 20)) ∧ w' = w'' := fun w' => within_any _ _ _ w'
  cases hk : inB k 1 20
  · have HZ : Hid (findWs (n, x) y k = [] ∧ findWsC (n, x) y k = 2) := by show _ ∧ _; simp [findWs, findWsC, hv, hvy, hk]
    rw [hk] at HI
    go_enter Try.func19, Try.ntmps19
    go_wp2_with fail
    rw [← HP2.out, ← HP1.out, ← HW.out]
    refine (CL W (Below.refl _ _)).mono ?_
    rintro e w3 ⟨rfl, hb⟩
    have s20 := cell_later hb m20
    go_wp2_with fail
    refine (CX w3 hb).mono ?_
    rintro e w4 ⟨rfl, hb4⟩
    go_wp2_with (go_at_call 62; refine (HI _).mono ?_; rintro e w' ⟨rfl, rfl⟩)
    go_ret2
    exact finish _ _ _ _ HZ (Own.nil _ _ _) (hbW.trans ((hb.trans (hb4.mono hb.size)).mono hlt))
  rw [hk] at HI
  obtain ⟨hk1, hk2⟩ := inB_true.1 hk
  obtain ⟨kn, rfl⟩ : ∃ kn : Nat, k = kn := ⟨k.toNat, by omega⟩
  obtain ⟨n1, n2, x2⟩ := valid_bd hv
  obtain ⟨m, rfl⟩ : ∃ m : Nat, n = m := ⟨n.toNat, by omega⟩
  have CA := fun w' (hb : Below W.heap.size W w') => readable_any m _ x _ y w' (hA.below hb) hv (hB.below hb) hvy
  have hll := findAll_len ((m : Int), x) y
  have hly := valid_len hvy
  have HZ : Hid (findWs ((m : Int), x) y (kn : Int) = (findAll ((m : Int), x) y).take kn ∧ findWsC ((m : Int), x) y (kn : Int) = 0) := by show _ ∧ _; simp [findWs, findWsC, hv, hvy, hk]
  obtain ⟨XS, hXS⟩ : ∃ XS, XS = findAll ((m : Int), x) y := ⟨_, rfl⟩
  rw [← hXS] at CA hll HZ
  clear hXS
  go_enter Try.func19, Try.ntmps19
  go_wp2_with fail
  rw [← HP2.out, ← HP1.out, ← HW.out]
  refine (CL W (Below.refl _ _)).mono ?_
  rintro e w3 ⟨rfl, hb⟩
  have s20 := cell_later hb m20
  go_wp2_with fail
  refine (CX w3 hb).mono ?_
  rintro e w4 ⟨rfl, hb4⟩
  have hb5 := hb.trans (hb4.mono hb.size)
  have s10 := cell_later hb5 m10
  have s11 := cell_later hb5 m11
  have s21 := cell_later hb5 m20
  go_wp2_with (go_at_call 62; refine (HI _).mono ?_; rintro e w' ⟨rfl, rfl⟩)
  refine (CA w4 hb5).mono ?_
  rintro e w5 ⟨u, rfl, ho, hb6⟩
  have hb7 := hb5.trans (hb6.mono hb5.size)
  have hbe := hbW.trans (hb7.mono hlt)
  have hwl : w.heap.size ≤ w4.heap.size := Nat.le_trans hlt hb5.size
  obtain ⟨sa, sc, hu⟩ := ho.isSlice
  subst hu
  have hsc : XS.length ≤ sc := by
    obtain ⟨_, _, _, _, hv, hl, _⟩ := ho.arr
    simp only [Value.slice.injEq] at hv
    obtain ⟨_, _, rfl⟩ := hv
    exact hl
  rcases ho.shape with ⟨hn, h0⟩ | ⟨g, cap, hn, hBg, hg⟩
  · simp only [Value.slice.injEq] at hn
    obtain ⟨rfl, _, rfl⟩ := hn
    subst h0
    simp only [List.length_nil]
    have hmin : min (kn : Int) 0 = 0 := by omega
    rw [List.take_nil] at HZ
    go_wp2_with fail
    go_ret2
    exact finish _ _ _ _ HZ (Own.nil _ _ _) hbe
  · simp only [Value.slice.injEq] at hn
    obtain ⟨rfl, _, rfl⟩ := hn
    obtain ⟨q, hq⟩ : ∃ q : Nat, q = min kn XS.length := ⟨_, rfl⟩
    have hmin : min (kn : Int) (XS.length : Int) = (q : Int) := by omega
    have hqX : XS.take kn = XS.take q := by
      rcases Nat.le_total kn XS.length with h | h
      · rw [hq, Nat.min_eq_left h]
      · rw [hq, Nat.min_eq_right h, List.take_of_length_le h, List.take_length]
    have hql : q ≤ XS.length := by omega
    rw [hqX] at HZ
    have hqc : (q : Int) ≤ (sc : Int) := by omega
    have hot := (own_take ho rfl hql).mono hwl
    clear hq hqX
    go_wp2_with fail
    go_ret2
    exact finish _ _ _ _ HZ hot hbe
end Go.Proofs.Ytnanegdcoegahaa
