/- The loss of a beam, the least width without a loss: the calls. -/
import Derived.Test.YtnhmailnnggmjabGreatRdLoss
import Derived.Test.YtnhmailnnggmjabGreatRdWord3
import Derived.Test.YtnhmailnnggmjabGreatFwAll
import Derived.Test.YtnhmailnnggmjabGreatFwRead
namespace Go.Proofs.YtnhmailnnggmjabGreat
open Go.RowKit Go.Sort
attribute [local go_sem ↓] Go.wp_at_zero Go.wp_at_succ

theorem sumF_eq {f : DFound} (h0 : 0 ≤ f.path) (h1 : f.path ≤ 20000000) (h2 : 0 ≤ f.own_) (h3 : f.own_ ≤ 1000000) : sumF f = f.path + f.own_ := IntWalk.i64_in _ (by show -9223372036854775808 ≤ f.path + f.own_ ∧ f.path + f.own_ ≤ 9223372036854775807; omega)
theorem lwO_all {x : XLattice} {y : XLexicon} (h : ∀ j, j < 30 → lossB x y ((j + 1 : Nat) : Int) ≠ 0) : lwO x y = none := by
  unfold lwO
  rw [List.find?_eq_none]
  intro i hi
  have := h i (by simpa using hi)
  simpa using this
theorem lwO_at {x : XLattice} {y : XLexicon} {k : Nat} (hk : k < 30) (h : ∀ j, j < k → lossB x y ((j + 1 : Nat) : Int) ≠ 0) (h0 : lossB x y ((k + 1 : Nat) : Int) = 0) : lwO x y = some k := by
  unfold lwO
  rw [List.find?_eq_some_iff_append]
  refine ⟨by simpa using h0, List.range k, (List.range (30 - (k + 1))).map (k + 1 + ·), ?_, fun a ha => by have := h a (by simpa using ha); simpa using this⟩
  have e : 30 = k + (30 - k) := by omega
  rw [e, List.range_add, show k + (30 - k) - (k + 1) = 30 - k - 1 by omega]
  congr 1
  obtain ⟨d, hd⟩ : ∃ d, 30 - k = d + 1 := ⟨30 - k - 1, by omega⟩
  rw [hd, List.range_succ_eq_map, List.map_cons, List.map_map]
  simp only [Nat.add_zero, Nat.add_sub_cancel]
  congr 1
  refine List.map_congr_left fun a _ => ?_
  simp only [Function.comp]; omega
set_option maxHeartbeats 4000000 in
set_option maxRecDepth 100000 in
theorem l17Loss_any (p1 p2 : Nat) (v1 v2 : Value) (N m : Nat) (x : List DEdge) (y : XLexicon) (w : World) (hp0 : w.cell? ⟨p1, 0, none⟩ = some (.int .i64 N)) (hp1 : w.cell? ⟨p1, 1, none⟩ = some v1) (hq0 : w.cell? ⟨p2, 0, none⟩ = some v2) (h : Arr eEdge w v1 x) (hY : Arr eEntry w v2 y) (oky : okLexicon y) (gy : goodLexicon y) (hv : validLt ((N : Int), x) = true) (hvy : validLx y = true) (hm1 : 1 ≤ m) (hm : m ≤ 30) :
    Calls Tryz.prog 18 #[.pointer (some ⟨p1, 0, none⟩), .pointer (some ⟨p2, 0, none⟩), .int .i64 m] w (Ret (.int .i64 (lossB ((N : Int), x) y m)) w) := by
  obtain ⟨o, ho⟩ : ∃ o, bwO ((N : Int), x) y m = o := ⟨_, rfl⟩
  have CW := l17Word_any p1 p2 v1 v2 N m x y w hp0 hp1 hq0 h hY oky gy hv hm1 hm o ho
  cases o with
  | none =>
    have HZ := hid (loss_none ho)
    simp only [Option.getD_none, Option.isSome_none] at CW
    clear ho
    go_enter Tryz.func18, Tryz.ntmps18
    go_wp2_with (go_at_call 32; refine CW.mono ?_; rintro e w2 ⟨rfl, hb⟩; unfold vF)
    go_ret
    exact ret_int HZ.out.symm (base1 hb)
  | some f =>
    obtain ⟨b, t, hF, hL, _, f0, f1, f2, f3, g0, g1, g2, g3⟩ := loss_some hv hvy ho
    have HL := hid hL
    have hsf := sumF_eq f0 f1 f2 f3
    have hsb := sumF_eq g0 g1 g2 g3
    obtain ⟨sf, hsf2⟩ : ∃ sf, sf = sumF f := ⟨_, rfl⟩
    obtain ⟨sb, hsb2⟩ : ∃ sb, sb = sumF b := ⟨_, rfl⟩
    have HS := hid (And.intro (hsf2.trans hsf) (hsb2.trans hsb))
    have q0 : 0 ≤ sf := by omega
    have q1 : sf ≤ 21000000 := by omega
    have q2 : 0 ≤ sb := by omega
    have q3 : sb ≤ 21000000 := by omega
    have CS1 := fun w' => l16Sum_any f w'
    have CS2 := fun w' => l16Sum_any b w'
    rw [← hsf2] at CS1
    rw [← hsb2] at CS2
    have CA := fun w' (hb : Below w.heap.size w w') => l16All_any p1 p2 N v1 x v2 y w' (cell_later hb hp0) (cell_later hb hp1) (h.below hb) hv (cell_later hb hq0) (hY.below hb) hvy
    rw [hF] at CA
    simp only [Option.getD_some, Option.isSome_some] at CW
    have HT : Hid ((b :: t).length = t.length + 1) := hid rfl
    have hll := findAll_len ((N : Int), x) y
    have hly := valid_len hvy
    rw [hF] at hll
    simp only [List.length_cons] at hll
    clear ho hF hL hsf hsb hsf2 hsb2
    go_enter Tryz.func18, Tryz.ntmps18
    go_wp2_with fail
    refine CW.mono ?_
    rintro e w2 ⟨rfl, hb⟩
    unfold vF
    go_wp2_with fail
    refine (CS1 _).mono ?_
    rintro e w3 ⟨rfl, hb3⟩
    have hb4 : Below w.heap.size w w3 := baseB1 hb hb3
    go_wp2_with fail
    refine (CA w3 hb4).mono ?_
    rintro e w4 ⟨u, rfl, ho4, hb5⟩
    have hb6 := hb4.trans (hb5.mono hb4.size)
    obtain ⟨g, cap, rfl, hBg, hg⟩ := ho4.shape.resolve_left (fun h => by have := h.2; cases this)
    obtain ⟨c0, c1, c2⟩ := eFound_cells (own_cells ho4 rfl).1 (k := 0) (x := b) rfl
    simp only [Nat.zero_mul, Nat.zero_add] at c0 c1 c2
    have hl1 : (0 : Int) < ((b :: t).length : Int) := by simp only [List.length_cons]; omega
    have hl2 : 0 < (b :: t).length := by simp
    generalize (b :: t).length = ln at hl1 hl2 ⊢
    go_wp2_with fail
    refine (CS2 _).mono ?_
    rintro e w7 ⟨rfl, hb7⟩
    go_wp2_with fail
    go_ret
    exact ret_int (by rw [HL.out, HS.out.1, HS.out.2]) (hb6.trans (hb7.mono hb6.size))
set_option maxHeartbeats 4000000 in
set_option maxRecDepth 100000 in
theorem specBeamLoss_any (v1 : Value) (x : XLattice) (v2 : Value) (y : XLexicon) (k : Int) (w : World) {lo1 hi1 lo2 hi2 : Nat} (h1 : rLattice.at_ lo1 hi1 w v1 x) (h2 : rLexicon.at_ lo2 hi2 w v2 y) (ok1 : okLattice x) (ok2 : okLexicon y) (g1 : goodLattice x) (g2 : goodLexicon y) :
    Calls Tryz.prog 7 #[v1, v2, .int .i64 k] w (Ret (.tuple #[.int .i64 (lsN x y k), .int .i64 (lsC x y k)]) w) := by
  obtain ⟨u1, rfl, h1⟩ := h1
  obtain ⟨u2, rfl, h2⟩ := h2
  replace h1 := ArrIn.arr h1
  replace h2 := ArrIn.arr h2
  obtain ⟨n, x⟩ := x
  obtain ⟨a1, k1, hu⟩ := h1.isSlice
  subst hu
  obtain ⟨a2, k2, hu⟩ := h2.isSlice
  subst hu
  simp only at h1
  obtain ⟨W, hW⟩ : ∃ u, u = ((w.alloc (.cells #[.int .i64 n, .slice a1 x.length k1] 34)).alloc (.cells #[.slice a2 y.length k2] 38)) := ⟨_, rfl⟩
  have hbW : Below w.heap.size w W := by rw [hW]; exact belowA2 _ _ _
  have q1 : Box W (w.heap.size) #[.int .i64 n, .slice a1 x.length k1] 34 := by
    have hq := Box.new w #[.int .i64 n, .slice a1 x.length k1] 34
    rw [hW]
    exact (hq.alloc _)
  have q2 : Box W (w.heap.size + 1) #[.slice a2 y.length k2] 38 := by
    have hq := Box.new (w.alloc (.cells #[.int .i64 n, .slice a1 x.length k1] 34)) #[.slice a2 y.length k2] 38
    simp at hq
    rw [hW]
    exact hq
  obtain ⟨p1, hp1⟩ : ∃ p, p = w.heap.size := ⟨_, rfl⟩
  rw [← hp1] at q1
  have hge1 : w.heap.size ≤ p1 := by omega
  obtain ⟨p2, hp2⟩ : ∃ p, p = w.heap.size + 1 := ⟨_, rfl⟩
  rw [← hp2] at q2
  have hge2 : w.heap.size ≤ p2 := by omega
  have hlW : w.heap.size ≤ W.heap.size := hbW.size
  have hlp1 : p1 < W.heap.size := q1.lt
  have hlp2 : p2 < W.heap.size := q2.lt
  have hne12 : p1 ≠ p2 := by omega
  have HP1 := hid hp1
  have HP2 := hid hp2
  have HW := hid hW
  clear hW hp1 hp2
  have hA := h1.below hbW
  have hB := h2.below hbW
  have m10 := q1.cell (j := 0) rfl
  have m11 := q1.cell (j := 1) rfl
  have m20 := q2.cell (j := 0) rfl
  have finish : ∀ (w' : World) (a c : Int), Hid (lsN (n, x) y k = a ∧ lsC (n, x) y k = c) → Below w.heap.size w w' → Ret (.tuple #[.int .i64 (lsN (n, x) y k), .int .i64 (lsC (n, x) y k)]) w (.returned (.tuple #[.int .i64 a, .int .i64 c])) w' := by
    intro w' a c hz hb
    rw [hz.out.1, hz.out.2]
    exact ⟨rfl, hb⟩
  have CB := l17Code_any p1 p2 n (.slice a1 x.length k1) (.slice a2 y.length k2) x y k W m10 m11 m20 hA hB ok1 g1 ok2 g2
  rcases Decidable.em (¬ codeB (n, x) y k = 0) with hcb | hcb
  · have HZ : Hid (lsN (n, x) y k = 0 ∧ lsC (n, x) y k = codeB (n, x) y k) := by show _ ∧ _; simp [lsN, lsC, hcb]
    obtain ⟨cb, hcbd⟩ : ∃ cb, cb = codeB (n, x) y k := ⟨_, rfl⟩
    rw [← hcbd] at CB HZ hcb
    have hcd : (cb == 0) = false := by simpa using hcb
    clear hcbd
    go_enter Tryz.func7, Tryz.ntmps7
    go_wp2_with fail
    rw [← HP2.out, ← HP1.out, ← HW.out]
    refine CB.mono ?_
    rintro e w3 ⟨rfl, hb⟩
    go_wp2_with fail
    go_ret2
    exact finish _ _ _ HZ (hbW.trans (hb.mono hlW))
  · replace hcb := Decidable.not_not.1 hcb
    rw [hcb] at CB
    obtain ⟨hv, hvy, kk1, kk2⟩ := codeB_0 hcb
    obtain ⟨b1, b2, b3⟩ := valid_bd hv
    obtain ⟨N, rfl⟩ : ∃ N : Nat, n = N := ⟨n.toNat, by omega⟩
    obtain ⟨m, rfl⟩ : ∃ m : Nat, k = m := ⟨k.toNat, by omega⟩
    have CM := fun w' (hb : Below W.heap.size W w') => l17Loss_any p1 p2 (.slice a1 x.length k1) (.slice a2 y.length k2) N m x y w' (cell_later hb m10) (cell_later hb m11) (cell_later hb m20) (hA.below hb) (hB.below hb) ok2 g2 hv hvy (by omega) (by omega)
    by_cases hn : lossB ((N : Int), x) y m < 0
    · have HZ : Hid (lsN ((N : Int), x) y (m : Int) = 0 ∧ lsC ((N : Int), x) y (m : Int) = 3) := by show _ ∧ _; simp [lsN, lsC, hcb, hn]
      generalize lossB ((N : Int), x) y m = ls at CM hn
      have hnd : decide (ls < 0) = true := by simpa using hn
      clear hcb
      go_enter Tryz.func7, Tryz.ntmps7
      go_wp2_with fail
      rw [← HP2.out, ← HP1.out, ← HW.out]
      refine CB.mono ?_
      rintro e w3 ⟨rfl, hb⟩
      go_wp2_with fail
      refine (CM w3 hb).mono ?_
      rintro e w4 ⟨rfl, hb4⟩
      go_wp2_with fail
      go_ret2
      exact finish _ _ _ HZ (hbW.trans ((hb.trans (hb4.mono hb.size)).mono hlW))
    · have HZ : Hid (lsN ((N : Int), x) y (m : Int) = lossB ((N : Int), x) y m ∧ lsC ((N : Int), x) y (m : Int) = 0) := by show _ ∧ _; simp [lsN, lsC, hcb, hn]
      generalize lossB ((N : Int), x) y m = ls at CM hn HZ
      have hnd : decide (ls < 0) = false := by simpa using hn
      clear hcb
      go_enter Tryz.func7, Tryz.ntmps7
      go_wp2_with fail
      rw [← HP2.out, ← HP1.out, ← HW.out]
      refine CB.mono ?_
      rintro e w3 ⟨rfl, hb⟩
      go_wp2_with fail
      refine (CM w3 hb).mono ?_
      rintro e w4 ⟨rfl, hb4⟩
      go_wp2_with fail
      go_ret2
      exact finish _ _ _ HZ (hbW.trans ((hb.trans (hb4.mono hb.size)).mono hlW))
set_option maxHeartbeats 4000000 in
set_option maxRecDepth 100000 in
theorem implBeamLoss_any (v1 : Value) (x : XLattice) (v2 : Value) (y : XLexicon) (k : Int) (w : World) {lo1 hi1 lo2 hi2 : Nat} (h1 : rLattice.at_ lo1 hi1 w v1 x) (h2 : rLexicon.at_ lo2 hi2 w v2 y) (ok1 : okLattice x) (ok2 : okLexicon y) (g1 : goodLattice x) (g2 : goodLexicon y) :
    Calls Tryz.prog 10 #[v1, v2, .int .i64 k] w (Ret (.tuple #[.int .i64 (lsN x y k), .int .i64 (lsC x y k)]) w) := by
  obtain ⟨u1, rfl, h1⟩ := h1
  obtain ⟨u2, rfl, h2⟩ := h2
  replace h1 := ArrIn.arr h1
  replace h2 := ArrIn.arr h2
  obtain ⟨n, x⟩ := x
  obtain ⟨a1, k1, hu⟩ := h1.isSlice
  subst hu
  obtain ⟨a2, k2, hu⟩ := h2.isSlice
  subst hu
  simp only at h1
  obtain ⟨W, hW⟩ : ∃ u, u = ((w.alloc (.cells #[.int .i64 n, .slice a1 x.length k1] 34)).alloc (.cells #[.slice a2 y.length k2] 38)) := ⟨_, rfl⟩
  have hbW : Below w.heap.size w W := by rw [hW]; exact belowA2 _ _ _
  have q1 : Box W (w.heap.size) #[.int .i64 n, .slice a1 x.length k1] 34 := by
    have hq := Box.new w #[.int .i64 n, .slice a1 x.length k1] 34
    rw [hW]
    exact (hq.alloc _)
  have q2 : Box W (w.heap.size + 1) #[.slice a2 y.length k2] 38 := by
    have hq := Box.new (w.alloc (.cells #[.int .i64 n, .slice a1 x.length k1] 34)) #[.slice a2 y.length k2] 38
    simp at hq
    rw [hW]
    exact hq
  obtain ⟨p1, hp1⟩ : ∃ p, p = w.heap.size := ⟨_, rfl⟩
  rw [← hp1] at q1
  have hge1 : w.heap.size ≤ p1 := by omega
  obtain ⟨p2, hp2⟩ : ∃ p, p = w.heap.size + 1 := ⟨_, rfl⟩
  rw [← hp2] at q2
  have hge2 : w.heap.size ≤ p2 := by omega
  have hlW : w.heap.size ≤ W.heap.size := hbW.size
  have hlp1 : p1 < W.heap.size := q1.lt
  have hlp2 : p2 < W.heap.size := q2.lt
  have hne12 : p1 ≠ p2 := by omega
  have HP1 := hid hp1
  have HP2 := hid hp2
  have HW := hid hW
  clear hW hp1 hp2
  have hA := h1.below hbW
  have hB := h2.below hbW
  have m10 := q1.cell (j := 0) rfl
  have m11 := q1.cell (j := 1) rfl
  have m20 := q2.cell (j := 0) rfl
  have finish : ∀ (w' : World) (a c : Int), Hid (lsN (n, x) y k = a ∧ lsC (n, x) y k = c) → Below w.heap.size w w' → Ret (.tuple #[.int .i64 (lsN (n, x) y k), .int .i64 (lsC (n, x) y k)]) w (.returned (.tuple #[.int .i64 a, .int .i64 c])) w' := by
    intro w' a c hz hb
    rw [hz.out.1, hz.out.2]
    exact ⟨rfl, hb⟩
  have CW := implBeamWord_any (.agg #[.int .i64 n, .slice a1 x.length k1]) (n, x) (.agg #[.slice a2 y.length k2]) y k W (show rLattice.at_ 0 W.heap.size W _ (n, x) from ⟨_, rfl, hA.in_⟩) (show rLexicon.at_ 0 W.heap.size W _ y from ⟨_, rfl, hB.in_⟩) ok1 ok2 g1 g2
  rcases Decidable.em (¬ bwC (n, x) y k = 0) with hcb | hcb
  · have HZ : Hid (lsN (n, x) y k = 0 ∧ lsC (n, x) y k = bwC (n, x) y k) := by
      show _ ∧ _
      unfold bwC at hcb ⊢
      unfold lsN lsC
      by_cases h0 : codeB (n, x) y k = 0
      · rw [if_pos h0] at hcb ⊢
        rw [if_pos h0, if_pos h0]
        cases ho : bwO (n, x) y k with
        | some f => rw [ho] at hcb; simp at hcb
        | none => rw [loss_none ho]; simp
      · rw [if_neg h0, if_neg h0, if_neg h0]; exact ⟨rfl, rfl⟩
    obtain ⟨cb, hcbd⟩ : ∃ cb, cb = bwC (n, x) y k := ⟨_, rfl⟩
    rw [← hcbd] at CW HZ hcb
    have hcd : (cb == 0) = false := by simpa using hcb
    generalize bwW (n, x) y k = ff at CW
    clear hcbd
    go_enter Tryz.func10, Tryz.ntmps10
    go_wp2_with fail
    rw [← HP2.out, ← HP1.out, ← HW.out]
    refine CW.mono ?_
    rintro e w3 ⟨rfl, hb⟩
    go_wp2_with fail
    go_ret2
    exact finish _ _ _ HZ (hbW.trans ((base1 hb).mono hlW))
  · replace hcb := Decidable.not_not.1 hcb
    rw [hcb] at CW
    have h0 : codeB (n, x) y k = 0 := by
      by_cases h0 : codeB (n, x) y k = 0
      · exact h0
      · unfold bwC at hcb; rw [if_neg h0] at hcb; exact hcb
    obtain ⟨f, hbo⟩ : ∃ f, bwO (n, x) y k = some f := by
      unfold bwC at hcb
      rw [if_pos h0] at hcb
      cases ho : bwO (n, x) y k with
      | some f => exact ⟨f, rfl⟩
      | none => rw [ho] at hcb; simp at hcb
    have hbw : bwW (n, x) y k = f := by unfold bwW; rw [if_pos h0, hbo]; rfl
    rw [hbw] at CW
    obtain ⟨hv, hvy, kk1, kk2⟩ := codeB_0 h0
    obtain ⟨b1, b2, b3⟩ := valid_bd hv
    obtain ⟨N, rfl⟩ : ∃ N : Nat, n = N := ⟨n.toNat, by omega⟩
    obtain ⟨m, rfl⟩ : ∃ m : Nat, k = m := ⟨k.toNat, by omega⟩
    obtain ⟨b, t, hF, hL, hle, f0, f1, f2, f3, g0, g1', g2', g3⟩ := loss_some hv hvy hbo
    have HZ : Hid (lsN ((N : Int), x) y (m : Int) = f.path + f.own_ - b.path - b.own_ ∧ lsC ((N : Int), x) y (m : Int) = 0) := by
      show _ ∧ _
      unfold lsN lsC
      rw [if_pos h0, if_pos h0, if_neg (by omega), if_neg (by omega), hL]
      exact ⟨by omega, rfl⟩
    have CA := fun w' (hb : Below W.heap.size W w') => readable_any N _ x _ y w' (hA.below hb) hv (hB.below hb) hvy
    rw [hF] at CA
    have hll := findAll_len ((N : Int), x) y
    have hly := valid_len hvy
    rw [hF] at hll
    simp only [List.length_cons] at hll
    clear hcb h0 hbo hbw hF hL
    go_enter Tryz.func10, Tryz.ntmps10
    go_wp2_with fail
    rw [← HP2.out, ← HP1.out, ← HW.out]
    refine CW.mono ?_
    rintro e w3 ⟨rfl, hb⟩
    obtain ⟨w5, hw5⟩ : ∃ w5, w5 = w3.alloc (.cells #[.string f.word, .int .i64 f.path, .int .i64 f.own_] 53) := ⟨_, rfl⟩
    have hb35 : Below w3.heap.size w3 w5 := by rw [hw5]; exact below_alloc _ _
    obtain ⟨pf, hpf⟩ : ∃ pf, pf = w3.heap.size := ⟨_, rfl⟩
    have bF : Box w5 pf #[.string f.word, .int .i64 f.path, .int .i64 f.own_] 53 := by rw [hw5, hpf]; exact Box.new _ _ _
    have hb5 : Below W.heap.size W w5 := hb.trans (hb35.mono hb.size)
    have s10 := cell_later hb5 m10
    have s11 := cell_later hb5 m11
    have s20 := cell_later hb5 m20
    have e10 := cell_alloc (cell_later hb m10) (.cells #[.string f.word, .int .i64 f.path, .int .i64 f.own_] 53)
    have e11 := cell_alloc (cell_later hb m11) (.cells #[.string f.word, .int .i64 f.path, .int .i64 f.own_] 53)
    have e20 := cell_alloc (cell_later hb m20) (.cells #[.string f.word, .int .i64 f.path, .int .i64 f.own_] 53)
    have HW5 := hid hw5
    have HPF := hid hpf
    clear hw5 hpf
    go_wp2_with fail
    rw [← HW5.out]
    try rw [← HPF.out]
    refine (CA w5 hb5).mono ?_
    rintro e w6 ⟨u, rfl, ho, hb6⟩
    have hb7 := hb5.trans (hb6.mono hb5.size)
    obtain ⟨g, cap, rfl, hBg, hg⟩ := ho.shape.resolve_left (fun h => by have := h.2; cases this)
    obtain ⟨c0, c1, c2⟩ := eFound_cells (own_cells ho rfl).1 (k := 0) (x := b) rfl
    simp only [Nat.zero_mul, Nat.zero_add] at c0 c1 c2
    have z1 := (bF.later hb6).cell (j := 1) rfl
    have z2 := (bF.later hb6).cell (j := 2) rfl
    have zz1 := cell_alloc z1 (.cells #[.string b.word, .int .i64 b.path, .int .i64 b.own_] 53)
    have zz2 := cell_alloc z2 (.cells #[.string b.word, .int .i64 b.path, .int .i64 b.own_] 53)
    have hl1 : (0 : Int) < ((b :: t).length : Int) := by simp only [List.length_cons]; omega
    have hl2 : 0 < (b :: t).length := by simp
    generalize (b :: t).length = ln at hl1 hl2 ⊢
    clear m10 m11 m20 e10 e11 e20 s10 s11 s20
    go_wp2_with fail
    go_ret2
    exact finish _ _ _ HZ (hbW.trans ((base1 hb7).mono hlW))
set_option maxHeartbeats 4000000 in
set_option maxRecDepth 100000 in
theorem specLeastWidth_any (v1 : Value) (x : XLattice) (v2 : Value) (y : XLexicon) (w : World) {lo1 hi1 lo2 hi2 : Nat} (h1 : rLattice.at_ lo1 hi1 w v1 x) (h2 : rLexicon.at_ lo2 hi2 w v2 y) (ok1 : okLattice x) (ok2 : okLexicon y) (g1 : goodLattice x) (g2 : goodLexicon y) :
    Calls Tryz.prog 13 #[v1, v2] w (Ret (.tuple #[.int .i64 (lwN x y), .int .i64 (lwC x y)]) w) := by
  obtain ⟨u1, rfl, h1⟩ := h1
  obtain ⟨u2, rfl, h2⟩ := h2
  replace h1 := ArrIn.arr h1
  replace h2 := ArrIn.arr h2
  obtain ⟨n, x⟩ := x
  obtain ⟨a1, k1, hu⟩ := h1.isSlice
  subst hu
  obtain ⟨a2, k2, hu⟩ := h2.isSlice
  subst hu
  simp only at h1
  obtain ⟨W, hW⟩ : ∃ u, u = ((w.alloc (.cells #[.int .i64 n, .slice a1 x.length k1] 34)).alloc (.cells #[.slice a2 y.length k2] 38)) := ⟨_, rfl⟩
  have hbW : Below w.heap.size w W := by rw [hW]; exact belowA2 _ _ _
  have q1 : Box W (w.heap.size) #[.int .i64 n, .slice a1 x.length k1] 34 := by
    have hq := Box.new w #[.int .i64 n, .slice a1 x.length k1] 34
    rw [hW]
    exact (hq.alloc _)
  have q2 : Box W (w.heap.size + 1) #[.slice a2 y.length k2] 38 := by
    have hq := Box.new (w.alloc (.cells #[.int .i64 n, .slice a1 x.length k1] 34)) #[.slice a2 y.length k2] 38
    simp at hq
    rw [hW]
    exact hq
  obtain ⟨p1, hp1⟩ : ∃ p, p = w.heap.size := ⟨_, rfl⟩
  rw [← hp1] at q1
  have hge1 : w.heap.size ≤ p1 := by omega
  obtain ⟨p2, hp2⟩ : ∃ p, p = w.heap.size + 1 := ⟨_, rfl⟩
  rw [← hp2] at q2
  have hge2 : w.heap.size ≤ p2 := by omega
  have hlW : w.heap.size ≤ W.heap.size := hbW.size
  have hlp1 : p1 < W.heap.size := q1.lt
  have hlp2 : p2 < W.heap.size := q2.lt
  have hne12 : p1 ≠ p2 := by omega
  have HP1 := hid hp1
  have HP2 := hid hp2
  have HW := hid hW
  clear hW hp1 hp2
  have hA := h1.below hbW
  have hB := h2.below hbW
  have m10 := q1.cell (j := 0) rfl
  have m11 := q1.cell (j := 1) rfl
  have m20 := q2.cell (j := 0) rfl
  have finish : ∀ (w' : World) (a c : Int), Hid (lwN (n, x) y = a ∧ lwC (n, x) y = c) → Below w.heap.size w w' → Ret (.tuple #[.int .i64 (lwN (n, x) y), .int .i64 (lwC (n, x) y)]) w (.returned (.tuple #[.int .i64 a, .int .i64 c])) w' := by
    intro w' a c hz hb
    rw [hz.out.1, hz.out.2]
    exact ⟨rfl, hb⟩
  have CL := fun w' (hb : Below W.heap.size W w') => l15Ok_any p1 n _ x w' (cell_later hb m10) (cell_later hb m11) (hA.below hb) ok1 g1
  have CX := fun w' (hb : Below W.heap.size W w') => l16Ok_any p2 _ y w' (cell_later hb m20) (hB.below hb) ok2 g2
  cases hv : validLt (n, x)
  · have HZ : Hid (lwN (n, x) y = 0 ∧ lwC (n, x) y = 1) := by show _ ∧ _; simp [lwN, lwC, hv]
    rw [hv] at CL
    go_enter Tryz.func13, Tryz.ntmps13
    go_wp2_with fail
    rw [← HP2.out, ← HP1.out, ← HW.out]
    refine (CL W (Below.refl _ _)).mono ?_
    rintro e w3 ⟨rfl, hb⟩
    go_wp2_with fail
    go_ret2
    exact finish _ _ _ HZ (hbW.trans (hb.mono hlW))
  rw [hv] at CL
  cases hvy : validLx y
  · have HZ : Hid (lwN (n, x) y = 0 ∧ lwC (n, x) y = 1) := by show _ ∧ _; simp [lwN, lwC, hv, hvy]
    rw [hvy] at CX
    go_enter Tryz.func13, Tryz.ntmps13
    go_wp2_with fail
    rw [← HP2.out, ← HP1.out, ← HW.out]
    refine (CL W (Below.refl _ _)).mono ?_
    rintro e w3 ⟨rfl, hb⟩
    have s20 := cell_later hb m20
    go_wp2_with fail
    refine (CX w3 hb).mono ?_
    rintro e w4 ⟨rfl, hb4⟩
    have hb5 := hb.trans (hb4.mono hb.size)
    go_wp2_with fail
    go_ret2
    exact finish _ _ _ HZ (hbW.trans (hb5.mono hlW))
  rw [hvy] at CX
  obtain ⟨n1, n2, x2⟩ := valid_bd hv
  obtain ⟨N, rfl⟩ : ∃ N : Nat, n = N := ⟨n.toNat, by omega⟩
  have CM := fun (j : Nat) w' (hj : j < 30) (hb : Below W.heap.size W w') => l17Loss_any p1 p2 (.slice a1 x.length k1) (.slice a2 y.length k2) N (j + 1) x y w' (cell_later hb m10) (cell_later hb m11) (cell_later hb m20) (hA.below hb) (hB.below hb) ok2 g2 hv hvy (by omega) (by omega)
  have HVV : Hid ((validLt ((N : Int), x) && validLx y) = true) := hid (by rw [hv, hvy]; rfl)
  have HCM := hid CM
  clear CM
  go_enter Tryz.func13, Tryz.ntmps13
  go_wp2_with fail
  rw [← HP2.out, ← HP1.out, ← HW.out]
  refine (CL W (Below.refl _ _)).mono ?_
  rintro e w3 ⟨rfl, hb⟩
  have s20 := cell_later hb m20
  go_wp2_with fail
  refine (CX w3 hb).mono ?_
  rintro e w4 ⟨rfl, hb4⟩
  have hb5 := hb.trans (hb4.mono hb.size)
  clear hv hvy s20
  go_wp2_with fail
  go_loopw [6] (fun i wr => ∃ j : Nat, j ≤ 30 ∧ i = .int .i64 ((j : Int) + 1) ∧ Below W.heap.size W wr ∧ Hid (∀ i, i < j → lossB ((N : Int), x) y ((i + 1 : Nat) : Int) ≠ 0)) (fun i _ => 31 - (intOf i).toNat)
  case atStart => exact ⟨0, by omega, rfl, hb5, hid (fun i hi => by omega)⟩
  case round =>
    clear hb5 hb hb4
    obtain ⟨j, hj, rfl, hb, HALL⟩ := hrel
    have hbr := hb
    have CM := HCM.out
    by_cases hj30 : j < 30
    · have hji : (j : Int) + 1 ≤ 30 := by omega
      have HJ : Hid ((((j + 1 : Nat) : Int)) = (j : Int) + 1) := hid (by push_cast; rfl)
      have CMJ := CM j wr hj30 hbr
      generalize hls : lossB ((N : Int), x) y ((j + 1 : Nat) : Int) = ls at CMJ
      rw [show ((j + 1 : Nat) : Int) = (j : Int) + 1 from by push_cast; rfl] at CMJ
      have HLS := hid hls
      clear hls
      by_cases h0 : ls = 0
      · subst h0
        have HF : Hid (lwN ((N : Int), x) y = (j : Int) + 1 ∧ lwC ((N : Int), x) y = 0) := hid (by
          have h9 := lwO_at hj30 HALL.out HLS.out
          unfold lwN lwC
          rw [HVV.out]
          simp [h9])
        go_wp2_with fail
        refine CMJ.mono ?_
        rintro e w6 ⟨rfl, hb6⟩
        go_wp2_with fail
        go_ret2
        exact finish _ _ _ HF (hbW.trans ((hbr.trans (hb6.mono hbr.size)).mono hlW))
      · have h0d : (ls == 0) = false := by simpa using h0
        have HN : Hid (∀ i, i < j + 1 → lossB ((N : Int), x) y ((i + 1 : Nat) : Int) ≠ 0) := hid (by
          intro i hi
          by_cases e : i = j
          · subst e; rw [HLS.out]; exact h0
          · exact HALL.out i (by omega))
        go_wp2_with fail
        refine CMJ.mono ?_
        rintro e w6 ⟨rfl, hb6⟩
        go_wp2_with fail
        go_roundw
        case rel => exact ⟨j + 1, by omega, by go_num, hb.trans (hb6.mono hb.size), HN⟩
        case measure => simp [intOf]; omega
    · have hjd : ¬ ((j : Int) + 1 ≤ 30) := by omega
      have HF : Hid (lwN ((N : Int), x) y = 0 ∧ lwC ((N : Int), x) y = 3) := hid (by
        have h9 := lwO_all fun i hi => HALL.out i (by omega)
        unfold lwN lwC
        rw [HVV.out]
        simp [h9])
      go_wp2_with fail
      go_ret2
      exact finish _ _ _ HF (hbW.trans (hbr.mono hlW))
set_option maxHeartbeats 4000000 in
set_option maxRecDepth 100000 in
theorem implLeastWidth_any (v1 : Value) (x : XLattice) (v2 : Value) (y : XLexicon) (w : World) {lo1 hi1 lo2 hi2 : Nat} (h1 : rLattice.at_ lo1 hi1 w v1 x) (h2 : rLexicon.at_ lo2 hi2 w v2 y) (ok1 : okLattice x) (ok2 : okLexicon y) (g1 : goodLattice x) (g2 : goodLexicon y) :
    Calls Tryz.prog 14 #[v1, v2] w (Ret (.tuple #[.int .i64 (lwN x y), .int .i64 (lwC x y)]) w) := by
  obtain ⟨u1, rfl, h1⟩ := h1
  obtain ⟨u2, rfl, h2⟩ := h2
  replace h1 := ArrIn.arr h1
  replace h2 := ArrIn.arr h2
  obtain ⟨n, x⟩ := x
  obtain ⟨a1, k1, hu⟩ := h1.isSlice
  subst hu
  obtain ⟨a2, k2, hu⟩ := h2.isSlice
  subst hu
  simp only at h1
  obtain ⟨W, hW⟩ : ∃ u, u = ((w.alloc (.cells #[.int .i64 n, .slice a1 x.length k1] 34)).alloc (.cells #[.slice a2 y.length k2] 38)) := ⟨_, rfl⟩
  have hbW : Below w.heap.size w W := by rw [hW]; exact belowA2 _ _ _
  have q1 : Box W (w.heap.size) #[.int .i64 n, .slice a1 x.length k1] 34 := by
    have hq := Box.new w #[.int .i64 n, .slice a1 x.length k1] 34
    rw [hW]
    exact (hq.alloc _)
  have q2 : Box W (w.heap.size + 1) #[.slice a2 y.length k2] 38 := by
    have hq := Box.new (w.alloc (.cells #[.int .i64 n, .slice a1 x.length k1] 34)) #[.slice a2 y.length k2] 38
    simp at hq
    rw [hW]
    exact hq
  obtain ⟨p1, hp1⟩ : ∃ p, p = w.heap.size := ⟨_, rfl⟩
  rw [← hp1] at q1
  have hge1 : w.heap.size ≤ p1 := by omega
  obtain ⟨p2, hp2⟩ : ∃ p, p = w.heap.size + 1 := ⟨_, rfl⟩
  rw [← hp2] at q2
  have hge2 : w.heap.size ≤ p2 := by omega
  have hlW : w.heap.size ≤ W.heap.size := hbW.size
  have hlp1 : p1 < W.heap.size := q1.lt
  have hlp2 : p2 < W.heap.size := q2.lt
  have hne12 : p1 ≠ p2 := by omega
  have HP1 := hid hp1
  have HP2 := hid hp2
  have HW := hid hW
  clear hW hp1 hp2
  have hA := h1.below hbW
  have hB := h2.below hbW
  have m10 := q1.cell (j := 0) rfl
  have m11 := q1.cell (j := 1) rfl
  have m20 := q2.cell (j := 0) rfl
  have finish : ∀ (w' : World) (a c : Int), Hid (lwN (n, x) y = a ∧ lwC (n, x) y = c) → Below w.heap.size w w' → Ret (.tuple #[.int .i64 (lwN (n, x) y), .int .i64 (lwC (n, x) y)]) w (.returned (.tuple #[.int .i64 a, .int .i64 c])) w' := by
    intro w' a c hz hb
    rw [hz.out.1, hz.out.2]
    exact ⟨rfl, hb⟩
  have CL := fun w' (hb : Below W.heap.size W w') => implValidLattice_any _ (n, x) w' (show rLattice.at_ 0 w'.heap.size w' (.agg #[.int .i64 n, .slice a1 x.length k1]) (n, x) from ⟨_, rfl, (hA.below hb).in_⟩) ok1 g1
  have CX := fun w' (hb : Below W.heap.size W w') => implValidLexicon_any _ y w' (show rLexicon.at_ 0 w'.heap.size w' (.agg #[.slice a2 y.length k2]) y from ⟨_, rfl, (hB.below hb).in_⟩) ok2 g2
  cases hv : validLt (n, x)
  · have HZ : Hid (lwN (n, x) y = 0 ∧ lwC (n, x) y = 1) := by show _ ∧ _; simp [lwN, lwC, hv]
    rw [hv] at CL
    go_enter Tryz.func14, Tryz.ntmps14
    go_wp2_with fail
    rw [← HP2.out, ← HP1.out, ← HW.out]
    refine (CL W (Below.refl _ _)).mono ?_
    rintro e w3 ⟨rfl, hb⟩
    go_wp2_with fail
    go_ret2
    exact finish _ _ _ HZ (hbW.trans (hb.mono hlW))
  rw [hv] at CL
  cases hvy : validLx y
  · have HZ : Hid (lwN (n, x) y = 0 ∧ lwC (n, x) y = 1) := by show _ ∧ _; simp [lwN, lwC, hv, hvy]
    rw [hvy] at CX
    go_enter Tryz.func14, Tryz.ntmps14
    go_wp2_with fail
    rw [← HP2.out, ← HP1.out, ← HW.out]
    refine (CL W (Below.refl _ _)).mono ?_
    rintro e w3 ⟨rfl, hb⟩
    have s20 := cell_later hb m20
    go_wp2_with fail
    refine (CX w3 hb).mono ?_
    rintro e w4 ⟨rfl, hb4⟩
    have hb5 := hb.trans (hb4.mono hb.size)
    go_wp2_with fail
    go_ret2
    exact finish _ _ _ HZ (hbW.trans (hb5.mono hlW))
  rw [hvy] at CX
  obtain ⟨n1, n2, x2⟩ := valid_bd hv
  obtain ⟨N, rfl⟩ : ∃ N : Nat, n = N := ⟨n.toNat, by omega⟩
  have CM := fun (j : Nat) w' (_ : j < 30) (hb : Below W.heap.size W w') => implBeamLoss_any (.agg #[.int .i64 N, .slice a1 x.length k1]) ((N : Int), x) (.agg #[.slice a2 y.length k2]) y ((j + 1 : Nat) : Int) w' (show rLattice.at_ 0 w'.heap.size w' _ ((N : Int), x) from ⟨_, rfl, (hA.below hb).in_⟩) (show rLexicon.at_ 0 w'.heap.size w' _ y from ⟨_, rfl, (hB.below hb).in_⟩) ok1 ok2 g1 g2
  have HVV : Hid ((validLt ((N : Int), x) && validLx y) = true) := hid (by rw [hv, hvy]; rfl)
  have HCM := hid CM
  clear CM
  go_enter Tryz.func14, Tryz.ntmps14
  go_wp2_with fail
  rw [← HP2.out, ← HP1.out, ← HW.out]
  refine (CL W (Below.refl _ _)).mono ?_
  rintro e w3 ⟨rfl, hb⟩
  have s20 := cell_later hb m20
  go_wp2_with fail
  refine (CX w3 hb).mono ?_
  rintro e w4 ⟨rfl, hb4⟩
  have hb5 := hb.trans (hb4.mono hb.size)
  clear hv hvy s20
  go_wp2_with fail
  go_loopw [6] (fun i wr => ∃ j : Nat, j ≤ 30 ∧ i = .int .i64 ((j : Int) + 1) ∧ Below W.heap.size W wr ∧ Hid (∀ i, i < j → lossB ((N : Int), x) y ((i + 1 : Nat) : Int) ≠ 0)) (fun i _ => 31 - (intOf i).toNat)
  case atStart => exact ⟨0, by omega, rfl, hb5, hid (fun i hi => by omega)⟩
  case round =>
    clear hb5 hb hb4
    obtain ⟨j, hj, rfl, hb, HALL⟩ := hrel
    have hbr := hb
    have CM := HCM.out
    by_cases hj30 : j < 30
    · have hji : (j : Int) + 1 ≤ 30 := by omega
      have CMJ := CM j wr hj30 hbr
      have hcode : codeB ((N : Int), x) y ((j + 1 : Nat) : Int) = 0 := by unfold codeB; rw [HVV.out, if_pos rfl, if_pos (inB_true.2 ⟨by omega, by omega⟩)]
      obtain ⟨a, ha⟩ : ∃ a, a = lsN ((N : Int), x) y ((j + 1 : Nat) : Int) := ⟨_, rfl⟩
      obtain ⟨c, hc⟩ : ∃ c, c = lsC ((N : Int), x) y ((j + 1 : Nat) : Int) := ⟨_, rfl⟩
      have HLS : Hid ((c = 0 ∧ a = 0) ↔ lossB ((N : Int), x) y ((j + 1 : Nat) : Int) = 0) := hid (by
        rw [ha, hc]
        unfold lsN lsC
        rw [if_pos hcode, if_pos hcode]
        by_cases hneg : lossB ((N : Int), x) y ((j + 1 : Nat) : Int) < 0
        · rw [if_pos hneg, if_pos hneg]; omega
        · rw [if_neg hneg, if_neg hneg]; omega)
      rw [← ha, ← hc] at CMJ
      rw [show ((j + 1 : Nat) : Int) = (j : Int) + 1 from by push_cast; rfl] at CMJ
      have s10 := cell_later hbr m10
      have s11 := cell_later hbr m11
      have s20 := cell_later hbr m20
      clear ha hc hcode
      by_cases hc0 : c = 0
      · by_cases ha0 : a = 0
        · have HF : Hid (lwN ((N : Int), x) y = (j : Int) + 1 ∧ lwC ((N : Int), x) y = 0) := hid (by
            have h9 := lwO_at hj30 HALL.out (HLS.out.1 ⟨hc0, ha0⟩)
            unfold lwN lwC
            rw [HVV.out]
            simp [h9])
          subst hc0 ha0
          go_wp2_with fail
          refine CMJ.mono ?_
          rintro e w6 ⟨rfl, hb6⟩
          go_wp2_with fail
          go_ret2
          exact finish _ _ _ HF (hbW.trans ((hbr.trans (hb6.mono hbr.size)).mono hlW))
        · have had : (a == 0) = false := by simpa using ha0
          have HN : Hid (∀ i, i < j + 1 → lossB ((N : Int), x) y ((i + 1 : Nat) : Int) ≠ 0) := hid (by
            intro i hi
            by_cases e : i = j
            · subst e; exact fun h => ha0 (HLS.out.2 h).2
            · exact HALL.out i (by omega))
          subst hc0
          go_wp2_with fail
          refine CMJ.mono ?_
          rintro e w6 ⟨rfl, hb6⟩
          go_wp2_with fail
          go_roundw
          case rel => exact ⟨j + 1, by omega, by go_num, hb.trans (hb6.mono hb.size), HN⟩
          case measure => simp [intOf]; omega
      · have hcd : (c == 0) = false := by simpa using hc0
        have HN : Hid (∀ i, i < j + 1 → lossB ((N : Int), x) y ((i + 1 : Nat) : Int) ≠ 0) := hid (by
          intro i hi
          by_cases e : i = j
          · subst e; exact fun h => hc0 (HLS.out.2 h).1
          · exact HALL.out i (by omega))
        go_wp2_with fail
        refine CMJ.mono ?_
        rintro e w6 ⟨rfl, hb6⟩
        go_wp2_with fail
        go_roundw
        case rel => exact ⟨j + 1, by omega, by go_num, hb.trans (hb6.mono hb.size), HN⟩
        case measure => simp [intOf]; omega
    · have hjd : ¬ ((j : Int) + 1 ≤ 30) := by omega
      have HF : Hid (lwN ((N : Int), x) y = 0 ∧ lwC ((N : Int), x) y = 3) := hid (by
        have h9 := lwO_all fun i hi => HALL.out i (by omega)
        unfold lwN lwC
        rw [HVV.out]
        simp [h9])
      go_wp2_with fail
      go_ret2
      exact finish _ _ _ HF (hbW.trans (hbr.mono hlW))
end Go.Proofs.YtnhmailnnggmjabGreat
