/- BeamText: both calls. -/
import Derived.Test.YtcikndmmbfompaaGreatDoorRdLoss2
import Derived.Test.YtcikndmmbfompaaGreatDoorTxBld
import Derived.Deep.Cut
import Derived.BigQuiet
namespace Go.Proofs.YtcikndmmbfompaaGreatDoor
open Go.RowKit

def bmS (x : XLattice) (y : XLexicon) (k : Int) : ByteArray := if codeB x y k = 0 then (match bwO x y k with | some f => f.word ++ ⟨#[32]⟩ ++ decS (lossB x y k) | none => ⟨#[110, 111, 110, 101]⟩) else ⟨#[]⟩
theorem bm_bad {x : XLattice} {y : XLexicon} {k : Int} (h : ¬ codeB x y k = 0) : bmS x y k = ⟨#[]⟩ := by unfold bmS; rw [if_neg h]
theorem bm_none {x : XLattice} {y : XLexicon} {k : Int} (h : codeB x y k = 0) (ho : bwO x y k = none) : bmS x y k = ⟨#[110, 111, 110, 101]⟩ := by unfold bmS; rw [if_pos h, ho]
theorem bm_some {x : XLattice} {y : XLexicon} {k : Int} {f : DFound} (h : codeB x y k = 0) (ho : bwO x y k = some f) : bmS x y k = f.word ++ ⟨#[32]⟩ ++ decS (lossB x y k) := by unfold bmS; rw [if_pos h, ho]
theorem entW_ok {x : XLexicon} (h : validLx x = true) {e : DEntry} (he : e ∈ x) : e.word.size ≤ 10 := by
  obtain ⟨k, hk⟩ := List.getElem?_of_mem he
  cases hb : entOk x k e with
  | false => rw [validLx_at hk hb] at h; cases h
  | true =>
    unfold entOk at hb
    rw [Bool.and_eq_true, Bool.and_eq_true, inB_true] at hb
    have h1 := hb.1.1
    unfold isWordB at h1
    simp only [Bool.and_eq_true, inB_true] at h1
    omega
theorem bwO_word {x : XLattice} {y : XLexicon} {k : Int} {f : DFound} (hvy : validLx y = true) (h : bwO x y k = some f) : f.word.size ≤ 10 := by
  obtain ⟨r, hr, e, he, hw, rfl⟩ := fnd_of (minL_mem h)
  have := entW_ok hvy he
  rw [← hw] at this
  exact this
set_option maxHeartbeats 4000000 in
set_option maxRecDepth 100000 in
theorem implBeamText_any (v1 : Value) (x : XLattice) (v2 : Value) (y : XLexicon) (k : Int) (w : World) {lo1 hi1 lo2 hi2 : Nat} (h1 : rLattice.at_ lo1 hi1 w v1 x) (h2 : rLexicon.at_ lo2 hi2 w v2 y) (ok1 : okLattice x) (ok2 : okLexicon y) (g1 : goodLattice x) (g2 : goodLexicon y) (ht : TabL w) :
    Calls Tryz.prog 9 #[v1, v2, .int .i64 k] w (Ret (.string (bmS x y k)) w) := by
  obtain ⟨u1, rfl, h1⟩ := h1
  obtain ⟨u2, rfl, h2⟩ := h2
  replace h1 := ArrIn.arr h1
  replace h2 := ArrIn.arr h2
  obtain ⟨n, x⟩ := x
  obtain ⟨a1, k1, hu⟩ := h1.isSlice
  subst hu
  obtain ⟨a2, k2, hu⟩ := h2.isSlice
  subst hu
  simp only at h1
  obtain ⟨W, hW⟩ : ∃ u, u = ((w.alloc (.cells #[.int .i64 n, .slice a1 x.length k1] 33)).alloc (.cells #[.slice a2 y.length k2] 37)) := ⟨_, rfl⟩
  have hbW : Below w.heap.size w W := by rw [hW]; exact belowA2 _ _ _
  have q1 : Box W (w.heap.size) #[.int .i64 n, .slice a1 x.length k1] 33 := by
    have hq := Box.new w #[.int .i64 n, .slice a1 x.length k1] 33
    rw [hW]
    exact (hq.alloc _)
  have q2 : Box W (w.heap.size + 1) #[.slice a2 y.length k2] 37 := by
    have hq := Box.new (w.alloc (.cells #[.int .i64 n, .slice a1 x.length k1] 33)) #[.slice a2 y.length k2] 37
    simp at hq
    rw [hW]
    exact hq
  obtain ⟨p1, hp1⟩ : ∃ p, p = w.heap.size := ⟨_, rfl⟩
  rw [← hp1] at q1
  have hge1 : w.heap.size ≤ p1 := by omega
  obtain ⟨p2, hp2⟩ : ∃ p, p = w.heap.size + 1 := ⟨_, rfl⟩
  rw [← hp2] at q2
  have hge2 : w.heap.size ≤ p2 := by omega
  have hlW : w.heap.size ≤ W.heap.size := hbW.size
  have hlp1 : p1 < W.heap.size := q1.lt
  have hlp2 : p2 < W.heap.size := q2.lt
  have hne12 : p1 ≠ p2 := by omega
  have HP1 := hid hp1
  have HP2 := hid hp2
  have HW := hid hW
  clear hW hp1 hp2
  have htW := ht.below hbW
  have hA := h1.below hbW
  have hB := h2.below hbW
  have m10 := q1.cell (j := 0) rfl
  have m11 := q1.cell (j := 1) rfl
  have m20 := q2.cell (j := 0) rfl
  have CB := beamable_any (.agg #[.int .i64 n, .slice a1 x.length k1]) (n, x) (.agg #[.slice a2 y.length k2]) y k W (show rLattice.at_ 0 W.heap.size W _ (n, x) from ⟨_, rfl, hA.in_⟩) (show rLexicon.at_ 0 W.heap.size W _ y from ⟨_, rfl, hB.in_⟩) ok1 ok2 g1 g2
  rcases Decidable.em (¬ codeB (n, x) y k = 0) with hcb | hcb
  · have HZ : Hid (bmS (n, x) y k = ⟨#[]⟩) := hid (bm_bad hcb)
    obtain ⟨cb, hcbd⟩ : ∃ cb, cb = codeB (n, x) y k := ⟨_, rfl⟩
    rw [← hcbd] at CB hcb
    have hcd : (cb == 0) = false := by simpa using hcb
    clear hcbd
    go_enter Tryz.func9, Tryz.ntmps9
    go_wp2_with fail
    rw [← HP2.out, ← HP1.out, ← HW.out]
    refine CB.mono ?_
    rintro e w3 ⟨rfl, hb⟩
    go_wp2_with fail
    go_ret
    exact ⟨by rw [HZ.out]; rfl, hbW.trans (hb.mono hlW)⟩
  · replace hcb := Decidable.not_not.1 hcb
    rw [hcb] at CB
    obtain ⟨hv, hvy, kk1, kk2⟩ := codeB_0 hcb
    obtain ⟨b1, b2, b3⟩ := valid_bd hv
    obtain ⟨N, rfl⟩ : ∃ N : Nat, n = N := ⟨n.toNat, by omega⟩
    obtain ⟨m, rfl⟩ : ∃ m : Nat, k = m := ⟨k.toNat, by omega⟩
    obtain ⟨o, ho⟩ : ∃ o, bwO ((N : Int), x) y m = o := ⟨_, rfl⟩
    have CM := fun w' (hb : Below W.heap.size W w') => beamWord_any (.agg #[.int .i64 N, .slice a1 x.length k1]) (.agg #[.slice a2 y.length k2]) N m x y w' (show rLattice.at_ 0 w'.heap.size w' _ ((N : Int), x) from ⟨_, rfl, (hA.below hb).in_⟩) (show rLexicon.at_ 0 w'.heap.size w' _ y from ⟨_, rfl, (hB.below hb).in_⟩) ok2 g2 hv (sorted_of_valid hvy) (by omega) (by omega) o ho
    cases o with
    | none =>
      have HZ : Hid (bmS ((N : Int), x) y m = ⟨#[110, 111, 110, 101]⟩) := hid (bm_none hcb ho)
      simp only [Option.getD_none, Option.isSome_none] at CM
      clear hcb ho
      go_enter Tryz.func9, Tryz.ntmps9
      go_wp2_with fail
      rw [← HP2.out, ← HP1.out, ← HW.out]
      refine CB.mono ?_
      rintro e w3 ⟨rfl, hb⟩
      have s10 := cell_later hb m10
      have s11 := cell_later hb m11
      have s20 := cell_later hb m20
      go_wp2_with fail
      refine (CM w3 hb).mono ?_
      rintro e w4 ⟨rfl, hb4⟩
      have hb5 := hb.trans (hb4.mono hb.size)
      clear m10 m11 m20 s10 s11 s20
      unfold vF
      go_wp2_with fail
      go_ret
      exact ⟨by rw [HZ.out]; rfl, hbW.trans ((base1 hb5).mono hlW)⟩
    | some f =>
      obtain ⟨b, t, hF, hL, hle, f0, f1, f2, f3, g0, g1', g2', g3⟩ := loss_some hv hvy ho
      have hge := loss_ge hv hvy ho
      have hfw := bwO_word hvy ho
      have hls : lsN ((N : Int), x) y m = lossB ((N : Int), x) y m := by unfold lsN; rw [if_pos hcb, if_neg (by omega)]
      have HZ : Hid (bmS ((N : Int), x) y m = f.word ++ ⟨#[32]⟩ ++ decS (lossB ((N : Int), x) y m)) := hid (bm_some hcb ho)
      have CL := fun w' (hb : Below W.heap.size W w') => implBeamLoss_any (.agg #[.int .i64 N, .slice a1 x.length k1]) ((N : Int), x) (.agg #[.slice a2 y.length k2]) y m w' (show rLattice.at_ 0 w'.heap.size w' _ ((N : Int), x) from ⟨_, rfl, (hA.below hb).in_⟩) (show rLexicon.at_ 0 w'.heap.size w' _ y from ⟨_, rfl, (hB.below hb).in_⟩) ok1 ok2 g1 g2
      have hlo : okN (lossB ((N : Int), x) y m) := by unfold okN; omega
      rw [hls] at CL
      generalize lossB ((N : Int), x) y m = ls at CL HZ hlo
      generalize lsC ((N : Int), x) y m = lc at CL
      have hz1 := decS_size hlo
      have y1 : ¬ (9223372036854775807 < f.word.size + 1) := by omega
      have y2 : ¬ (9223372036854775807 < f.word.size + 1 + (decS ls).size) := by omega
      have HO := hid hlo
      simp only [Option.getD_some, Option.isSome_some] at CM
      clear hcb ho hF hL hge hls hle f0 f1 f2 f3 g0 g1' g2' g3 hlo
      go_enter Tryz.func9, Tryz.ntmps9
      go_wp2_with fail
      rw [← HP2.out, ← HP1.out, ← HW.out]
      refine CB.mono ?_
      rintro e w3 ⟨rfl, hb⟩
      have s10 := cell_later hb m10
      have s11 := cell_later hb m11
      have s20 := cell_later hb m20
      go_wp2_with fail
      refine (CM w3 hb).mono ?_
      rintro e w4 ⟨rfl, hb4⟩
      have hb45 := hb.trans (hb4.mono hb.size)
      obtain ⟨w5, hw5⟩ : ∃ w5, w5 = w4.alloc (.cells #[.string f.word, .int .i64 f.path, .int .i64 f.own_] 48) := ⟨_, rfl⟩
      have hb35 : Below w4.heap.size w4 w5 := by rw [hw5]; exact below_alloc _ _
      obtain ⟨pf, hpf⟩ : ∃ pf, pf = w4.heap.size := ⟨_, rfl⟩
      have bF : Box w5 pf #[.string f.word, .int .i64 f.path, .int .i64 f.own_] 48 := by rw [hw5, hpf]; exact Box.new _ _ _
      have hb5 : Below W.heap.size W w5 := hb45.trans (hb35.mono hb45.size)
      have e10 := cell_alloc (cell_later hb45 m10) (.cells #[.string f.word, .int .i64 f.path, .int .i64 f.own_] 48)
      have e11 := cell_alloc (cell_later hb45 m11) (.cells #[.string f.word, .int .i64 f.path, .int .i64 f.own_] 48)
      have e20 := cell_alloc (cell_later hb45 m20) (.cells #[.string f.word, .int .i64 f.path, .int .i64 f.own_] 48)
      have HW5 := hid hw5
      have HPF := hid hpf
      clear hw5 hpf s10 s11 s20
      unfold vF
      go_wp2_with fail
      rw [← HW5.out]
      try rw [← HPF.out]
      refine (CL w5 hb5).mono ?_
      rintro e w6 ⟨rfl, hb6⟩
      have hb7 := hb5.trans (hb6.mono hb5.size)
      have z0 := ext_cell ((bF.later hb6).cell (j := 0) rfl)
      have ht6 := htW.below hb7
      clear m10 m11 m20 e10 e11 e20 CB CM CL
      go_wp2_with fail
      refine wp_region_ext (by kernel_rfl) (by kernel_rfl) ?_
      repeat (go_big_quiet_step (((go_at_call 23; exact ret_ext (Decimal_any _ _ HO.out (ht6.below (ext_below w6 _)))))))
      refine wpQuiet_nil ?_
      intro _ hw'
      obtain ⟨nq, hw''⟩ := hw'
      subst hw''
      go_wp2_with fail
      go_ret
      exact ⟨by rw [HZ.out]; rfl, hbW.trans ((hb7.trans ((ext_below w6 nq).mono hb7.size)).mono hlW)⟩
set_option maxHeartbeats 4000000 in
set_option maxRecDepth 100000 in
theorem specBeamText_any (v1 : Value) (x : XLattice) (v2 : Value) (y : XLexicon) (k : Int) (w : World) {lo1 hi1 lo2 hi2 : Nat} (h1 : rLattice.at_ lo1 hi1 w v1 x) (h2 : rLexicon.at_ lo2 hi2 w v2 y) (ok1 : okLattice x) (ok2 : okLexicon y) (g1 : goodLattice x) (g2 : goodLexicon y) (_ : TabL w) :
    Calls Tryz.prog 6 #[v1, v2, .int .i64 k] w (Ret (.string (bmS x y k)) w) := by
  obtain ⟨u1, rfl, h1⟩ := h1
  obtain ⟨u2, rfl, h2⟩ := h2
  replace h1 := ArrIn.arr h1
  replace h2 := ArrIn.arr h2
  obtain ⟨n, x⟩ := x
  obtain ⟨a1, k1, hu⟩ := h1.isSlice
  subst hu
  obtain ⟨a2, k2, hu⟩ := h2.isSlice
  subst hu
  simp only at h1
  obtain ⟨W, hW⟩ : ∃ u, u = ((w.alloc (.cells #[.int .i64 n, .slice a1 x.length k1] 33)).alloc (.cells #[.slice a2 y.length k2] 37)) := ⟨_, rfl⟩
  have hbW : Below w.heap.size w W := by rw [hW]; exact belowA2 _ _ _
  have q1 : Box W (w.heap.size) #[.int .i64 n, .slice a1 x.length k1] 33 := by
    have hq := Box.new w #[.int .i64 n, .slice a1 x.length k1] 33
    rw [hW]
    exact (hq.alloc _)
  have q2 : Box W (w.heap.size + 1) #[.slice a2 y.length k2] 37 := by
    have hq := Box.new (w.alloc (.cells #[.int .i64 n, .slice a1 x.length k1] 33)) #[.slice a2 y.length k2] 37
    simp at hq
    rw [hW]
    exact hq
  obtain ⟨p1, hp1⟩ : ∃ p, p = w.heap.size := ⟨_, rfl⟩
  rw [← hp1] at q1
  have hge1 : w.heap.size ≤ p1 := by omega
  obtain ⟨p2, hp2⟩ : ∃ p, p = w.heap.size + 1 := ⟨_, rfl⟩
  rw [← hp2] at q2
  have hge2 : w.heap.size ≤ p2 := by omega
  have hlW : w.heap.size ≤ W.heap.size := hbW.size
  have hlp1 : p1 < W.heap.size := q1.lt
  have hlp2 : p2 < W.heap.size := q2.lt
  have hne12 : p1 ≠ p2 := by omega
  have HP1 := hid hp1
  have HP2 := hid hp2
  have HW := hid hW
  clear hW hp1 hp2
  have hA := h1.below hbW
  have hB := h2.below hbW
  have m10 := q1.cell (j := 0) rfl
  have m11 := q1.cell (j := 1) rfl
  have m20 := q2.cell (j := 0) rfl
  have CB := l17Code_any p1 p2 n (.slice a1 x.length k1) (.slice a2 y.length k2) x y k W m10 m11 m20 hA hB ok1 g1 ok2 g2
  rcases Decidable.em (¬ codeB (n, x) y k = 0) with hcb | hcb
  · have HZ : Hid (bmS (n, x) y k = ⟨#[]⟩) := hid (bm_bad hcb)
    obtain ⟨cb, hcbd⟩ : ∃ cb, cb = codeB (n, x) y k := ⟨_, rfl⟩
    rw [← hcbd] at CB hcb
    have hcd : (cb == 0) = false := by simpa using hcb
    clear hcbd
    go_enter Tryz.func6, Tryz.ntmps6
    go_wp2_with fail
    rw [← HP2.out, ← HP1.out, ← HW.out]
    refine CB.mono ?_
    rintro e w3 ⟨rfl, hb⟩
    go_wp2_with fail
    go_ret
    exact ⟨by rw [HZ.out]; rfl, hbW.trans (hb.mono hlW)⟩
  · replace hcb := Decidable.not_not.1 hcb
    rw [hcb] at CB
    obtain ⟨hv, hvy, kk1, kk2⟩ := codeB_0 hcb
    obtain ⟨b1, b2, b3⟩ := valid_bd hv
    obtain ⟨N, rfl⟩ : ∃ N : Nat, n = N := ⟨n.toNat, by omega⟩
    obtain ⟨m, rfl⟩ : ∃ m : Nat, k = m := ⟨k.toNat, by omega⟩
    obtain ⟨o, ho⟩ : ∃ o, bwO ((N : Int), x) y m = o := ⟨_, rfl⟩
    have CM := fun w' (hb : Below W.heap.size W w') => l17Word_any p1 p2 (.slice a1 x.length k1) (.slice a2 y.length k2) N m x y w' (cell_later hb m10) (cell_later hb m11) (cell_later hb m20) (hA.below hb) (hB.below hb) ok2 g2 hv (by omega) (by omega) o ho
    cases o with
    | none =>
      have HZ : Hid (bmS ((N : Int), x) y m = ⟨#[110, 111, 110, 101]⟩) := hid (bm_none hcb ho)
      simp only [Option.getD_none, Option.isSome_none] at CM
      clear hcb ho
      go_enter Tryz.func6, Tryz.ntmps6
      go_wp2_with fail
      rw [← HP2.out, ← HP1.out, ← HW.out]
      refine CB.mono ?_
      rintro e w3 ⟨rfl, hb⟩
      go_wp2_with fail
      refine (CM w3 hb).mono ?_
      rintro e w4 ⟨rfl, hb4⟩
      have hb5 := hb.trans (hb4.mono hb.size)
      clear m10 m11 m20
      unfold vF
      go_wp2_with fail
      go_ret
      exact ⟨by rw [HZ.out]; rfl, hbW.trans ((base1 hb5).mono hlW)⟩
    | some f =>
      obtain ⟨b, t, hF, hL, hle, f0, f1, f2, f3, g0, g1', g2', g3⟩ := loss_some hv hvy ho
      have hfw := bwO_word hvy ho
      have HZ : Hid (bmS ((N : Int), x) y m = f.word ++ ⟨#[32]⟩ ++ decS (lossB ((N : Int), x) y m)) := hid (bm_some hcb ho)
      have CL := fun w' (hb : Below W.heap.size W w') => l17Loss_any p1 p2 (.slice a1 x.length k1) (.slice a2 y.length k2) N m x y w' (cell_later hb m10) (cell_later hb m11) (cell_later hb m20) (hA.below hb) (hB.below hb) ok2 g2 hv hvy (by omega) (by omega)
      have hlo : okN (lossB ((N : Int), x) y m) := by unfold okN; omega
      generalize lossB ((N : Int), x) y m = ls at CL HZ hlo
      have hz1 := decS_size hlo
      have y1 : ¬ (9223372036854775807 < f.word.size + 1) := by omega
      have y2 : ¬ (9223372036854775807 < f.word.size + 1 + (decS ls).size) := by omega
      have HO := hid hlo
      simp only [Option.getD_some, Option.isSome_some] at CM
      clear hcb ho hF hL hle f0 f1 f2 f3 g0 g1' g2' g3 hlo
      go_enter Tryz.func6, Tryz.ntmps6
      go_wp2_with fail
      rw [← HP2.out, ← HP1.out, ← HW.out]
      refine CB.mono ?_
      rintro e w3 ⟨rfl, hb⟩
      go_wp2_with fail
      refine (CM w3 hb).mono ?_
      rintro e w4 ⟨rfl, hb4⟩
      have hb45 := hb.trans (hb4.mono hb.size)
      obtain ⟨w5, hw5⟩ : ∃ w5, w5 = w4.alloc (.cells #[.string f.word, .int .i64 f.path, .int .i64 f.own_] 48) := ⟨_, rfl⟩
      have hb35 : Below w4.heap.size w4 w5 := by rw [hw5]; exact below_alloc _ _
      obtain ⟨pf, hpf⟩ : ∃ pf, pf = w4.heap.size := ⟨_, rfl⟩
      have bF : Box w5 pf #[.string f.word, .int .i64 f.path, .int .i64 f.own_] 48 := by rw [hw5, hpf]; exact Box.new _ _ _
      have hb5 : Below W.heap.size W w5 := hb45.trans (hb35.mono hb45.size)
      have z0 := ext_cell (bF.cell (j := 0) rfl)
      have HW5 := hid hw5
      have HPF := hid hpf
      clear hw5 hpf m10 m11 m20 CB CM
      unfold vF
      go_wp2_with fail
      rw [← HW5.out]
      try rw [← HPF.out]
      refine wp_region_ext (by kernel_rfl) (by kernel_rfl) ?_
      repeat (go_big_quiet_step ((first | (go_at_call 17; exact ret_ext (CL _ (hb5.trans ((ext_below w5 _).mono hb5.size)))) | (go_at_call 16; exact ret_ext (l01Dec_any _ _ HO.out)))))
      refine wpQuiet_nil ?_
      intro _ hw'
      obtain ⟨nq, hw''⟩ := hw'
      subst hw''
      go_wp2_with fail
      go_ret
      exact ⟨by rw [HZ.out]; rfl, hbW.trans ((hb5.trans ((ext_below w5 nq).mono hb5.size)).mono hlW)⟩
end Go.Proofs.YtcikndmmbfompaaGreatDoor
