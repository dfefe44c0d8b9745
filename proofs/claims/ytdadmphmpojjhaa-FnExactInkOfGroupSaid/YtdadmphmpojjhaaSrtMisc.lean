/- slices.reverseRangeOrdered, partialInsertionSortOrdered (of few elements), order2Ordered, medianOrdered, choosePivotOrdered at int64. -/
import Derived.Test.YtdadmphmpojjhaaSrtIns
import Derived.Deep.CutBlock
import Derived.Deep.DeepCutAuto
namespace Go.Proofs.Ytdadmphmpojjhaa
open Go.RowKit

set_option maxRecDepth 100000 in
set_option maxHeartbeats 4000000 in
theorem reverseI_any (g o cap a b : Nat) (d : List Int) (w : World) (h : HoldI w g o d) (hab : a < b) (hb : b ≤ d.length) (hd : d.length ≤ 1000000) :
    Calls Try.prog 63 #[.slice (some ⟨g, o, none⟩) d.length cap, .int .i64 a, .int .i64 b] w (fun e w' => e = .returned (.tuple #[]) ∧ ∃ d', HoldI w' g o d' ∧ POn a b d d' ∧ Fr g w w') := by
  have HH := hid h
  clear h
  go_enter Try.func63, Try.ntmps63
  go_wp2_with fail
  go_loopw [6, 7] (fun vi vj wr => ∃ (i j : Nat) (dk : List Int), vi = .int .i64 i ∧ vj = .int .i64 j ∧ a ≤ i ∧ j < b ∧ i ≤ j + 1 ∧ HoldI wr g o dk ∧ POn a b d dk ∧ Fr g w wr) (fun vi vj _ => (intOf vj).toNat + 1 - (intOf vi).toNat)
  case atStart => exact ⟨a, b - 1, d, rfl, by congr 1; omega, Nat.le_refl _, by omega, by omega, HH.out, POn.refl _ _ _, Chg.refl _ _ _⟩
  case round =>
    clear HH
    obtain ⟨i, j, dk, rfl, rfl, hai, hjb, hij, hH, hP, hF⟩ := hrel
    by_cases hlt : i < j
    · have hli : (i : Int) < (j : Int) := by omega
      have hdl := hP.len
      have sI : i < dk.length := by omega
      have sJ : j < dk.length := by omega
      have tI : i < d.length := by omega
      have tJ : j < d.length := by omega
      have s0 := hH.cell i sI
      have s1 := hH.cell j sJ
      have s2 := (hH.set sI (gI dk j)).cell j (by rw [List.length_set]; exact sJ)
      have s3 := hH.free (o + i)
      have s4 := (hH.set sI (gI dk j)).free (o + j)
      have s5 := hH.free (o + j)
      have HH := hid hH
      have HP := hid hP
      have HF := hid hF
      clear hH hP hF hdl
      go_upto_region 3 with fail
      go_cut [6] from 11 to 31 (fun v wx => v = .int .i64 i ∧ HoldI wx g o (swL dk i j) ∧ Fr g w wx)
      case first =>
        go_region
        all_goals go_wp2_with fail
        go_meet
        exact ⟨rfl, (HH.out.drewN _).sw sI sJ, Fr.sw (Fr.drewN HF.out _) _ _ _ _⟩
      case rest =>
      obtain ⟨h8, hH, hF⟩ := hcut
      subst h8
      clear s0 s1 s2 s3 s4 s5
      go_wp2_with fail
      go_roundw
      case rel => exact ⟨i + 1, j - 1, swL dk i j, by go_num, by congr 1; omega, by omega, by omega, by omega, hH, HP.out.trans (POn.sw (by have := HP.out.len; omega) hai (by omega) (by omega) hjb), hF⟩
      case measure => simp [intOf]; omega
    · have hli : ¬ ((i : Int) < (j : Int)) := by omega
      go_wp2_with fail
      go_end0
      exact ⟨rfl, dk, hH, hP, hF⟩
set_option maxRecDepth 100000 in
set_option maxHeartbeats 4000000 in
theorem partialI_any (g o cap a b : Nat) (d : List Int) (w : World) (h : HoldI w g o d) (hab : a < b) (hb : b ≤ d.length) (hd : d.length ≤ 1000000) (hs : b - a < 50) :
    Calls Try.prog 64 #[.slice (some ⟨g, o, none⟩) d.length cap, .int .i64 a, .int .i64 b] w (fun e w' => ∃ c, e = .returned (.bool c) ∧ (c = true → SortOn a b d) ∧ HoldI w' g o d ∧ Fr g w w') := by
  have HH := hid h
  clear h
  have hs50 : (b : Int) - (a : Int) < 50 := by omega
  go_enter Try.func64, Try.ntmps64
  go_wp2_with fail
  go_loopw [7, 8] (fun vi vj wr => vi = .int .i64 ((a : Int) + 1) ∧ vj = .int .i64 0 ∧ wr = w) (fun _ _ _ => 0)
  case atStart => exact ⟨rfl, rfl, rfl⟩
  case round =>
    obtain ⟨rfl, rfl, rfl⟩ := hrel
    go_wp2_with fail
    obtain ⟨wo, rfl⟩ : ∃ x, x = wr := ⟨wr, rfl⟩
    go_loopw [7] (fun vi wr => ∃ k : Nat, vi = .int .i64 k ∧ a < k ∧ k ≤ b ∧ SortOn a k d ∧ HoldI wr g o d ∧ Fr g wo wr) (fun vi _ => b - (intOf vi).toNat)
    case atStart => exact ⟨a + 1, by go_num, by omega, by omega, SortOn.short _ (Nat.le_refl _), HH.out, Chg.refl _ _ _⟩
    case round =>
      obtain ⟨k, rfl, hak, hkb, hS, hH, hF⟩ := hrel
      by_cases hlt : k < b
      · have c0 := hH.cell k (by omega)
        have c1 := hH.cell (k - 1) (by omega)
        have hkd : k < d.length := by omega
        have hk1 : k - 1 < d.length := by omega
        obtain ⟨x, hx⟩ : ∃ x, x = gI d k := ⟨_, rfl⟩
        obtain ⟨y, hy⟩ : ∃ x, x = gI d (k - 1) := ⟨_, rfl⟩
        rw [← hx] at c0
        rw [← hy] at c1
        have HX := hid hx
        have HY := hid hy
        have HS := hid hS
        have hw : IntKind.i64.wrap ((k : Int) - 1) = ((k - 1 : Nat) : Int) := by rw [IntWalk.i64_in _ (by omega)]; omega
        have hli : (k : Int) < (b : Int) := by omega
        have hne : ((k : Int) == (b : Int)) = false := by rw [beq_eq_false_iff_ne]; omega
        clear hx hy hS
        go_wp2_with fail
        go_quiet (first | (go_at_call 65; refine Calls.quiet_of_same ((lessI_any _ _ _).mono fun _ _ h => ⟨h.1, h.2.symm⟩)))
        go_wp2_with fail
        · have hxy : y ≤ x := by first | assumption | omega | (rename_i hq; simpa using hq)
          go_roundw
          case rel =>
            refine ⟨k + 1, by go_num, by omega, by omega, ?_, hH.drewN _, hF.drewN _⟩
            intro p q h1 h2 h3
            by_cases e : q = k
            · subst e
              by_cases e2 : p = q - 1
              · rw [e2, ← HX.out, ← HY.out]; exact hxy
              · have := HS.out p (q - 1) h1 (by omega) (by omega)
                rw [← HY.out] at this
                rw [← HX.out]; omega
            · exact HS.out p q h1 h2 (by omega)
          case measure => simp [intOf]; omega
        · go_wp2_with fail
          go_ret
          exact ⟨false, rfl, fun h => (by cases h), hH.drewN _, hF.drewN _⟩
      · obtain rfl : k = b := by omega
        have hli : decide ((k : Int) < (k : Int)) = false := by simp
        have hne : ((k : Int) == (k : Int)) = true := by simp
        go_wp2_with fail
        go_quiet (first | (go_at_call 65; refine Calls.quiet_of_same ((lessI_any _ _ _).mono fun _ _ h => ⟨h.1, h.2.symm⟩)))
        go_wp2_with fail
        go_ret
        exact ⟨true, rfl, fun _ => hS, hH.drewN _, hF.drewN _⟩
/-- a cell of its own that counts -/
def CntAt (w : World) (s : Nat) : Prop := ∃ n T, Box w s #[.int .i64 n] T
set_option maxRecDepth 100000 in
set_option maxHeartbeats 4000000 in
theorem order2I_any (g o cap a b s : Nat) (d : List Int) (w : World) (h : HoldI w g o d) (ha : a < d.length) (hb : b < d.length) (hs : CntAt w s) (_ : s ≠ g) :
    Calls Try.prog 79 #[.slice (some ⟨g, o, none⟩) d.length cap, .int .i64 a, .int .i64 b, .pointer (some ⟨s, 0, none⟩)] w (fun e w' => ∃ p q : Nat, e = .returned (.tuple #[.int .i64 p, .int .i64 q]) ∧ (p = a ∨ p = b) ∧ (q = a ∨ q = b) ∧ CntAt w' s ∧ Chg s (s + 1) w w') := by
  obtain ⟨n, T, hs⟩ := hs
  have c0 := h.cell a ha
  have c1 := h.cell b hb
  have k0 := hs.cell (j := 0) rfl
  have kf := hs.free
  obtain ⟨x, hx⟩ : ∃ x, x = gI d a := ⟨_, rfl⟩
  obtain ⟨y, hy⟩ : ∃ x, x = gI d b := ⟨_, rfl⟩
  rw [← hx] at c0
  rw [← hy] at c1
  clear hx hy
  go_enter Try.func79, Try.ntmps79
  go_wp2_with fail
  go_quiet (first | (go_at_call 65; refine Calls.quiet_of_same ((lessI_any _ _ _).mono fun _ _ h => ⟨h.1, h.2.symm⟩)))
  go_wp2_with fail
  · go_ret2
    exact ⟨b, a, rfl, .inr rfl, .inl rfl, ⟨_, T, Box.set (w := w.drewN nq) hs 0 _⟩, (show Chg s (s + 1) w (w.drewN nq) from ⟨rfl, rfl, rfl, Nat.le_refl _, fun _ _ _ => rfl⟩).trans (chg_set _ s 0 _)⟩
  · go_ret2
    exact ⟨a, b, rfl, .inl rfl, .inr rfl, ⟨n, T, hs⟩, ⟨rfl, rfl, rfl, Nat.le_refl _, fun _ _ _ => rfl⟩⟩
theorem CntAt.hold {w w' : World} {g o s : Nat} {d : List Int} (h : HoldI w g o d) (hc : Chg s (s + 1) w w') (hne : s ≠ g) : HoldI w' g o d := by
  obtain ⟨cs, T, h1, h2⟩ := h
  refine ⟨cs, T, ?_, h2⟩
  unfold Box at *
  rw [hc.block g (Array.getElem?_eq_some_iff.1 h1).1 (by omega)]
  exact h1
set_option maxRecDepth 100000 in
set_option maxHeartbeats 4000000 in
theorem medianI_any (g o cap a b c s : Nat) (d : List Int) (w : World) (h : HoldI w g o d) (ha : a < d.length) (hb : b < d.length) (hc : c < d.length) (hs : CntAt w s) (hne : s ≠ g) :
    Calls Try.prog 77 #[.slice (some ⟨g, o, none⟩) d.length cap, .int .i64 a, .int .i64 b, .int .i64 c, .pointer (some ⟨s, 0, none⟩)] w (fun e w' => ∃ p : Nat, e = .returned (.int .i64 p) ∧ (p = a ∨ p = b ∨ p = c) ∧ CntAt w' s ∧ Chg s (s + 1) w w') := by
  have HH := hid h
  have HS := hid hs
  clear h hs
  go_enter Try.func77, Try.ntmps77
  go_wp2_with fail
  refine (order2I_any g o cap a b s d w HH.out ha hb HS.out hne).mono ?_
  rintro e w1 ⟨p1, q1, rfl, hp1, hq1, hs1, hF1⟩
  have lp1 : p1 < d.length := by omega
  have lq1 : q1 < d.length := by omega
  have HH1 := hid (CntAt.hold HH.out hF1 hne)
  have HS1 := hid hs1
  have HF1 := hid hF1
  clear hs1 hF1
  go_wp2_with fail
  refine (order2I_any g o cap q1 c s d w1 HH1.out lq1 hc HS1.out hne).mono ?_
  rintro e w2 ⟨p2, q2, rfl, hp2, hq2, hs2, hF2⟩
  have lp2 : p2 < d.length := by omega
  have HH2 := hid (CntAt.hold HH1.out hF2 hne)
  have HS2 := hid hs2
  have HF2 := hid hF2
  clear hs2 hF2
  go_wp2_with fail
  refine (order2I_any g o cap p1 p2 s d w2 HH2.out lp1 lp2 HS2.out hne).mono ?_
  rintro e w3 ⟨p3, q3, rfl, hp3, hq3, hs3, hF3⟩
  go_wp2_with fail
  go_ret
  exact ⟨q3, rfl, by omega, hs3, (HF1.out.trans HF2.out).trans hF3⟩
end Go.Proofs.Ytdadmphmpojjhaa
