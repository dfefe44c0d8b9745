/- slices.breakPatternsOrdered at int64, of few elements. -/
import Derived.Test.YtdadmphmpojjhaaSrtMisc
import Derived.Test.YtdadmphmpojjhaaShelf
import Derived.WalkSmall
namespace Go.Proofs.Ytdadmphmpojjhaa
open Go.RowKit

set_option maxRecDepth 100000 in
set_option maxHeartbeats 4000000 in
theorem nextPow_any (n : Nat) (w : World) (h1 : 8 ≤ n) (h2 : n ≤ 16) : Calls Try.prog 74 #[.int .i64 n] w fun e w' => e = .returned (.int .u64 (if n = 16 then 32 else 16)) ∧ w' = w := by
  have hn : n = 8 ∨ n = 9 ∨ n = 10 ∨ n = 11 ∨ n = 12 ∨ n = 13 ∨ n = 14 ∨ n = 15 ∨ n = 16 := by omega
  rcases hn with rfl | rfl | rfl | rfl | rfl | rfl | rfl | rfl | rfl
  all_goals
    have CB := fun (x : Int) (h0 : 0 ≤ x) (h1 : x ≤ 18446744073709551615) => Try.bits_Len x w h0 h1
    go_enter Try.func74, Try.ntmps74
    go_wp2_with fail
    refine (CB _ (by omega) (by omega)).mono ?_
    rintro e w' ⟨rfl, rfl⟩
    go_wp2_with fail
    go_ret
    exact ⟨congrArg (fun z => Ending.returned (Value.int .u64 z)) (by decide +kernel), rfl⟩
/-- the cell of the generator -/
def GenAt (w : World) (s : Nat) : Prop := ∃ r T, Box w s #[.int .u64 r] T ∧ 0 ≤ r ∧ r ≤ 18446744073709551615
theorem GenAt.drewN {w : World} {s : Nat} (h : GenAt w s) (n : Nat) : GenAt (w.drewN n) s := h
theorem bitsX (r : Int) (M : Nat) (h0 : 0 ≤ r) (h1 : r ≤ 18446744073709551615) (hM : M ≤ 1000) : ∃ q : Nat, bits BinOp.and IntKind.u64 r (M : Int) = (q : Int) ∧ q ≤ M := by
  have h := bits_and_u64_nat r.toNat M (by omega) (by omega)
  rw [Int.toNat_of_nonneg h0] at h
  exact ⟨_, h, Nat.and_le_right⟩
theorem bits_rng (a b : Int) : 0 ≤ bits BinOp.xor IntKind.u64 a b ∧ bits BinOp.xor IntKind.u64 a b ≤ 18446744073709551615 := by
  show 0 ≤ IntKind.u64.wrap _ ∧ IntKind.u64.wrap _ ≤ _
  rw [IntKind.wrap_u64]
  omega
set_option maxRecDepth 100000 in
set_option maxHeartbeats 4000000 in
theorem next_any (s : Nat) (w : World) (h : GenAt w s) : Calls Try.prog 75 #[.pointer (some ⟨s, 0, none⟩)] w fun e w' => ∃ r : Int, e = .returned (.int .u64 r) ∧ 0 ≤ r ∧ r ≤ 18446744073709551615 ∧ GenAt w' s ∧ Chg s (s + 1) w w' := by
  have h0 := h
  have HC0 : Hid (Chg s (s + 1) w w) := hid (Chg.refl _ _ _)
  clear h
  obtain ⟨r0, T0, hb0, _, _⟩ := h0
  have k0 := hb0.cell (j := 0) rfl
  have f0 := hb0.free
  go_enter Try.func75, Try.ntmps75
  go_upto_region 1 with fail
  go_cut [2] from 3 to 32 (fun v wx => v = .int .u64 0 ∧ GenAt wx s ∧ Chg s (s + 1) w wx)
  case first =>
    go_region
    all_goals go_wp2_with fail
    go_meet
    exact ⟨rfl, ⟨_, T0, Box.set hb0 0 _, (bits_rng _ _).1, (bits_rng _ _).2⟩, (HC0.out.trans (chg_set _ s 0 _)).trans ⟨rfl, rfl, rfl, Nat.le_refl _, fun _ _ _ => rfl⟩⟩
  case rest =>
  obtain ⟨hv, hg1, hc1⟩ := hcut
  subst hv
  have HC1 := hid hc1
  have HG1 := hid hg1
  clear k0 f0 hc1
  obtain ⟨r1, T1, hb1, hl1, hu1⟩ := hg1
  have k1 := hb1.cell (j := 0) rfl
  have f1 := hb1.free
  go_upto_region 2 with fail
  go_cut [2] from 3 to 32 (fun v wx => v = .int .u64 0 ∧ GenAt wx s ∧ Chg s (s + 1) w wx)
  case first =>
    go_region
    all_goals go_wp2_with fail
    go_meet
    exact ⟨rfl, ⟨_, T1, Box.set hb1 0 _, (bits_rng _ _).1, (bits_rng _ _).2⟩, (HC1.out.trans (chg_set _ s 0 _)).trans ⟨rfl, rfl, rfl, Nat.le_refl _, fun _ _ _ => rfl⟩⟩
  case rest =>
  obtain ⟨hv, hg2, hc2⟩ := hcut
  subst hv
  have HC2 := hid hc2
  have HG2 := hid hg2
  clear k1 f1 hc2
  obtain ⟨r2, T2, hb2, hl2, hu2⟩ := hg2
  have k2 := hb2.cell (j := 0) rfl
  have f2 := hb2.free
  go_upto_region 3 with fail
  go_cut [2] from 3 to 32 (fun v wx => v = .int .u64 0 ∧ GenAt wx s ∧ Chg s (s + 1) w wx)
  case first =>
    go_region
    all_goals go_wp2_with fail
    go_meet
    exact ⟨rfl, ⟨_, T2, Box.set hb2 0 _, (bits_rng _ _).1, (bits_rng _ _).2⟩, (HC2.out.trans (chg_set _ s 0 _)).trans ⟨rfl, rfl, rfl, Nat.le_refl _, fun _ _ _ => rfl⟩⟩
  case rest =>
  obtain ⟨hv, hg3, hc3⟩ := hcut
  subst hv
  have HC3 := hid hc3
  have HG3 := hid hg3
  clear k2 f2 hc3
  obtain ⟨r3, T3, hb3, hl3, hu3⟩ := hg3
  have k3 := hb3.cell (j := 0) rfl
  have f3 := hb3.free
  go_wp2_with fail
  go_ret
  exact ⟨r3, rfl, hl3, hu3, HG3.out, HC3.out⟩
theorem HoldI.off {w w' : World} {g o s : Nat} {d : List Int} (h : HoldI w g o d) (hc : Chg s (s + 1) w w') (hne : s ≠ g) : HoldI w' g o d := CntAt.hold h hc hne
theorem GenAt.off {w w' : World} {g s : Nat} (h : GenAt w s) (hc : Chg g (g + 1) w w') (hne : s ≠ g) : GenAt w' s := by
  obtain ⟨r, T, h1, h2⟩ := h
  refine ⟨r, T, ?_, h2⟩
  unfold Box at *
  rw [hc.block s (Array.getElem?_eq_some_iff.1 h1).1 (by omega)]
  exact h1
set_option maxRecDepth 100000 in
set_option maxHeartbeats 8000000 in
theorem breakI_any (g o cap a b : Nat) (d : List Int) (w : World) (h : HoldI w g o d) (hab : a + 13 ≤ b) (hb : b ≤ d.length) (hd : d.length ≤ 1000000) (hs : b - a ≤ 16) :
    Calls Try.prog 61 #[.slice (some ⟨g, o, none⟩) d.length cap, .int .i64 a, .int .i64 b] w (fun e w' => e = .returned (.tuple #[]) ∧ ∃ d', HoldI w' g o d' ∧ POn a b d d' ∧ Fr g w w') := by
  obtain ⟨L, hL⟩ : ∃ L, L = b - a := ⟨_, rfl⟩
  obtain ⟨K, hK⟩ : ∃ K, K = L / 4 := ⟨_, rfl⟩
  have hLi : (b : Int) - (a : Int) = (L : Int) := by omega
  have hLw : IntKind.i64.wrap ((b : Int) - (a : Int)) = (L : Int) := by rw [IntWalk.i64_in _ (by omega)]; exact hLi
  have hq : (L : Int).tdiv 4 = (K : Int) := by rw [Int.tdiv_eq_ediv_of_nonneg (by omega)]; omega
  have hL8 : (8 : Int) ≤ (L : Int) := by omega
  have hK3 : 3 ≤ K := by omega
  have hK4 : K ≤ 4 := by omega
  obtain ⟨M, hM⟩ : ∃ M : Int, M = if L = 16 then 32 else 16 := ⟨_, rfl⟩
  have CP := fun w' => nextPow_any L w' (by omega) (by omega)
  rw [← hM] at CP
  obtain ⟨m, hm⟩ : ∃ m : Nat, M - 1 = (m : Int) ∧ m ≤ 2 * L - 1 := by
    by_cases e : L = 16
    · rw [if_pos e] at hM; exact ⟨31, by omega, by omega⟩
    · rw [if_neg e] at hM; exact ⟨15, by omega, by omega⟩
  have hM1 : 0 ≤ M ∧ M ≤ 100 := by split at hM <;> omega
  have HMM := hid hM
  clear hM
  obtain ⟨w1, hw1⟩ : ∃ u, u = w.alloc (.cells #[.int .u64 (L : Int)] 108) := ⟨_, rfl⟩
  obtain ⟨s, hs'⟩ : ∃ s, s = w.heap.size := ⟨_, rfl⟩
  have hgs : s ≠ g := by have := h.lt; omega
  have hF1 : Fr g w w1 := by rw [hw1]; exact Chg.of_below (below_alloc _ _)
  have hH1 : HoldI w1 g o d := by rw [hw1]; exact CntAt.hold (s := s) h (Chg.of_below (below_alloc _ _)) hgs
  have hS1 : GenAt w1 s := by rw [hw1, hs']; exact ⟨L, _, Box.new _ _ _, by omega, by omega⟩
  have hsz1 : s < w1.heap.size := by rw [hw1, hs']; simp
  have HF1 := hid hF1
  have HH1 := hid hH1
  have HS1 := hid hS1
  have HW1 := hid hw1
  have HS' := hid hs'
  have hL1 : a + L ≤ b := by omega
  have hL2 : b ≤ a + L := by omega
  have hK1 : K * 4 ≤ L := by omega
  have hL16 : L ≤ 16 := by omega
  clear hF1 hH1 hS1 hw1 hs' h hL hK hs hab
  go_enter Try.func61, Try.ntmps61
  go_upto_region 3 with fail
  rw [← HS'.out, ← HW1.out]
  go_wp2_with fail
  refine (CP w1).mono ?_
  rintro e w2 ⟨rfl, rfl⟩
  go_wp2_with fail
  go_loopw [9] (fun vi wr => ∃ (k : Nat) (dk : List Int), vi = .int .i64 k ∧ a + K * 2 ≤ k + 1 ∧ k ≤ a + K * 2 + 2 ∧ HoldI wr g o dk ∧ POn a b d dk ∧ GenAt wr s ∧ Fr g w wr) (fun vi _ => a + K * 2 + 2 - (intOf vi).toNat)
  case atStart => exact ⟨a + K * 2 - 1, d, by congr 1; omega, by omega, by omega, HH1.out, POn.refl _ _ _, HS1.out, HF1.out⟩
  case round =>
    obtain ⟨k, dk, rfl, hk1, hk2, hH, hP, hG, hF⟩ := hrel
    by_cases hlt : k ≤ a + K * 2 + 1
    · have hli : (k : Int) ≤ (a : Int) + (K : Int) * 2 + 1 := by omega
      have CN := next_any s wr hG
      have HH := hid hH
      have HP := hid hP
      have HF := hid hF
      clear hH hP hG hF
      go_wp2_with fail
      refine CN.mono ?_
      rintro e w3 ⟨r, rfl, hr0, hr1, hG3, hc3⟩
      obtain ⟨x, hx, hxm⟩ := bitsX r m hr0 hr1 (by omega)
      have hmc := hm.1
      have HG3 := hid hG3
      have HC3 := hid hc3
      clear hG3 hc3 CN
      by_cases hxl : L ≤ x
      · obtain ⟨z, hz⟩ : ∃ z : Nat, (x : Int) - (L : Int) = (z : Int) := ⟨x - L, by omega⟩
        have hzL : z < L := by have := hm.2; omega
        have hxi : (L : Int) ≤ (x : Int) := by omega
        have hx' := hx
        clear hx hxl
        have hdl := HP.out.len
        have sI : k < dk.length := by omega
        have sJ : a + z < dk.length := by omega
        have tI : k < d.length := by omega
        have tJ : a + z < d.length := by omega
        have H3 := HH.out.off HC3.out hgs
        have F3 : Fr g w w3 := ⟨HC3.out.os.trans HF.out.os, HC3.out.tape.trans HF.out.tape, HC3.out.output.trans HF.out.output, Nat.le_trans HF.out.size HC3.out.size, fun k hk hj => by
          have hsw := HS'.out
          rw [HC3.out.block k (Nat.lt_of_lt_of_le hk HF.out.size) (by omega)]
          exact HF.out.block k hk hj⟩
        have s0 := H3.cell k sI
        have s1 := H3.cell (a + z) sJ
        have s2 := (H3.set sI (gI dk (a + z))).cell (a + z) (by rw [List.length_set]; exact sJ)
        have s3 := H3.free (o + k)
        have s4 := (H3.set sI (gI dk (a + z))).free (o + (a + z))
        have s5 := H3.free (o + (a + z))
        have HH3 := hid H3
        have HF3 := hid F3
        have haz : (a : Int) + (z : Int) < (d.length : Int) := by omega
        clear H3 F3 hdl
        go_upto_region 10 with fail
        all_goals first | (exfalso; omega) | skip
        go_region
        all_goals go_wp2_with fail
        go_roundw
        case rel => exact ⟨k + 1, swL dk k (a + z), by go_num, by omega, by omega, (HH3.out.drewN _).sw sI sJ, HP.out.trans (POn.sw (by have := HP.out.len; omega) (by omega) (by omega) (by omega) (by omega)), HG3.out.off (Fr.sw (Fr.drewN (Chg.refl _ _ _) _) _ _ _ _) hgs, Fr.sw (Fr.drewN HF3.out _) _ _ _ _⟩
        case measure => simp [intOf]; omega
      · obtain ⟨z, hz⟩ : ∃ z : Nat, z = x := ⟨_, rfl⟩
        have hzL : z < L := by omega
        rw [← hz] at hx hxm hxl
        have hxi : ¬ ((L : Int) ≤ (z : Int)) := by omega
        clear hz
        have hx' := hx
        clear hx hxl
        have hdl := HP.out.len
        have sI : k < dk.length := by omega
        have sJ : a + z < dk.length := by omega
        have tI : k < d.length := by omega
        have tJ : a + z < d.length := by omega
        have H3 := HH.out.off HC3.out hgs
        have F3 : Fr g w w3 := ⟨HC3.out.os.trans HF.out.os, HC3.out.tape.trans HF.out.tape, HC3.out.output.trans HF.out.output, Nat.le_trans HF.out.size HC3.out.size, fun k hk hj => by
          have hsw := HS'.out
          rw [HC3.out.block k (Nat.lt_of_lt_of_le hk HF.out.size) (by omega)]
          exact HF.out.block k hk hj⟩
        have s0 := H3.cell k sI
        have s1 := H3.cell (a + z) sJ
        have s2 := (H3.set sI (gI dk (a + z))).cell (a + z) (by rw [List.length_set]; exact sJ)
        have s3 := H3.free (o + k)
        have s4 := (H3.set sI (gI dk (a + z))).free (o + (a + z))
        have s5 := H3.free (o + (a + z))
        have HH3 := hid H3
        have HF3 := hid F3
        have haz : (a : Int) + (z : Int) < (d.length : Int) := by omega
        clear H3 F3 hdl
        go_upto_region 10 with fail
        all_goals first | (exfalso; omega) | skip
        go_region
        all_goals go_wp2_with fail
        go_roundw
        case rel => exact ⟨k + 1, swL dk k (a + z), by go_num, by omega, by omega, (HH3.out.drewN _).sw sI sJ, HP.out.trans (POn.sw (by have := HP.out.len; omega) (by omega) (by omega) (by omega) (by omega)), HG3.out.off (Fr.sw (Fr.drewN (Chg.refl _ _ _) _) _ _ _ _) hgs, Fr.sw (Fr.drewN HF3.out _) _ _ _ _⟩
        case measure => simp [intOf]; omega
    · have hli : ¬ ((k : Int) ≤ (a : Int) + (K : Int) * 2 + 1) := by omega
      go_wp2_with fail
      go_end0
      exact ⟨rfl, dk, hH, hP, hF⟩
end Go.Proofs.Ytdadmphmpojjhaa
