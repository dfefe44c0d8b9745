/- The reference's least cost of a path with a text. -/
import Derived.Test.YtcikndmmbfompaaGreatDoorLtText
import Derived.Test.YtcikndmmbfompaaGreatDoorLtFar
import Derived.Test.YtcikndmmbfompaaGreatDoorApp
import Derived.Test.YtcikndmmbfompaaGreatDoorWrLattice
namespace Go.Proofs.YtcikndmmbfompaaGreatDoor
open Go.RowKit
attribute [local go_sem ↓] Go.wp_at_zero Go.wp_at_succ

theorem upK_keep {s : ByteArray} {e : DEdge} {m : Nat} {T : TF} (h : eqS (pieceAt s m) e.label = true → T (to e) (m + 1) ≤ T (fr e) m + e.cost) : ∀ v k, upK s e (m + 1) T v k = upK s e m T v k := by
  intro v k
  by_cases c : v = to e ∧ k = m + 1
  · obtain ⟨rfl, rfl⟩ := c
    rw [upK_here, upK_later (Nat.lt_succ_self m)]
    split
    · rename_i h'; exact Int.min_eq_left (h h')
    · rfl
  · exact upK_else (Decidable.or_iff_not_not_and_not.2 fun hh => c ⟨Decidable.not_not.1 hh.1, Decidable.not_not.1 hh.2⟩)
theorem tab_start {m N : Nat} (hm : 0 < m) (hN : 0 < N) : Tab ((List.replicate (m * N) (-1)).set 0 0) T0 m N := by
  have h0 : Tab (List.replicate (m * N) (-1)) (fun _ _ => NW) m N := ⟨by simp, fun v k h1 h2 => by rw [List.getElem?_replicate, if_pos (place_lt h1 h2), enc1_no]⟩
  have := h0.set (T' := T0) (v := 0) (k := 0) (r := 0) hm hN (by simp [T0]; exact enc1_yes (by rw [NW_eq]; omega)) (fun v' k' h => by unfold T0; rw [if_neg (by omega)])
  simpa using this
set_option maxHeartbeats 8000000 in
set_option maxRecDepth 100000 in
theorem l15TextCost_any (p : Nat) (v : Value) (m : Nat) (x : List DEdge) (s : ByteArray) (w : World) (hp0 : w.cell? ⟨p, 0, none⟩ = some (.int .i64 m)) (hp1 : w.cell? ⟨p, 1, none⟩ = some v) (h : Arr eEdge w v x) (hv : validLt ((m : Int), x) = true) (hs : s.size ≤ 20) :
    Calls Tryz.prog 57 #[.pointer (some ⟨p, 0, none⟩), .string s] w (Ret (.int .i64 (enc1 (rowC s x s.size (m - 1)))) w) := by
  obtain ⟨b, off, ao, cap, rfl, hnc, hcm, hao, hc⟩ := h
  unfold maxLen at hcm
  obtain ⟨n1, n2, x2⟩ := valid_bd hv
  have HV := hid hv
  have HG := hid (valid_good hv)
  have HR := hid (valid_rises hv)
  have hpl := World.block_lt_of_cell? w _ hp0
  obtain ⟨i0, hi, hz0, hz1, hz2⟩ := info_parts infoInt
  clear hv
  obtain ⟨N, hN⟩ : ∃ N : Nat, (s.size : Int) + 1 = (N : Int) := ⟨s.size + 1, by omega⟩
  obtain ⟨K, hKn⟩ : ∃ K : Nat, K = m * N := ⟨_, rfl⟩
  have hK : (m : Int) * (N : Int) = (K : Int) := by rw [hKn]; push_cast; rfl
  have hN21 : (N : Int) ≤ 21 := by omega
  have hs20 : (s.size : Int) ≤ 20 := by omega
  have hN0 : 0 < N := by omega
  have hK4 : K ≤ 420 := by rw [hKn]; exact Nat.mul_le_mul (by omega : m ≤ 20) (by omega : N ≤ 21)
  have hK0 : 0 < K := by rw [hKn]; exact Nat.mul_pos (by omega) hN0
  have HK := hid hKn
  clear hKn
  have hKi : (K : Int) ≤ 420 := by omega
  go_enter Tryz.func57, Tryz.ntmps57
  go_wp2_with (at_make; refine wpList_make_full _ rfl _ _ 121 rfl w.heap.size 2 i0 _ 1 Tryz.underlying121 hi hz0 hz1 _ _ _ _ K rfl rfl rfl rfl (by rw [hz2]; omega) (by unfold maxLen; omega) (Nat.le_refl _) ?_; intro w1 hown hgr)
  have hown := Own.made (E := eInt) (z := (0 : Int)) hown rfl
  obtain ⟨g, hg⟩ : ∃ g, g = w.heap.size := ⟨_, rfl⟩
  rw [← hg] at hown ⊢
  have hw1 : Below g w w1 := by rw [hg]; exact (Below.refl _ _).grown hgr (Nat.le_refl _) (by simp)
  have hpg : p < g := by rw [hg]; exact hpl
  have hbg : 0 < x.length → b < g := fun h => by rw [hg]; exact (hao h).2
  have Hg := hid hg
  clear hg hgr hi hz0 hz1 hz2 hpl
  go_loopw [26] (fun i wr => ∃ (k : Nat) (ys : List Int), k ≤ K ∧ i = .int .i64 k ∧ K = ys.length ∧ (∀ j, j < k → ys[j]? = some (-1)) ∧ Own eInt 2 g wr (.slice (some ⟨g, 0, none⟩) K K) ys ∧ Below g w wr) (fun i _ => K - (intOf i).toNat)
  case atStart => exact ⟨0, _, Nat.zero_le _, rfl, by rw [List.length_replicate], fun j h => by omega, hown, hw1⟩
  case round =>
    clear hown hw1
    obtain ⟨k, ys, hk, rfl, hyl, hys, ho, hb⟩ := hrel
    have t0 := below_cell hb hpg hp0
    have HY := hid hyl
    have HYS := hid hys
    clear hyl hys
    by_cases hlt : k < K
    · have hli : (k : Int) < (K : Int) := by omega
      obtain ⟨y, hy⟩ : ∃ y, ys[k]? = some y := ⟨_, List.getElem?_eq_getElem (by rw [← HY.out]; exact hlt)⟩
      have c0 := ownI_get ho HY.out hy
      have hf := ho.free HY.out
      have a3 := ownI_below (u := -1) (k := k) ho HY.out hlt hb
      clear hy
      go_wp2
      go_roundw
      case rel =>
        refine ⟨k + 1, _, by omega, by go_num, set_len HY.out, fun j h => ?_, a3.1, a3.2⟩
        by_cases e : k = j
        · subst e; rw [List.getElem?_set_self (by rw [← HY.out]; exact hlt)]
        · rw [List.getElem?_set_ne e]; exact HYS.out j (by omega)
      case measure => simp [intOf]; omega
    · have hkK : k = K := by omega
      have hys : ys = List.replicate K (-1) := by
        refine List.ext_getElem? fun i => ?_
        by_cases hi : i < K
        · rw [HYS.out i (by omega), List.getElem?_replicate, if_pos hi]
        · have e1 : ys.length ≤ i := by rw [← HY.out]; omega
          rw [List.getElem?_eq_none e1, List.getElem?_eq_none (by simp; omega)]
      subst hys
      clear HY HYS
      have hkn : ¬ ((k : Int) < (K : Int)) := by omega
      have hK0i : (0 : Int) < (K : Int) := by omega
      have c0 := ownI_get ho (by simp) (k := 0) (u := -1) (by rw [List.getElem?_replicate, if_pos hK0])
      have hf := ho.free (by simp)
      have a3 := ownI_below (u := 0) (k := 0) ho (by simp) hK0 hb
      go_wp2
      go_loopw [8] (fun i wr => ∃ (k : Nat) (A : List Int), k ≤ m ∧ i = .int .i64 k ∧ Tab A (tTo s x k) m N ∧ okT (tTo s x k) ∧ Own eInt 2 g wr (.slice (some ⟨g, 0, none⟩) K K) A ∧ Below g w wr) (fun i _ => m - (intOf i).toNat)
      case atStart => exact ⟨0, _, Nat.zero_le _, rfl, by rw [HK.out]; exact tab_start (by omega) hN0, okT_0, a3.1, a3.2⟩
      case round =>
        clear ho hb t0 hk hkK hkn hlt a3 c0 hf
        obtain ⟨k, A, hk, rfl, hTab, hok, ho, hb⟩ := hrel
        have HT := hid hTab
        have HO := hid hok
        clear hTab hok
        have t0 := below_cell hb hpg hp0
        have hKA : Hid (K = A.length) := hid (by rw [HT.out.1]; exact HK.out)
        by_cases hlt : k < m
        · have hli : (k : Int) < (m : Int) := by omega
          go_wp2
          go_loopw [9] (fun i wq => ∃ (j : Nat) (A : List Int) (T : TF), j ≤ x.length ∧ i = .int .i64 j ∧ T = (x.take j).foldl (gT s k) (tTo s x k) ∧ Tab A T m N ∧ okT T ∧ Own eInt 2 g wq (.slice (some ⟨g, 0, none⟩) K K) A ∧ Below g w wq) (fun i _ => x.length - (intOf i).toNat)
          case atStart => exact ⟨0, A, _, Nat.zero_le _, rfl, rfl, HT.out, HO.out, ho, hb⟩
          case round =>
            clear ho hb t0 hKA HT HO
            obtain ⟨j, A, T, hj, rfl, hTe, hTab, hok, ho, hb⟩ := hrel
            have HT := hid hTab
            have HO := hid hok
            have HE := hid hTe
            clear hTab hok hTe
            have t0 := below_cell hb hpg hp0
            have t1 := below_cell hb hpg hp1
            by_cases hjl : j < x.length
            · obtain ⟨hao', hbw⟩ := hao (by omega)
              subst hao'
              obtain ⟨e, he⟩ : ∃ e, x[j]? = some e := ⟨_, List.getElem?_eq_getElem hjl⟩
              have hli2 : (j : Int) < (x.length : Int) := by omega
              obtain ⟨f0, f1, f2, f3, f4⟩ := valid_fit HV.out he
              have HN := hid (show (x.take (j + 1)).foldl (gT s k) (tTo s x k) = gT s k T e by rw [HE.out]; exact foldl_take he)
              have HX := hid (List.mem_of_getElem? he)
              have HC := hid (eEdge_cells (w := w) hc he)
              obtain ⟨fq, tq, la, co⟩ := e
              simp only at f0 f1 f2 f3 f4
              obtain ⟨f, rfl⟩ : ∃ f : Nat, fq = f := ⟨fq.toNat, by omega⟩
              obtain ⟨t, rfl⟩ : ∃ t : Nat, tq = t := ⟨tq.toNat, by omega⟩
              clear he hao
              go_wp2
              go_loopw [11] (fun i wz => ∃ (q : Nat) (A : List Int), q ≤ s.size ∧ i = .int .i64 q ∧ (f = k ∨ q = 0) ∧ Tab A (upK s ⟨f, t, la, co⟩ q T) m N ∧ Own eInt 2 g wz (.slice (some ⟨g, 0, none⟩) K K) A ∧ Below g w wz) (fun i _ => s.size - (intOf i).toNat)
              case atStart => exact ⟨0, A, Nat.zero_le _, rfl, .inr rfl, by rw [upK_zero]; exact HT.out, ho, hb⟩
              case round =>
                clear ho hb t0 t1 HT
                obtain ⟨q, A, hq, rfl, hfq, hTab, ho, hb⟩ := hrel
                have HT := hid hTab
                have HF := hid hfq
                clear hTab hfq
                have hKA : Hid (K = A.length) := hid (by rw [HT.out.1]; exact HK.out)
                obtain ⟨c0, c1, c2, c3⟩ := (show _ from HC.out)
                replace c0 := below_cell hb (hbg (by omega)) c0
                replace c1 := below_cell hb (hbg (by omega)) c1
                replace c2 := below_cell hb (hbg (by omega)) c2
                replace c3 := below_cell hb (hbg (by omega)) c3
                try simp only at c0 c1 c2 c3
                by_cases hqs : q < s.size
                · have hq1 : (q : Int) + 1 < (N : Int) := by omega
                  by_cases hfk : f = k
                  · subst hfk
                    have hft : f < t := by omega
                    have hfm : f < m := by omega
                    have htm : t < m := by omega
                    have hqN : q < N := by omega
                    have hqN1 : q + 1 < N := by omega
                    obtain ⟨P, hP⟩ : ∃ P : Nat, (f : Int) * (N : Int) = (P : Int) := ⟨f * N, by push_cast; rfl⟩
                    obtain ⟨Q, hQ⟩ : ∃ Q : Nat, (t : Int) * (N : Int) = (Q : Int) := ⟨t * N, by push_cast; rfl⟩
                    have hPn : P = f * N := by exact_mod_cast hP.symm
                    have hQn : Q = t * N := by exact_mod_cast hQ.symm
                    have hPl : P + q < K := by rw [hPn, HK.out]; exact place_lt hfm hqN
                    have hQl : Q + (q + 1) < K := by rw [hQn, HK.out]; exact place_lt htm hqN1
                    have g1 : A[P + q]? = some (enc1 (T f q)) := by rw [hPn, HT.out.2 f q hfm hqN]; exact congrArg (fun z => some (enc1 z)) (upK_from (e := ⟨f, t, la, co⟩) (by show f ≠ t; omega) q)
                    have g2 : A[Q + (q + 1)]? = some (enc1 (T t (q + 1))) := by rw [hQn, HT.out.2 t (q + 1) htm hqN1]; exact congrArg (fun z => some (enc1 z)) (upK_later (Nat.lt_succ_self q))
                    have o1 := HO.out f q
                    have o2 := HO.out t (q + 1)
                    obtain ⟨rc, hrc⟩ : ∃ r, r = T f q := ⟨_, rfl⟩
                    obtain ⟨ro, hro⟩ : ∃ r, r = T t (q + 1) := ⟨_, rfl⟩
                    rw [← hrc] at g1 o1
                    rw [← hro] at g2 o2
                    have HRC := hid hrc
                    have HRO := hid hro
                    have HQN := hid hQn
                    clear hPn hQn hrc hro
                    have hPi : (P : Int) + (q : Int) < (K : Int) := by omega
                    have hQi : (Q : Int) + (q : Int) + 1 < (K : Int) := by omega
                    have hi1 : ((P : Int) + (q : Int)).toNat = P + q := by omega
                    have hi2 : ((Q : Int) + (q : Int) + 1).toNat = Q + (q + 1) := by omega
                    have hP4 : (P : Int) ≤ 420 := by omega
                    have hQ4 : (Q : Int) ≤ 420 := by omega
                    have hsl : (q : Int) + 1 ≤ (s.size : Int) := by omega
                    have a1 := ownI_get ho hKA.out g1
                    have a2 := ownI_get ho hKA.out g2
                    clear g1 g2
                    have eN := NW_eq
                    have hron : ro ≤ NW := by omega
                    have SET : rc ≠ NW → eqS (pieceAt s q) la = true → rc + co < ro → Hid (Tab (A.set (Q + (q + 1)) (rc + co)) (upK s ⟨f, t, la, co⟩ (q + 1) T) m N) := by
                      intro h1 h2 h3
                      have := HT.out.set (T' := upK s ⟨f, t, la, co⟩ (q + 1) T) (v := t) (k := q + 1) (r := rc + co) htm hqN1 (by
                        have e1 := upK_here (s := s) (e := ⟨f, t, la, co⟩) (m := q) (T := T)
                        rw [if_pos h2] at e1
                        have e2 : upK s ⟨f, t, la, co⟩ (q + 1) T t (q + 1) = min ro (rc + co) := by rw [HRC.out, HRO.out]; exact e1
                        rw [e2, Int.min_eq_right (by omega), enc1_yes (by omega)]) (fun v' k' h => upK_else h)
                      rw [← HQN.out] at this
                      exact hid this
                    have KEEP : (eqS (pieceAt s q) la = true → ro ≤ rc + co) → Hid (Tab A (upK s ⟨f, t, la, co⟩ (q + 1) T) m N) := fun h => hid (HT.out.same (upK_keep fun h' => by show T t (q + 1) ≤ T f q + co; rw [← HRC.out, ← HRO.out]; exact h h'))
                    by_cases hrn : rc = NW
                    · have HS := KEEP (fun _ => by omega)
                      rw [hrn, enc1_no] at a1
                      clear SET KEEP
                      go_wp2
                      go_big_quiet (fail)
                      go_wp2
                      go_roundw
                      case rel => exact ⟨q + 1, A, by omega, by go_num, (by simp), HS.out, ho, below_drewN hb _⟩
                      case measure => simp [intOf]; omega
                    · rw [enc1_yes hrn] at a1
                      have hrc0 : 0 ≤ rc := by omega
                      have hrc1 : rc ≤ 20000000 := by omega
                      have hdc : decide (rc < 0) = false := by simp; omega
                      have hwr : IntKind.i64.wrap (rc + co) = rc + co := IntWalk.i64_in _ (by omega)
                      cases hpe : eqS (pieceAt s q) la
                      · have HS := KEEP (fun h => by rw [hpe] at h; cases h)
                        have hp : ((s.extract q (q + 1)).toList == la.toList) = false := hpe
                        clear SET KEEP hpe
                        go_wp2
                        go_big_quiet (fail)
                        go_wp2
                        go_roundw
                        case rel => exact ⟨q + 1, A, by omega, by go_num, (by simp), HS.out, ho, below_drewN hb _⟩
                        case measure => simp [intOf]; omega
                      · have hp : ((s.extract q (q + 1)).toList == la.toList) = true := hpe
                        by_cases hon : ro = NW
                        · have HS := SET hrn hpe (by omega)
                          rw [hon, enc1_no] at a2
                          clear SET KEEP hpe hrn eN o1 o2
                          go_wp2
                          go_big_quiet (fail)
                          obtain ⟨w2, hw2⟩ : ∃ w2, w2 = wr.drewN nq := ⟨_, rfl⟩
                          replace hb : Below g w w2 := by rw [hw2]; exact below_drewN hb _
                          replace ho : Own eInt 2 g w2 (.slice (some ⟨g, 0, none⟩) K K) A := by rw [hw2]; exact ho
                          replace c1 := cell_eqN hw2 c1
                          replace c3 := cell_eqN hw2 c3
                          replace a2 := cell_eqN hw2 a2
                          rw [← hw2]
                          clear hw2 c0 c2
                          have a3 := ownI_below (u := rc + co) (k := Q + (q + 1)) ho hKA.out hQl hb
                          have hfree := ho.free hKA.out
                          go_wp2
                          have hwq1 : IntKind.i64.wrap ((Q : Int) + (q : Int)) = (Q : Int) + (q : Int) := IntWalk.i64_in _ (by omega)
                          have hwq2 : IntKind.i64.wrap ((Q : Int) + (q : Int) + 1) = (Q : Int) + (q : Int) + 1 := IntWalk.i64_in _ (by omega)
                          have hwq3 : IntKind.i64.wrap (Q : Int) = (Q : Int) := IntWalk.i64_in _ (by omega)
                          have hwq4 : (0 : Int) ≤ (Q : Int) + (q : Int) + 1 := by omega
                          refine wp_region_still_tail 17 (by kernel_rfl) (by kernel_rfl) ?_
                          simp only [List.take_succ_cons, List.take_zero, List.drop_succ_cons, List.drop_zero]
                          repeat (first | still_step)
                          refine wpStill_nil ?_
                          change wpList _ _ _ _ _ (World.drew _)
                          clear hwq1 hwq2 hwq3 hwq4
                          go_wp2
                          go_roundw
                          case rel => exact ⟨q + 1, _, by omega, by go_num, (by simp), HS.out, a3.1, a3.2.drew⟩
                          case measure => simp [intOf]; omega
                        · rw [enc1_yes hon] at a2
                          have hdo : decide (ro < 0) = false := by simp; omega
                          by_cases hlt2 : rc + co < ro
                          · have HS := SET hrn hpe hlt2
                            clear SET KEEP hpe hrn eN o1 o2
                            go_wp2
                            go_big_quiet (fail)
                            obtain ⟨w2, hw2⟩ : ∃ w2, w2 = wr.drewN nq := ⟨_, rfl⟩
                            replace hb : Below g w w2 := by rw [hw2]; exact below_drewN hb _
                            replace ho : Own eInt 2 g w2 (.slice (some ⟨g, 0, none⟩) K K) A := by rw [hw2]; exact ho
                            replace c1 := cell_eqN hw2 c1
                            replace c3 := cell_eqN hw2 c3
                            replace a2 := cell_eqN hw2 a2
                            rw [← hw2]
                            clear hw2 c0 c2
                            have a3 := ownI_below (u := rc + co) (k := Q + (q + 1)) ho hKA.out hQl hb
                            have hfree := ho.free hKA.out
                            go_wp2
                            have hwq1 : IntKind.i64.wrap ((Q : Int) + (q : Int)) = (Q : Int) + (q : Int) := IntWalk.i64_in _ (by omega)
                            have hwq2 : IntKind.i64.wrap ((Q : Int) + (q : Int) + 1) = (Q : Int) + (q : Int) + 1 := IntWalk.i64_in _ (by omega)
                            have hwq3 : IntKind.i64.wrap (Q : Int) = (Q : Int) := IntWalk.i64_in _ (by omega)
                            have hwq4 : (0 : Int) ≤ (Q : Int) + (q : Int) + 1 := by omega
                            refine wp_region_still_tail 17 (by kernel_rfl) (by kernel_rfl) ?_
                            simp only [List.take_succ_cons, List.take_zero, List.drop_succ_cons, List.drop_zero]
                            repeat (first | still_step)
                            refine wpStill_nil ?_
                            change wpList _ _ _ _ _ (World.drew _)
                            clear hwq1 hwq2 hwq3 hwq4
                            go_wp2
                            go_roundw
                            case rel => exact ⟨q + 1, _, by omega, by go_num, (by simp), HS.out, a3.1, a3.2.drew⟩
                            case measure => simp [intOf]; omega
                          · have HS := KEEP (fun _ => by omega)
                            have hd3 : decide (rc + co < ro) = false := by simp; omega
                            clear SET KEEP hpe hrn eN o1 o2 hlt2
                            go_wp2
                            go_big_quiet (fail)
                            obtain ⟨w2, hw2⟩ : ∃ w2, w2 = wr.drewN nq := ⟨_, rfl⟩
                            replace hb : Below g w w2 := by rw [hw2]; exact below_drewN hb _
                            replace ho : Own eInt 2 g w2 (.slice (some ⟨g, 0, none⟩) K K) A := by rw [hw2]; exact ho
                            replace c1 := cell_eqN hw2 c1
                            replace c3 := cell_eqN hw2 c3
                            replace a2 := cell_eqN hw2 a2
                            rw [← hw2]
                            clear hw2 c0 c2
                            go_wp2
                            go_roundw
                            case rel => exact ⟨q + 1, A, by omega, by go_num, (by simp), HS.out, ho, hb⟩
                            case measure => simp [intOf]; omega
                  · have hqk : ((f : Int) == (k : Int)) = false := by rw [beq_eq_false_iff_ne]; omega
                    have hq0 : q = 0 := HF.out.resolve_left hfk
                    have HS : Hid (gT s k T ⟨f, t, la, co⟩ = T) := hid (by unfold gT; rw [if_neg (by simpa [fr] using hfk)])
                    have HU : Hid (Tab A T m N) := hid (by have := HT.out; rw [hq0, upK_zero] at this; exact this)
                    clear hfk
                    go_wp2
                    go_roundw
                    case rel => exact ⟨j + 1, A, _, by omega, by go_num, rfl, by rw [HN.out, HS.out]; exact HU.out, by rw [HN.out, HS.out]; exact HO.out, ho, hb⟩
                    case measure => simp [intOf]; omega
                · have hq1 : ¬ ((q : Int) + 1 < (N : Int)) := by omega
                  have hd1 : decide ((q : Int) + 1 < (N : Int)) = false := by simp; omega
                  have HS : Hid (gT s k T ⟨f, t, la, co⟩ = upK s ⟨f, t, la, co⟩ q T) := hid (by
                    unfold gT
                    by_cases hfk : f = k
                    · rw [if_pos (show fr ⟨(f : Int), (t : Int), la, co⟩ = k from hfk), show q = s.size by omega]; rfl
                    · rw [if_neg (by simpa [fr] using hfk), HF.out.resolve_left hfk, upK_zero])
                  have HV2 : Hid (okT (upK s ⟨f, t, la, co⟩ q T)) := hid (okT_up HG.out HX.out HO.out)
                  go_wp2
                  go_roundw
                  case rel => exact ⟨j + 1, A, _, by omega, by go_num, rfl, by rw [HN.out, HS.out]; exact HT.out, by rw [HN.out, HS.out]; exact HV2.out, ho, hb⟩
                  case measure => simp [intOf]; omega
            · obtain rfl : j = x.length := by omega
              have hD : Hid (T = tTo s x (k + 1)) := hid (by have := HE.out; rw [List.take_length] at this; exact this)
              go_wp2
              go_roundw
              case rel => exact ⟨k + 1, A, by omega, by go_num, by rw [← hD.out]; exact HT.out, by rw [← hD.out]; exact HO.out, ho, hb⟩
              case measure => simp [intOf]; omega
        · obtain rfl : k = m := by omega
          have hT : Hid (A[K - 1]? = some (enc1 (rowC s x s.size (k - 1)))) := hid (by
            have h1 := HT.out.2 (k - 1) s.size (by omega) (by omega)
            rw [tTo_all HG.out HR.out, tab_row HG.out HR.out s _ (Nat.le_refl _)] at h1
            rw [← h1, HK.out]
            obtain ⟨k', rfl⟩ : ∃ k', k = k' + 1 := ⟨k - 1, by omega⟩
            rw [Nat.add_sub_cancel, Nat.succ_mul, show N = s.size + 1 by omega]
            rfl)
          have c0 := ownI_get ho hKA.out hT.out
          have hk1 : (0 : Int) ≤ (K : Int) - 1 := by omega
          have hk2 : (K : Int) - 1 < (K : Int) := by omega
          have hk3 : ((K : Int) - 1).toNat = K - 1 := by omega
          have hbe : Below w.heap.size w wr := by rw [← Hg.out]; exact hb
          go_wp2
          go_ret
          exact ret_ret rfl hbe
end Go.Proofs.YtcikndmmbfompaaGreatDoor
namespace Go.Proofs.YtcikndmmbfompaaGreatDoor
open Go.RowKit
attribute [local go_sem ↓] Go.wp_at_zero Go.wp_at_succ

/-- an array holds the values of a function -/
def Row (A : List Int) (C : Nat → Int) (m : Nat) : Prop := m = A.length ∧ ∀ v, v < m → A[v]? = some (C v)
theorem Row.set {A : List Int} {C C' : Nat → Int} {m k : Nat} (h : Row A C m) (_ : k < m) {r : Int} (hr : r = C' k) (hC : ∀ v, v ≠ k → C' v = C v) : Row (A.set k r) C' m := by
  refine ⟨by rw [List.length_set]; exact h.1, fun v hv => ?_⟩
  by_cases e : k = v
  · subst e; rw [List.getElem?_set_self (by rw [← h.1]; exact hv), hr]
  · rw [List.getElem?_set_ne e, h.2 v hv, hC v (fun h => e h.symm)]
theorem row_nw {ys : List Int} {m : Nat} (hl : m = ys.length) (h : ∀ j, j < m → ys[j]? = some 1099511627776) : Row ys (fun _ => NW) m := ⟨hl, fun v hv => h v hv⟩
theorem stC_keep {s : ByteArray} {k : Nat} {C N : Nat → Int} {e : DEdge} (h : eqS (pieceAt s k) e.label = true → N (to e) ≤ C (fr e) + e.cost) : stC s k C N e = N := by
  funext v
  unfold stC
  split
  · rename_i h'; rw [h'.1]; exact Int.min_eq_left (h h'.2)
  · rfl
theorem stC_here {s : ByteArray} {k : Nat} {C N : Nat → Int} {e : DEdge} (h : eqS (pieceAt s k) e.label = true) : stC s k C N e (to e) = min (N (to e)) (C (fr e) + e.cost) := by
  unfold stC; rw [if_pos ⟨rfl, h⟩]
theorem stC_else {s : ByteArray} {k : Nat} {C N : Nat → Int} {e : DEdge} {v : Nat} (h : v ≠ to e) : stC s k C N e v = N v := by
  unfold stC; rw [if_neg (fun hh => h hh.1)]
set_option maxHeartbeats 8000000 in
set_option maxRecDepth 100000 in
theorem implText_any (m : Nat) (v : Value) (x : List DEdge) (s : ByteArray) (w : World) (h : Arr eEdge w v x) (hv : validLt ((m : Int), x) = true) (hs : s.size ≤ 1048576) :
    Calls Tryz.prog 71 #[.agg #[.int .i64 m, v], .string s] w (Ret (.int .i64 (rowC s x s.size (m - 1))) w) := by
  obtain ⟨b, off, ao, cap, rfl, hnc, hcm, hao, hc⟩ := h
  unfold maxLen at hcm
  obtain ⟨n1, n2, x2⟩ := valid_bd hv
  have HV := hid hv
  have HG := hid (valid_good hv)
  clear hv
  obtain ⟨i0, hi, hz0, hz1, hz2⟩ := info_parts infoInt
  have HI := hid hi
  have HZ0 := hid hz0
  have HZ1 := hid hz1
  have HZ2 := hid hz2
  clear hi hz0 hz1 hz2
  obtain ⟨p, hp⟩ : ∃ p, p = w.heap.size := ⟨_, rfl⟩
  obtain ⟨W, hW⟩ : ∃ W, W = w.alloc (.cells #[.int .i64 m, .slice ao x.length cap] 33) := ⟨_, rfl⟩
  have hpW : W.heap.size = p + 1 := by rw [hW, hp]; simp
  have qb : Box W p #[.int .i64 m, .slice ao x.length cap] 33 := by rw [hW, hp]; exact Box.new _ _ _
  have hbW : Below p w W := by rw [hW, hp]; exact below_alloc _ _
  have HP := hid hp
  have HW := hid hW
  have hpp : p < p + 1 := by omega
  have hss : (s.size : Int) ≤ 1048576 := by omega
  have hbg : 0 < x.length → b < p + 1 := fun h => by have := (hao h).2; rw [HP.out]; omega
  have hcW : 0 < x.length → Cells eEdge W b off x := fun h => hc.below (B := p) hbW (by rw [HP.out]; exact (hao h).2)
  have r0 := qb.cell (j := 0) rfl
  have r1 := qb.cell (j := 1) rfl
  have hm1 : (1 : Int) ≤ (m : Int) := by omega
  have hm20 : (m : Int) ≤ 20 := by omega
  clear hp hW hc
  go_enter Tryz.func71, Tryz.ntmps71
  go_wp2_with (at_make; rw [← HW.out, ← HP.out]; refine wpList_make_full _ rfl _ _ 121 rfl W.heap.size 2 i0 _ 1 Tryz.underlying121 HI.out HZ0.out HZ1.out _ _ _ _ m rfl rfl rfl rfl (by rw [HZ2.out]; omega) (by unfold maxLen; omega) (Nat.le_refl _) ?_; intro w1 hown1 hgr1)
  have o1 := Own.made (E := eInt) (z := (0 : Int)) hown1 rfl
  have hb1 : Below W.heap.size W w1 := (Below.refl _ _).grown hgr1 (Nat.le_refl _) (by simp)
  clear hown1 hgr1
  rw [hpW] at o1 hb1
  go_loopw [18] (fun i wr => ∃ (k : Nat) (ys : List Int), k ≤ m ∧ i = .int .i64 k ∧ m = ys.length ∧ (∀ j, j < k → ys[j]? = some 1099511627776) ∧ Own eInt 2 (p + 1) wr (.slice (some ⟨p + 1, 0, none⟩) m m) ys ∧ Below (p + 1) W wr) (fun i _ => m - (intOf i).toNat)
  case atStart => exact ⟨0, _, Nat.zero_le _, rfl, by rw [List.length_replicate], fun j h => by omega, o1, hb1⟩
  case round =>
    clear o1 hb1
    obtain ⟨k, ys, hk, rfl, hyl, hys, o1, hb1⟩ := hrel
    have HY := hid hyl
    have HYS := hid hys
    clear hyl hys
    have t0 := below_cell hb1 hpp r0
    have t1 := below_cell hb1 hpp r1
    by_cases hlt : k < m
    · have hli : (k : Int) < (m : Int) := by omega
      obtain ⟨y, hy⟩ : ∃ y, ys[k]? = some y := ⟨_, List.getElem?_eq_getElem (by rw [← HY.out]; exact hlt)⟩
      have c0 := ownI_get o1 HY.out hy
      have hf := o1.free HY.out
      have a1 := ownI_below (u := 1099511627776) (k := k) o1 HY.out hlt hb1
      clear hy
      go_wp2
      go_roundw
      case rel =>
        refine ⟨k + 1, _, by omega, by go_num, set_len HY.out, fun j h => ?_, a1.1, a1.2⟩
        by_cases e : k = j
        · subst e; rw [List.getElem?_set_self (by rw [← HY.out]; exact hlt)]
        · rw [List.getElem?_set_ne e]; exact HYS.out j (by omega)
      case measure => simp [intOf]; omega
    · have hk0 : (0 : Int) < (m : Int) := by omega
      have hkm : ¬ ((k : Int) < (m : Int)) := by omega
      have HN := hid (row_nw HY.out (fun j h => HYS.out j (by omega)))
      have c0 := ownI_get o1 HN.out.1 (HN.out.2 0 (by omega))
      have hf := o1.free HN.out.1
      have a1 := ownI_below (u := 0) (k := 0) o1 HN.out.1 (by omega) hb1
      have H0 := hid (HN.out.set (C' := rowC s x 0) (k := 0) (by omega) (r := 0) rfl (fun v h => by show (if v = 0 then (0 : Int) else NW) = NW; rw [if_neg h]))
      go_wp2
      go_loopw [5, 29] (fun c i wr => ∃ (k g : Nat) (A : List Int), k ≤ s.size ∧ i = .int .i64 k ∧ c = .slice (some ⟨g, 0, none⟩) m m ∧ Row A (rowC s x k) m ∧ Own eInt 2 (p + 1) wr (.slice (some ⟨g, 0, none⟩) m m) A ∧ Below (p + 1) W wr) (fun _ i _ => s.size - (intOf i).toNat)
      case atStart => exact ⟨0, p + 1, _, Nat.zero_le _, rfl, rfl, H0.out, a1.1, a1.2⟩
      case round =>
        clear o1 hb1 t0 t1 HY HYS HN H0 hk hlt hkm c0 hf a1
        obtain ⟨k, g, A, hk, rfl, rfl, hRow, o1, hb1⟩ := hrel
        have HA := hid hRow
        clear hRow
        have t0 := below_cell hb1 hpp r0
        have t1 := below_cell hb1 hpp r1
        have HOK := hid (okC_row HG.out s k)
        by_cases hlt : k < s.size
        · have hli : (k : Int) < (s.size : Int) := by omega
          obtain ⟨w0, rfl⟩ : ∃ w0, w0 = wr := ⟨wr, rfl⟩
          go_wp2_with (at_make; refine wpList_make_full _ rfl _ _ 121 rfl w0.heap.size 2 i0 _ 1 Tryz.underlying121 HI.out HZ0.out HZ1.out _ _ _ _ m rfl rfl rfl rfl (by rw [HZ2.out]; omega) (by unfold maxLen; omega) (Nat.le_refl _) ?_; intro w2 hown2 hgr2)
          have o2 := Own.made (E := eInt) (z := (0 : Int)) hown2 rfl
          have hb2 : Below w0.heap.size w0 w2 := (Below.refl _ _).grown hgr2 (Nat.le_refl _) (by simp)
          clear hown2 hgr2
          obtain ⟨H, hH⟩ : ∃ H, H = w0.heap.size := ⟨_, rfl⟩
          rw [← hH] at o2 hb2 ⊢
          have hgH : g < H := by rw [hH]; exact o1.lt.2
          have hpH : p + 1 ≤ H := by rw [hH, ← hpW]; exact hb1.size
          have HHH := hid hH
          clear hH
          have hpH' : p < H := by omega
          go_loopw [37] (fun i wr => ∃ (q : Nat) (ys : List Int), q ≤ m ∧ i = .int .i64 q ∧ m = ys.length ∧ (∀ j, j < q → ys[j]? = some 1099511627776) ∧ Own eInt 2 H wr (.slice (some ⟨H, 0, none⟩) m m) ys ∧ Below H w0 wr) (fun i _ => m - (intOf i).toNat)
          case atStart => exact ⟨0, _, Nat.zero_le _, rfl, by rw [List.length_replicate], fun j h => by omega, o2, hb2⟩
          case round =>
            clear o2 hb2
            obtain ⟨q, ys, hq, rfl, hyl, hys, o2, hb2⟩ := hrel
            have HY := hid hyl
            have HYS := hid hys
            clear hyl hys
            by_cases hlq : q < m
            · have hlqi : (q : Int) < (m : Int) := by omega
              obtain ⟨y, hy⟩ : ∃ y, ys[q]? = some y := ⟨_, List.getElem?_eq_getElem (by rw [← HY.out]; exact hlq)⟩
              have c0 := ownI_get o2 HY.out hy
              have hf := o2.free HY.out
              have a1 := ownI_below (u := 1099511627776) (k := q) o2 HY.out hlq hb2
              clear hy
              go_wp2
              go_roundw
              case rel =>
                refine ⟨q + 1, _, by omega, by go_num, set_len HY.out, fun j h => ?_, a1.1, a1.2⟩
                by_cases e : q = j
                · subst e; rw [List.getElem?_set_self (by rw [← HY.out]; exact hlq)]
                · rw [List.getElem?_set_ne e]; exact HYS.out j (by omega)
              case measure => simp [intOf]; omega
            · have hqm : ¬ ((q : Int) < (m : Int)) := by omega
              have HN := hid (row_nw HY.out (fun j h => HYS.out j (by omega)))
              have t0 := below_cell hb2 hpH' t0
              have t1 := below_cell hb2 hpH' t1
              go_wp2
              clear t0 t1
              go_loopw [10, 47] (fun al i wr => ∃ (j : Nat) (c : Bool) (B : List Int) (C : Nat → Int), j ≤ x.length ∧ i = .int .i64 j ∧ al = .bool c ∧ C = (x.take j).foldl (stC s k (rowC s x k)) (fun _ => NW) ∧ (c = false → ∀ u, C u = NW) ∧ okC C ∧ Row B C m ∧ Own eInt 2 H wr (.slice (some ⟨H, 0, none⟩) m m) B ∧ Below H w0 wr) (fun _ i _ => x.length - (intOf i).toNat)
              case atStart => exact ⟨0, false, ys, _, Nat.zero_le _, rfl, rfl, rfl, fun _ _ => rfl, okC_nw, HN.out, o2, hb2⟩
              case round =>
                clear o2 hb2 HY HYS HN hq hlq hqm
                obtain ⟨j, c, B, C, hj, rfl, rfl, hCe, hdead, hok, hRow, o2, hb2⟩ := hrel
                have HC := hid hCe
                have HD := hid hdead
                have HO := hid hok
                have HB := hid hRow
                clear hCe hdead hok hRow
                have t0 := below_cell hb2 hpH' (below_cell hb1 hpp r0)
                have t1 := below_cell hb2 hpH' (below_cell hb1 hpp r1)
                by_cases hjl : j < x.length
                · obtain ⟨hao', hbw⟩ := hao (by omega)
                  subst hao'
                  obtain ⟨e, he⟩ : ∃ e, x[j]? = some e := ⟨_, List.getElem?_eq_getElem hjl⟩
                  have hcq : Cells eEdge wr b off x := ((hcW (by omega)).below hb1 (hbg (by omega))).below hb2 (by have := hbg (by omega); omega)
                  obtain ⟨c0, c1, c2, c3⟩ := eEdge_cells hcq he
                  have hjli : (j : Int) < (x.length : Int) := by omega
                  obtain ⟨f0, f1, f2, f3, f4⟩ := valid_fit HV.out he
                  have HN := hid (show (x.take (j + 1)).foldl (stC s k (rowC s x k)) (fun _ => NW) = stC s k (rowC s x k) C e by rw [HC.out]; exact foldl_take he)
                  have HX := hid (List.mem_of_getElem? he)
                  obtain ⟨fq, tq, la, co⟩ := e
                  simp only at c0 c1 c2 c3 f0 f1 f2 f3 f4
                  obtain ⟨f, rfl⟩ : ∃ f : Nat, fq = f := ⟨fq.toNat, by omega⟩
                  obtain ⟨t, rfl⟩ : ∃ t : Nat, tq = t := ⟨tq.toNat, by omega⟩
                  clear he hcq hao
                  have hfm : f < m := by omega
                  have htm : t < m := by omega
                  have hti : (t : Int) < (m : Int) := f2
                  have hfi : (f : Int) < (m : Int) := by omega
                  have a1 := below_cell hb2 hgH (ownI_get o1 HA.out.1 (HA.out.2 f hfm))
                  have a2 := ownI_get o2 HB.out.1 (HB.out.2 t htm)
                  have d1 := HOK.out f
                  have d2 := HO.out t
                  obtain ⟨rc, hrc⟩ : ∃ r, r = rowC s x k f := ⟨_, rfl⟩
                  obtain ⟨ro, hro⟩ : ∃ r, r = C t := ⟨_, rfl⟩
                  rw [← hrc] at a1 d1
                  rw [← hro] at a2 d2
                  have HRC := hid hrc
                  have HRO := hid hro
                  clear hrc hro
                  have hsl : (k : Int) + 1 ≤ (s.size : Int) := by omega
                  have eN := NW_eq
                  obtain ⟨w3, hw3⟩ : ∃ w3, w3 = wr.alloc (.cells #[.int .i64 f, .int .i64 t, .string la, .int .i64 co] 81) := ⟨_, rfl⟩
                  have hm3 : Below wr.heap.size wr w3 := by rw [hw3]; exact below_alloc _ _
                  have hgr0 := o2.lt.2
                  have hb3 : Below H w0 w3 := hb2.trans (hm3.mono (by omega))
                  have ho3 := o2.below hm3
                  replace a1 := cell_later hm3 a1
                  replace a2 := cell_later hm3 a2
                  have e0 : w3.cell? ⟨wr.heap.size, 0, none⟩ = some (.int .i64 f) := by rw [hw3]; simp
                  have e1 : w3.cell? ⟨wr.heap.size, 1, none⟩ = some (.int .i64 t) := by rw [hw3]; simp
                  have e2 : w3.cell? ⟨wr.heap.size, 2, none⟩ = some (.string la) := by rw [hw3]; simp
                  have e3 : w3.cell? ⟨wr.heap.size, 3, none⟩ = some (.int .i64 co) := by rw [hw3]; simp
                  cases hpe : eqS (pieceAt s k) la
                  · have HS : Hid (stC s k (rowC s x k) C ⟨f, t, la, co⟩ = C) := hid (stC_keep fun h => by rw [hpe] at h; cases h)
                    have hp : (la.toList == (s.extract k (k + 1)).toList) = false := (eqS_comm _ _).trans hpe
                    clear hpe
                    go_wp2
                    rw [← hw3]
                    clear hw3
                    go_big_quiet (fail)
                    go_wp2
                    go_roundw
                    case rel => exact ⟨j + 1, c, B, C, by omega, by go_num, rfl, by rw [HN.out, HS.out], HD.out, HO.out, HB.out, ho3, below_drewN hb3 _⟩
                    case measure => simp [intOf]; omega
                  · have hp : (la.toList == (s.extract k (k + 1)).toList) = true := (eqS_comm _ _).trans hpe
                    by_cases hrn : rc = NW
                    · have HS : Hid (stC s k (rowC s x k) C ⟨f, t, la, co⟩ = C) := hid (stC_keep fun h => by show C t ≤ rowC s x k f + co; rw [← HRC.out, ← HRO.out]; omega)
                      rw [hrn, NW_eq] at a1
                      clear hpe
                      go_wp2
                      rw [← hw3]
                      clear hw3
                      go_big_quiet (fail)
                      go_wp2
                      go_roundw
                      case rel => exact ⟨j + 1, c, B, C, by omega, by go_num, rfl, by rw [HN.out, HS.out], HD.out, HO.out, HB.out, ho3, below_drewN hb3 _⟩
                      case measure => simp [intOf]; omega
                    · have hrc0 : 0 ≤ rc := by omega
                      have hrc1 : rc ≤ 20000000 := by omega
                      have hrc2 : rc < 1099511627776 := by omega
                      have HW3 : Hid (Row (B.set t (min ro (rc + co))) (stC s k (rowC s x k) C ⟨f, t, la, co⟩) m) := hid (HB.out.set htm (by rw [HRC.out, HRO.out]; exact (stC_here (e := ⟨f, t, la, co⟩) hpe).symm) (fun v hv => stC_else (e := ⟨f, t, la, co⟩) hv))
                      have HOK2 : Hid (okC (stC s k (rowC s x k) C ⟨f, t, la, co⟩)) := hid (okC_st HG.out HX.out HOK.out HO.out)
                      have hwr : IntKind.i64.wrap (rc + co) = rc + co := IntWalk.i64_in _ (by omega)
                      clear hpe hrn d1 d2 eN
                      go_wp2
                      rw [← hw3]
                      clear hw3
                      go_big_quiet (fail)
                      obtain ⟨w4, hw4⟩ : ∃ w4, w4 = w3.drewN nq := ⟨_, rfl⟩
                      have hb4 : Below H w0 w4 := by rw [hw4]; exact below_drewN hb3 _
                      have ho4 : Own eInt 2 H w4 (.slice (some ⟨H, 0, none⟩) m m) B := by rw [hw4]; exact ho3
                      replace a1 := cell_eqN hw4 a1
                      replace a2 := cell_eqN hw4 a2
                      replace e0 := cell_eqN hw4 e0
                      replace e1 := cell_eqN hw4 e1
                      replace e3 := cell_eqN hw4 e3
                      rw [← hw4]
                      clear hw4 e2
                      have hfree := ho4.free HB.out.1
                      go_wp2
                      refine wp_region_still_tail 18 (by kernel_rfl) (by kernel_rfl) ?_
                      simp only [List.take_succ_cons, List.take_zero, List.drop_succ_cons, List.drop_zero]
                      repeat (first | still_step)
                      refine wpStill_nil ?_
                      change wpList _ _ _ _ _ (World.drew _)
                      go_wp2
                      have a3 := ownI_below (u := min ro (rc + co)) (k := t) ho4 HB.out.1 htm hb4
                      go_roundw
                      case rel => exact ⟨j + 1, true, _, _, by omega, by go_num, rfl, HN.out.symm, (fun h => by cases h), HOK2.out, HW3.out, a3.1, a3.2.drew⟩
                      case measure => simp [intOf]; omega
                · obtain rfl : j = x.length := by omega
                  have HR : Hid (C = rowC s x (k + 1)) := hid (by have := HC.out; rw [List.take_length] at this; exact this)
                  have hjn : ¬ ((x.length : Int) < (x.length : Int)) := by omega
                  have hbe : Below (p + 1) W wr := hb1.trans (hb2.mono hpH)
                  cases c
                  · have HZ : Hid (rowC s x s.size (m - 1) = NW) := hid (by
                      have := row_dead HG.out s (k := k + 1) (fun v => by rw [← HR.out]; exact HD.out rfl v) (s.size - (k + 1)) (m - 1)
                      rwa [show k + 1 + (s.size - (k + 1)) = s.size by omega] at this)
                    go_wp2
                    go_ret
                    exact ret_int (by rw [HZ.out]; rfl) (by rw [← HP.out]; exact hbW.trans (hbe.mono (by omega)))
                  · go_wp2
                    go_roundw
                    case rel => exact ⟨k + 1, H, B, by omega, by go_num, rfl, by rw [← HR.out]; exact HB.out, o2.mono hpH, hbe⟩
                    case measure => simp [intOf]; omega
        · obtain rfl : k = s.size := by omega
          have hkn : ¬ ((s.size : Int) < (s.size : Int)) := by omega
          have c0 := ownI_get o1 HA.out.1 (HA.out.2 (m - 1) (by omega))
          have hk1 : (0 : Int) ≤ (m : Int) - 1 := by omega
          have hk2 : (m : Int) - 1 < (m : Int) := by omega
          have hk3 : ((m : Int) - 1).toNat = m - 1 := by omega
          go_wp2
          go_ret
          exact ret_ret rfl (by rw [← HP.out]; exact hbW.trans (hb1.mono (by omega)))
end Go.Proofs.YtcikndmmbfompaaGreatDoor
namespace Go.Proofs.YtcikndmmbfompaaGreatDoor
open Go.RowKit
attribute [local go_sem ↓] Go.wp_at_zero Go.wp_at_succ

theorem textR_val {m : Nat} {x : List DEdge} (s : ByteArray) (hv : validLt ((m : Int), x) = true) : (textR ((m : Int), x) s = NW ∧ enc1 (textR ((m : Int), x) s) = -1) ∨ (textR ((m : Int), x) s < NW ∧ enc1 (textR ((m : Int), x) s) = textR ((m : Int), x) s ∧ 0 ≤ textR ((m : Int), x) s) := by
  obtain ⟨n1, n2, x2⟩ := valid_bd hv
  have e := NW_eq
  have := okC_row (valid_good hv) s s.size (m - 1)
  have hr : textR ((m : Int), x) s = rowC s x s.size (m - 1) := by unfold textR; simp only [Int.toNat_natCast]
  rw [hr]
  rcases this with h | h
  · exact .inl ⟨h, by rw [h]; exact enc1_no⟩
  · have : rowC s x s.size (m - 1) ≠ NW := by omega
    exact .inr ⟨by omega, enc1_yes this, h.1⟩
end Go.Proofs.YtcikndmmbfompaaGreatDoor
