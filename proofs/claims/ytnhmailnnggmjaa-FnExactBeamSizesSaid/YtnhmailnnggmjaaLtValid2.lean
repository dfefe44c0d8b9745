/- A lattice is told good by the program's own call. -/
import Derived.Test.YtnhmailnnggmjaaLtValid
namespace Go.Proofs.Ytnhmailnnggmjaa
open Go.RowKit

set_option maxHeartbeats 4000000 in
theorem implValidLattice_any (v : Value) (x : XLattice) (w : World) {lo hi : Nat} (h : rLattice.at_ lo hi w v x) (ok : okLattice x) (g : goodLattice x) : Calls Try.prog 41 #[v] w (Ret (.bool (validLt x)) w) := by
  obtain ⟨u, rfl, h⟩ := h
  replace h := ArrIn.arr h
  obtain ⟨n, x⟩ := x
  obtain ⟨b, off, ao, cap, rfl, hnc, hcm, hao, hc⟩ := h
  simp only at hnc hao
  unfold maxLen at hcm
  have ok' : x.length ≤ 1048576 := ok
  go_enter Try.func41, Try.ntmps41
  go_wp2
  go_loopw [8] (fun i wr => ∃ k : Nat, k ≤ x.length ∧ i = .int .i64 k ∧ Below w.heap.size w wr ∧ wr.cell? ⟨w.heap.size, 0, none⟩ = some (.int .i64 n) ∧ wr.cell? ⟨w.heap.size, 1, none⟩ = some (.slice ao x.length cap) ∧ ∀ j e, j < k → x[j]? = some e → edOk n x j e = true) (fun i _ => x.length - (intOf i).toNat)
  case atStart => exact ⟨0, Nat.zero_le _, rfl, below_alloc _ _, by simp, by simp, fun j e h => by omega⟩
  case round =>
    obtain ⟨k, hk, rfl, hb, q0, q1, hall⟩ := hrel
    have HA := hid hall
    clear hall
    by_cases hlt : k < x.length
    · obtain ⟨hao', hbw⟩ := hao (by omega)
      subst hao'
      obtain ⟨e, he⟩ : ∃ e, x[k]? = some e := ⟨_, List.getElem?_eq_getElem hlt⟩
      obtain ⟨c0, c1, c2, c3⟩ := eEdge_cells (hc.below hb hbw) he
      have hws := goodLabel g he
      have hli : (k : Int) < (x.length : Int) := by omega
      have HE := hid he
      clear he hao
      obtain ⟨w1, hw1⟩ : ∃ w1, w1 = wr.alloc (.cells #[.int .i64 e.frm, .int .i64 e.to_, .string e.label, .int .i64 e.cost] 89) := ⟨_, rfl⟩
      have hb1 : Below w.heap.size w w1 := by rw [hw1]; exact hb.alloc hb.size _
      have hm1 : Below wr.heap.size wr w1 := by rw [hw1]; exact below_alloc _ _
      have p0 : w1.cell? ⟨w.heap.size, 0, none⟩ = some (.int .i64 n) := cell_later hm1 q0
      have p1 : w1.cell? ⟨w.heap.size, 1, none⟩ = some (.slice (some ⟨b, off, none⟩) x.length cap) := cell_later hm1 q1
      have e0 : w1.cell? ⟨wr.heap.size, 0, none⟩ = some (.int .i64 e.frm) := by rw [hw1]; simp
      have e1 : w1.cell? ⟨wr.heap.size, 1, none⟩ = some (.int .i64 e.to_) := by rw [hw1]; simp
      have e2 : w1.cell? ⟨wr.heap.size, 2, none⟩ = some (.string e.label) := by rw [hw1]; simp
      have e3 : w1.cell? ⟨wr.heap.size, 3, none⟩ = some (.int .i64 e.cost) := by rw [hw1]; simp
      cases hf : fitE n e
      · have HF : ∀ w', Calls Try.prog 68 #[.agg #[.int .i64 n, .slice (some ⟨b, off, none⟩) x.length cap], .agg #[.int .i64 e.frm, .int .i64 e.to_, .string e.label, .int .i64 e.cost]] w' (Ret (.bool false) w') := fun w' => hf ▸ fitsNodes_any n _ e w'
        go_wp2
        rw [← hw1]
        have x_p0 := ext_cell p0
        have x_p1 := ext_cell p1
        have x_e0 := ext_cell e0
        have x_e1 := ext_cell e1
        have x_e2 := ext_cell e2
        have x_e3 := ext_cell e3
        refine wp_region_ext (by kernel_rfl) (by kernel_rfl) ?_
        repeat (go_big_quiet_step ((go_at_call 68; exact ret_ext (HF _))))
        refine wpQuiet_nil ?_
        intro _ hw'
        obtain ⟨nq, hw''⟩ := hw'
        subst hw''
        replace p0 := x_p0 nq
        replace p1 := x_p1 nq
        replace e0 := x_e0 nq
        replace e1 := x_e1 nq
        replace e2 := x_e2 nq
        replace e3 := x_e3 nq
        clear x_p0 x_p1 x_e0 x_e1 x_e2 x_e3
        replace hb1 := hb1.trans ((ext_below _ nq).mono hb1.size)
        go_wp2
        go_ret
        exact ret_bool (by simp [validLt, validEd_at HE.out (show edOk n x k e = false by simp [edOk, hf])]) hb1
      have HF : ∀ w', Calls Try.prog 68 #[.agg #[.int .i64 n, .slice (some ⟨b, off, none⟩) x.length cap], .agg #[.int .i64 e.frm, .int .i64 e.to_, .string e.label, .int .i64 e.cost]] w' (Ret (.bool true) w') := fun w' => hf ▸ fitsNodes_any n _ e w'
      cases hw : isLabelB e.label
      · have HW := implLabel_is hws hw
        go_wp2
        rw [← hw1]
        have x_p0 := ext_cell p0
        have x_p1 := ext_cell p1
        have x_e0 := ext_cell e0
        have x_e1 := ext_cell e1
        have x_e2 := ext_cell e2
        have x_e3 := ext_cell e3
        refine wp_region_ext (by kernel_rfl) (by kernel_rfl) ?_
        repeat (go_big_quiet_step ((first | (go_at_call 68; exact ret_ext (HF _)) | (go_at_call 69; exact same_ext (HW _)))))
        refine wpQuiet_nil ?_
        intro _ hw'
        obtain ⟨nq, hw''⟩ := hw'
        subst hw''
        replace p0 := x_p0 nq
        replace p1 := x_p1 nq
        replace e0 := x_e0 nq
        replace e1 := x_e1 nq
        replace e2 := x_e2 nq
        replace e3 := x_e3 nq
        clear x_p0 x_p1 x_e0 x_e1 x_e2 x_e3
        replace hb1 := hb1.trans ((ext_below _ nq).mono hb1.size)
        go_wp2
        go_ret
        exact ret_bool (by simp [validLt, validEd_at HE.out (show edOk n x k e = false by simp [edOk, hw])]) hb1
      have HW := implLabel_is hws hw
      by_cases hk0 : 0 < k
      · have hki : (0 : Int) < (k : Int) := by omega
        have hk1 : (0 : Int) ≤ (k : Int) - 1 := by omega
        have hk2 : (k : Int) - 1 < (x.length : Int) := by omega
        obtain ⟨pe, hpe⟩ : ∃ pe, x[k - 1]? = some pe := ⟨_, List.getElem?_eq_getElem (by omega)⟩
        obtain ⟨d0, d1, d2, d3⟩ := eEdge_cells (hc.below hb1 hbw) hpe
        have ek : ((k : Int) - 1).toNat = k - 1 := by omega
        have HP := hid hpe
        clear hpe
        have HO := fun w' => compareEdges_any pe e w'
        by_cases ho : ordE pe e < 0
        · have go1 : decide (0 ≤ ordE pe e) = false := by simp; omega
          go_wp2
          rw [← hw1]
          have x_p0 := ext_cell p0
          have x_p1 := ext_cell p1
          have x_e0 := ext_cell e0
          have x_e1 := ext_cell e1
          have x_e2 := ext_cell e2
          have x_e3 := ext_cell e3
          have x_d0 := ext_cell d0
          have x_d1 := ext_cell d1
          have x_d2 := ext_cell d2
          have x_d3 := ext_cell d3
          refine wp_region_ext (by kernel_rfl) (by kernel_rfl) ?_
          repeat (go_big_quiet_step ((first | (go_at_call 68; exact ret_ext (HF _)) | (go_at_call 69; exact same_ext (HW _)) | (go_at_call 70; exact ret_ext (HO _)))))
          refine wpQuiet_nil ?_
          intro _ hw'
          obtain ⟨nq, hw''⟩ := hw'
          subst hw''
          replace p0 := x_p0 nq
          replace p1 := x_p1 nq
          replace e0 := x_e0 nq
          replace e1 := x_e1 nq
          replace e2 := x_e2 nq
          replace e3 := x_e3 nq
          replace d0 := x_d0 nq
          replace d1 := x_d1 nq
          replace d2 := x_d2 nq
          replace d3 := x_d3 nq
          clear x_p0 x_p1 x_e0 x_e1 x_e2 x_e3 x_d0 x_d1 x_d2 x_d3
          replace hb1 := hb1.trans ((ext_below _ nq).mono hb1.size)
          go_wp2
          go_roundw
          case rel =>
            refine ⟨k + 1, by omega, by go_num, hb1, p0, p1, fun j e' hj he' => ?_⟩
            by_cases ej : j = k
            · subst ej
              rw [HE.out] at he'; obtain rfl := Option.some.inj he'
              obtain ⟨k', rfl⟩ : ∃ k', j = k' + 1 := ⟨j - 1, by omega⟩
              have hp := HP.out
              simp at hp
              simp [edOk, hw, hf, ordAtE, hp, ho]
            · exact HA.out j e' (by omega) he'
          case measure => simp [intOf]; omega
        · have go1 : decide (0 ≤ ordE pe e) = true := by simp; omega
          go_wp2
          rw [← hw1]
          have x_p0 := ext_cell p0
          have x_p1 := ext_cell p1
          have x_e0 := ext_cell e0
          have x_e1 := ext_cell e1
          have x_e2 := ext_cell e2
          have x_e3 := ext_cell e3
          have x_d0 := ext_cell d0
          have x_d1 := ext_cell d1
          have x_d2 := ext_cell d2
          have x_d3 := ext_cell d3
          refine wp_region_ext (by kernel_rfl) (by kernel_rfl) ?_
          repeat (go_big_quiet_step ((first | (go_at_call 68; exact ret_ext (HF _)) | (go_at_call 69; exact same_ext (HW _)) | (go_at_call 70; exact ret_ext (HO _)))))
          refine wpQuiet_nil ?_
          intro _ hw'
          obtain ⟨nq, hw''⟩ := hw'
          subst hw''
          replace p0 := x_p0 nq
          replace p1 := x_p1 nq
          replace e0 := x_e0 nq
          replace e1 := x_e1 nq
          replace e2 := x_e2 nq
          replace e3 := x_e3 nq
          replace d0 := x_d0 nq
          replace d1 := x_d1 nq
          replace d2 := x_d2 nq
          replace d3 := x_d3 nq
          clear x_p0 x_p1 x_e0 x_e1 x_e2 x_e3 x_d0 x_d1 x_d2 x_d3
          replace hb1 := hb1.trans ((ext_below _ nq).mono hb1.size)
          go_wp2
          go_ret
          refine ret_bool ?_ hb1
          have hV : validEd n x = false := by
            refine validEd_at HE.out ?_
            obtain ⟨k', rfl⟩ : ∃ k', k = k' + 1 := ⟨k - 1, by omega⟩
            have hp := HP.out
            simp at hp
            simp [edOk, hw, hf, ordAtE, hp]
            omega
          simp [validLt, hV]
      · have hki : (k : Int) ≤ 0 := by omega
        go_wp2
        rw [← hw1]
        have x_p0 := ext_cell p0
        have x_p1 := ext_cell p1
        have x_e0 := ext_cell e0
        have x_e1 := ext_cell e1
        have x_e2 := ext_cell e2
        have x_e3 := ext_cell e3
        refine wp_region_ext (by kernel_rfl) (by kernel_rfl) ?_
        repeat (go_big_quiet_step ((first | (go_at_call 68; exact ret_ext (HF _)) | (go_at_call 69; exact same_ext (HW _)))))
        refine wpQuiet_nil ?_
        intro _ hw'
        obtain ⟨nq, hw''⟩ := hw'
        subst hw''
        replace p0 := x_p0 nq
        replace p1 := x_p1 nq
        replace e0 := x_e0 nq
        replace e1 := x_e1 nq
        replace e2 := x_e2 nq
        replace e3 := x_e3 nq
        clear x_p0 x_p1 x_e0 x_e1 x_e2 x_e3
        replace hb1 := hb1.trans ((ext_below _ nq).mono hb1.size)
        go_wp2
        go_roundw
        case rel =>
          refine ⟨k + 1, by omega, by go_num, hb1, p0, p1, fun j e' hj he' => ?_⟩
          obtain rfl : k = 0 := by omega
          obtain rfl : j = 0 := by omega
          rw [HE.out] at he'; obtain rfl := Option.some.inj he'
          simp [edOk, hw, hf, ordAtE]
        case measure => simp [intOf]; omega
    · have HV := hid (validEd_all (n := n) (x := x) fun j e hj => HA.out j e (by omega))
      have HI : ∀ w', Calls Try.prog 45 #[.int .i64 n, .int .i64 1, .int .i64 20] w' fun e w'' => e = .returned (.bool (inB n 1 20)) ∧ w' = w'' := fun w' => within_any _ _ _ w'
      clear hao
      cases hn : inB n 1 20
      all_goals rw [hn] at HI
      · have HN := hid hn
        clear hn
        go_wp2_with (go_at_call 45; refine (HI _).mono ?_; rintro e w' ⟨rfl, rfl⟩)
        go_ret
        exact ret_bool (by simp [validLt, HN.out]) hb
      · have HN := hid hn
        clear hn
        go_wp2_with (go_at_call 45; refine (HI _).mono ?_; rintro e w' ⟨rfl, rfl⟩)
        go_ret
        exact ret_bool (by simp [validLt, HN.out, HV.out]; omega) hb
end Go.Proofs.Ytnhmailnnggmjaa
