/- A stroke is told valid; its box; whether it is a dot: the calls. -/
import Derived.Test.YtlnoelbeaolikaaGreatInkSt
namespace Go.Proofs.YtlnoelbeaolikaaGreat
open Go.RowKit

set_option maxHeartbeats 4000000 in
theorem l02Stroke_any (p o : Nat) (v : Value) (x : List DPoint) (w : World) (hp : w.cell? ⟨p, o, none⟩ = some v) (h : Arr ePoint w v x) (ok : x.length ≤ 1048576) :
    Calls Tryz.prog 54 #[.pointer (some ⟨p, o, none⟩)] w (Ret (.bool (validSt x)) w) := by
  obtain ⟨b, off, ao, cap, rfl, hnc, hcm, hao, hc⟩ := h
  unfold maxLen at hcm
  have hpl := World.block_lt_of_cell? w _ hp
  go_enter Tryz.func54, Tryz.ntmps54
  go_wp2
  go_loopw [3] (fun i wr => ∃ k : Nat, k ≤ x.length ∧ i = .int .i64 k ∧ Below w.heap.size w wr ∧ ∀ j e, j < k → x[j]? = some e → stOk x j e = true) (fun i _ => x.length - (intOf i).toNat)
  case atStart => exact ⟨0, Nat.zero_le _, rfl, Below.refl _ _, fun j e h => by omega⟩
  case round =>
    obtain ⟨k, hk, rfl, hb, hall⟩ := hrel
    have HA := hid hall
    clear hall
    have q1 := (hb.cell (p := ⟨p, o, none⟩) hpl).trans hp
    clear hp
    by_cases hlt : k < x.length
    · obtain ⟨hao', hbw⟩ := hao (by omega)
      subst hao'
      obtain ⟨e, he⟩ : ∃ e, x[k]? = some e := ⟨_, List.getElem?_eq_getElem hlt⟩
      obtain ⟨c0, c1, c2⟩ := ePoint_cells (hc.below hb hbw) he
      have hli : (k : Int) < (x.length : Int) := by omega
      have HE := hid he
      clear he hao
      have HP := fun w' => l02Point_any e w'
      cases hv : ptOk e
      · rw [hv] at HP
        go_wp2
        have x_q1 := ext_cell q1
        have x_c0 := ext_cell c0
        have x_c1 := ext_cell c1
        have x_c2 := ext_cell c2
        refine wp_region_ext (by kernel_rfl) (by kernel_rfl) ?_
        repeat (go_big_quiet_step ((go_at_call 92; exact ret_ext (HP _))))
        refine wpQuiet_nil ?_
        intro _ hw'
        obtain ⟨nq, hw''⟩ := hw'
        subst hw''
        replace q1 := x_q1 nq
        replace c0 := x_c0 nq
        replace c1 := x_c1 nq
        replace c2 := x_c2 nq
        clear x_q1 x_c0 x_c1 x_c2
        replace hb := hb.trans ((ext_below _ nq).mono hb.size)
        go_wp2
        go_ret
        exact ret_bool (validSt_at HE.out (by simp [stOk, hv])).symm hb
      rw [hv] at HP
      by_cases hk0 : 0 < k
      · have hki : (0 : Int) < (k : Int) := by omega
        have hk1 : (0 : Int) ≤ (k : Int) - 1 := by omega
        have hk2 : (k : Int) - 1 < (x.length : Int) := by omega
        obtain ⟨pe, hpe⟩ : ∃ pe, x[k - 1]? = some pe := ⟨_, List.getElem?_eq_getElem (by omega)⟩
        obtain ⟨d0, d1, d2⟩ := ePoint_cells (hc.below hb hbw) hpe
        have e1 : ((k : Int) - 1).toNat = k - 1 := by omega
        have HORD : Hid (ordAtP x k e = decide (pe.t < e.t)) := by
          show ordAtP x k e = _
          obtain ⟨k', rfl⟩ : ∃ k', k = k' + 1 := ⟨k - 1, by omega⟩
          simp at hpe
          simp [ordAtP, hpe]
        clear hpe
        by_cases ho : e.t ≤ pe.t
        · go_wp2
          have x_q1 := ext_cell q1
          have x_c0 := ext_cell c0
          have x_c1 := ext_cell c1
          have x_c2 := ext_cell c2
          have x_d2 := ext_cell d2
          refine wp_region_ext (by kernel_rfl) (by kernel_rfl) ?_
          repeat (go_big_quiet_step ((go_at_call 92; exact ret_ext (HP _))))
          refine wpQuiet_nil ?_
          intro _ hw'
          obtain ⟨nq, hw''⟩ := hw'
          subst hw''
          replace q1 := x_q1 nq
          replace c0 := x_c0 nq
          replace c1 := x_c1 nq
          replace c2 := x_c2 nq
          replace d2 := x_d2 nq
          clear x_q1 x_c0 x_c1 x_c2 x_d2
          replace hb := hb.trans ((ext_below _ nq).mono hb.size)
          go_wp2
          go_ret
          exact ret_bool (validSt_at HE.out (by simp [stOk, HORD.out]; intros; omega)).symm hb
        · have ho' : pe.t < e.t := by omega
          go_wp2
          have x_q1 := ext_cell q1
          have x_c0 := ext_cell c0
          have x_c1 := ext_cell c1
          have x_c2 := ext_cell c2
          have x_d2 := ext_cell d2
          refine wp_region_ext (by kernel_rfl) (by kernel_rfl) ?_
          repeat (go_big_quiet_step ((go_at_call 92; exact ret_ext (HP _))))
          refine wpQuiet_nil ?_
          intro _ hw'
          obtain ⟨nq, hw''⟩ := hw'
          subst hw''
          replace q1 := x_q1 nq
          replace c0 := x_c0 nq
          replace c1 := x_c1 nq
          replace c2 := x_c2 nq
          replace d2 := x_d2 nq
          clear x_q1 x_c0 x_c1 x_c2 x_d2
          replace hb := hb.trans ((ext_below _ nq).mono hb.size)
          go_wp2
          go_roundw
          case rel =>
            refine ⟨k + 1, by omega, by go_num, hb, fun j e' hj he' => ?_⟩
            by_cases ej : j = k
            · subst ej
              rw [HE.out] at he'; obtain rfl := Option.some.inj he'
              simp [stOk, hv, HORD.out, ho']
            · exact HA.out j e' (by omega) he'
          case measure => simp [intOf]; omega
      · have hki : (k : Int) ≤ 0 := by omega
        go_wp2
        have x_q1 := ext_cell q1
        have x_c0 := ext_cell c0
        have x_c1 := ext_cell c1
        have x_c2 := ext_cell c2
        refine wp_region_ext (by kernel_rfl) (by kernel_rfl) ?_
        repeat (go_big_quiet_step ((go_at_call 92; exact ret_ext (HP _))))
        refine wpQuiet_nil ?_
        intro _ hw'
        obtain ⟨nq, hw''⟩ := hw'
        subst hw''
        replace q1 := x_q1 nq
        replace c0 := x_c0 nq
        replace c1 := x_c1 nq
        replace c2 := x_c2 nq
        clear x_q1 x_c0 x_c1 x_c2
        replace hb := hb.trans ((ext_below _ nq).mono hb.size)
        go_wp2
        go_roundw
        case rel =>
          refine ⟨k + 1, by omega, by go_num, hb, fun j e' hj he' => ?_⟩
          obtain rfl : k = 0 := by omega
          obtain rfl : j = 0 := by omega
          rw [HE.out] at he'; obtain rfl := Option.some.inj he'
          simp [stOk, hv, ordAtP]
        case measure => simp [intOf]; omega
    · have HV := hid (validSt_all (x := x) fun j e hj => HA.out j e (by omega))
      clear hao
      go_wp2_with (go_at_call 53; refine (l00In_any _ _ _ _).mono ?_; rintro e w' ⟨rfl, rfl⟩)
      go_ret
      exact ret_bool (by rw [HV.out]) hb
set_option maxHeartbeats 4000000 in
theorem implValidStroke_any (v : Value) (x : List DPoint) (w : World) (h : Arr ePoint w v x) (ok : x.length ≤ 1048576) :
    Calls Tryz.prog 66 #[.agg #[v]] w (Ret (.bool (validSt x)) w) := by
  obtain ⟨b, off, ao, cap, rfl, hnc, hcm, hao, hc⟩ := h
  unfold maxLen at hcm
  go_enter Tryz.func66, Tryz.ntmps66
  go_wp2
  go_loopw [8] (fun i wr => ∃ k : Nat, k ≤ x.length ∧ i = .int .i64 k ∧ Below w.heap.size w wr ∧ wr.cell? ⟨w.heap.size, 0, none⟩ = some (.slice ao x.length cap) ∧ ∀ j e, j < k → x[j]? = some e → stOk x j e = true) (fun i _ => x.length - (intOf i).toNat)
  case atStart => exact ⟨0, Nat.zero_le _, rfl, below_alloc _ _, by simp, fun j e h => by omega⟩
  case round =>
    obtain ⟨k, hk, rfl, hb, q1, hall⟩ := hrel
    have HA := hid hall
    clear hall
    by_cases hlt : k < x.length
    · obtain ⟨hao', hbw⟩ := hao (by omega)
      subst hao'
      obtain ⟨e, he⟩ : ∃ e, x[k]? = some e := ⟨_, List.getElem?_eq_getElem hlt⟩
      obtain ⟨c0, c1, c2⟩ := ePoint_cells (hc.below hb hbw) he
      have hli : (k : Int) < (x.length : Int) := by omega
      have HE := hid he
      clear he hao
      obtain ⟨w1, hw1⟩ : ∃ w1, w1 = wr.alloc (.cells #[.int .i64 e.x, .int .i64 e.y, .int .i64 e.t] 114) := ⟨_, rfl⟩
      have hb1 : Below w.heap.size w w1 := by rw [hw1]; exact hb.alloc hb.size _
      have p1 : w1.cell? ⟨w.heap.size, 0, none⟩ = some (.slice (some ⟨b, off, none⟩) x.length cap) := by rw [hw1]; exact cell_alloc q1 _
      have e0 : w1.cell? ⟨wr.heap.size, 0, none⟩ = some (.int .i64 e.x) := by rw [hw1]; simp
      have e1 : w1.cell? ⟨wr.heap.size, 1, none⟩ = some (.int .i64 e.y) := by rw [hw1]; simp
      have e2 : w1.cell? ⟨wr.heap.size, 2, none⟩ = some (.int .i64 e.t) := by rw [hw1]; simp
      have HW1 := hid hw1
      clear hw1
      have HP := fun w' => validPoint_any e w'
      cases hv : ptOk e
      · rw [hv] at HP
        go_wp2
        rw [← HW1.out]
        have x_p1 := ext_cell p1
        have x_e0 := ext_cell e0
        have x_e1 := ext_cell e1
        have x_e2 := ext_cell e2
        refine wp_region_ext (by kernel_rfl) (by kernel_rfl) ?_
        repeat (go_big_quiet_step ((go_at_call 104; exact ret_ext (HP _))))
        refine wpQuiet_nil ?_
        intro _ hw'
        obtain ⟨nq, hw''⟩ := hw'
        subst hw''
        replace p1 := x_p1 nq
        replace e0 := x_e0 nq
        replace e1 := x_e1 nq
        replace e2 := x_e2 nq
        clear x_p1 x_e0 x_e1 x_e2
        replace hb1 := hb1.trans ((ext_below _ nq).mono hb1.size)
        go_wp2
        go_ret
        exact ret_bool (validSt_at HE.out (by simp [stOk, hv])).symm hb1
      rw [hv] at HP
      by_cases hk0 : 0 < k
      · have hki : (0 : Int) < (k : Int) := by omega
        have hk1 : (0 : Int) ≤ (k : Int) - 1 := by omega
        have hk2 : (k : Int) - 1 < (x.length : Int) := by omega
        obtain ⟨pe, hpe⟩ : ∃ pe, x[k - 1]? = some pe := ⟨_, List.getElem?_eq_getElem (by omega)⟩
        obtain ⟨d0, d1, d2⟩ := ePoint_cells (hc.below hb1 hbw) hpe
        have ek : ((k : Int) - 1).toNat = k - 1 := by omega
        have HORD : Hid (ordAtP x k e = decide (pe.t < e.t)) := by
          show ordAtP x k e = _
          obtain ⟨k', rfl⟩ : ∃ k', k = k' + 1 := ⟨k - 1, by omega⟩
          simp at hpe
          simp [ordAtP, hpe]
        clear hpe
        by_cases ho : e.t ≤ pe.t
        · go_wp2
          rw [← HW1.out]
          have x_p1 := ext_cell p1
          have x_e0 := ext_cell e0
          have x_e1 := ext_cell e1
          have x_e2 := ext_cell e2
          have x_d2 := ext_cell d2
          refine wp_region_ext (by kernel_rfl) (by kernel_rfl) ?_
          repeat (go_big_quiet_step ((go_at_call 104; exact ret_ext (HP _))))
          refine wpQuiet_nil ?_
          intro _ hw'
          obtain ⟨nq, hw''⟩ := hw'
          subst hw''
          replace p1 := x_p1 nq
          replace e0 := x_e0 nq
          replace e1 := x_e1 nq
          replace e2 := x_e2 nq
          replace d2 := x_d2 nq
          clear x_p1 x_e0 x_e1 x_e2 x_d2
          replace hb1 := hb1.trans ((ext_below _ nq).mono hb1.size)
          go_wp2
          go_ret
          exact ret_bool (validSt_at HE.out (by simp [stOk, HORD.out]; intros; omega)).symm hb1
        · have ho' : pe.t < e.t := by omega
          go_wp2
          rw [← HW1.out]
          have x_p1 := ext_cell p1
          have x_e0 := ext_cell e0
          have x_e1 := ext_cell e1
          have x_e2 := ext_cell e2
          have x_d2 := ext_cell d2
          refine wp_region_ext (by kernel_rfl) (by kernel_rfl) ?_
          repeat (go_big_quiet_step ((go_at_call 104; exact ret_ext (HP _))))
          refine wpQuiet_nil ?_
          intro _ hw'
          obtain ⟨nq, hw''⟩ := hw'
          subst hw''
          replace p1 := x_p1 nq
          replace e0 := x_e0 nq
          replace e1 := x_e1 nq
          replace e2 := x_e2 nq
          replace d2 := x_d2 nq
          clear x_p1 x_e0 x_e1 x_e2 x_d2
          replace hb1 := hb1.trans ((ext_below _ nq).mono hb1.size)
          go_wp2
          go_roundw
          case rel =>
            refine ⟨k + 1, by omega, by go_num, hb1, p1, fun j e' hj he' => ?_⟩
            by_cases ej : j = k
            · subst ej
              rw [HE.out] at he'; obtain rfl := Option.some.inj he'
              simp [stOk, hv, HORD.out, ho']
            · exact HA.out j e' (by omega) he'
          case measure => simp [intOf]; omega
      · have hki : (k : Int) ≤ 0 := by omega
        go_wp2
        rw [← HW1.out]
        have x_p1 := ext_cell p1
        have x_e0 := ext_cell e0
        have x_e1 := ext_cell e1
        have x_e2 := ext_cell e2
        refine wp_region_ext (by kernel_rfl) (by kernel_rfl) ?_
        repeat (go_big_quiet_step ((go_at_call 104; exact ret_ext (HP _))))
        refine wpQuiet_nil ?_
        intro _ hw'
        obtain ⟨nq, hw''⟩ := hw'
        subst hw''
        replace p1 := x_p1 nq
        replace e0 := x_e0 nq
        replace e1 := x_e1 nq
        replace e2 := x_e2 nq
        clear x_p1 x_e0 x_e1 x_e2
        replace hb1 := hb1.trans ((ext_below _ nq).mono hb1.size)
        go_wp2
        go_roundw
        case rel =>
          refine ⟨k + 1, by omega, by go_num, hb1, p1, fun j e' hj he' => ?_⟩
          obtain rfl : k = 0 := by omega
          obtain rfl : j = 0 := by omega
          rw [HE.out] at he'; obtain rfl := Option.some.inj he'
          simp [stOk, hv, ordAtP]
        case measure => simp [intOf]; omega
    · have HV := hid (validSt_all (x := x) fun j e hj => HA.out j e (by omega))
      clear hao
      by_cases hl1 : 1 ≤ x.length
      · have g1 : decide ((1 : Int) ≤ (x.length : Int)) = true := by simp; omega
        go_wp2
        go_ret
        exact ret_bool (by rw [HV.out, inB]; simp; omega) hb
      · have g1 : decide ((1 : Int) ≤ (x.length : Int)) = false := by simp; omega
        go_wp2
        go_ret
        exact ret_bool (by rw [HV.out, inB]; simp; omega) hb
theorem Box.set4 {w : World} {q : Nat} {a b c d a' b' c' d' : Value} {T : TypeId} (h : Box w q #[a, b, c, d] T) : Box ((((w.setCell ⟨q, 0, none⟩ a').setCell ⟨q, 1, none⟩ b').setCell ⟨q, 2, none⟩ c').setCell ⟨q, 3, none⟩ d') q #[a', b', c', d'] T :=
  (((h.set 0 a').set 1 b').set 2 c').set 3 d'
theorem Box.other {w : World} {q p o : Nat} {cs : Array Value} {T : TypeId} {u : Value} (h : Box w q cs T) (hne : q ≠ p) : Box (w.setCell ⟨p, o, none⟩ u) q cs T := by
  unfold Box at *
  rw [Below.heap_setCell _ _ _ _ hne]; exact h
set_option maxHeartbeats 4000000 in
theorem l02BoxOf_any (p o : Nat) (v : Value) (x : List DPoint) (w : World) (hp : w.cell? ⟨p, o, none⟩ = some v) (h : Arr ePoint w v x) (ok : x.length ≤ 1048576) (h0 : 0 < x.length) :
    Calls Tryz.prog 140 #[.pointer (some ⟨p, o, none⟩)] w (Ret (vBox (boxSt x)) w) := by
  obtain ⟨b, off, ao, cap, rfl, hnc, hcm, hao, hc⟩ := h
  unfold maxLen at hcm
  have hpl := World.block_lt_of_cell? w _ hp
  obtain ⟨hao', hbw⟩ := hao h0
  subst hao'
  obtain ⟨p0, hp0⟩ : ∃ p0, x[0]? = some p0 := ⟨_, List.getElem?_eq_getElem h0⟩
  have HB := hid (boxSt_over hp0)
  have H1 := hid (over_one hp0)
  obtain ⟨c0, c1, c2⟩ := ePoint_cells hc hp0
  simp only [Nat.zero_mul, Nat.add_zero] at c0 c1 c2
  have hl0 : (0 : Int) < (x.length : Int) := by omega
  clear hao hp0
  have hE1 := c0
  obtain ⟨W, hW⟩ : ∃ W, W = ((w.alloc (.cells #[.int .i64 0, .int .i64 0, .int .i64 0, .int .i64 0] 158)).alloc (.cells #[.int .i64 p0.x, .int .i64 p0.y, .int .i64 p0.t] 114)).alloc (.cells #[.int .i64 p0.x, .int .i64 p0.y, .int .i64 p0.x, .int .i64 p0.y] 158) := ⟨_, rfl⟩
  have hbW : Below w.heap.size w W := by rw [hW]; exact (((Below.refl _ _).alloc (Nat.le_refl _) _).alloc (by simp) _).alloc (by simp <;> omega) _
  have q1 : Box W w.heap.size #[.int .i64 0, .int .i64 0, .int .i64 0, .int .i64 0] 158 := by rw [hW]; exact ((Box.new w _ _).alloc _).alloc _
  have q3 : Box W (w.heap.size + 1 + 1) #[.int .i64 p0.x, .int .i64 p0.y, .int .i64 p0.x, .int .i64 p0.y] 158 := by
    rw [hW]
    have := Box.new ((w.alloc (.cells #[.int .i64 0, .int .i64 0, .int .i64 0, .int .i64 0] 158)).alloc (.cells #[.int .i64 p0.x, .int .i64 p0.y, .int .i64 p0.t] 114)) #[.int .i64 p0.x, .int .i64 p0.y, .int .i64 p0.x, .int .i64 p0.y] 158
    rw [World.size_alloc, World.size_alloc] at this
    exact this
  have hp1 := cell_alloc hp (.cells #[.int .i64 0, .int .i64 0, .int .i64 0, .int .i64 0] 158)
  have c0' := cell_alloc c0 (.cells #[.int .i64 0, .int .i64 0, .int .i64 0, .int .i64 0] 158)
  have c1' := cell_alloc c1 (.cells #[.int .i64 0, .int .i64 0, .int .i64 0, .int .i64 0] 158)
  have c2' := cell_alloc c2 (.cells #[.int .i64 0, .int .i64 0, .int .i64 0, .int .i64 0] 158)
  have HW := hid hW
  clear hW
  go_enter Tryz.func140, Tryz.ntmps140
  go_wp2
  rw [← HW.out]
  clear hp1 c0' c1' c2' c0 c1 c2 hE1
  go_loopw [5] (fun i wr => ∃ k : Nat, 1 ≤ k ∧ k ≤ x.length ∧ i = .int .i64 k ∧ Below w.heap.size w wr ∧ Box wr w.heap.size #[.int .i64 0, .int .i64 0, .int .i64 0, .int .i64 0] 158 ∧
      Box wr (w.heap.size + 1 + 1) #[.int .i64 (boxOver p0 (x.take k)).x1, .int .i64 (boxOver p0 (x.take k)).y1, .int .i64 (boxOver p0 (x.take k)).x2, .int .i64 (boxOver p0 (x.take k)).y2] 158) (fun i _ => x.length - (intOf i).toNat)
  case atStart => exact ⟨1, Nat.le_refl _, h0, rfl, hbW, q1, by rw [H1.out]; exact q3⟩
  case round =>
    clear q1 q3 hbW
    obtain ⟨k, hk1, hk, rfl, hb, q1, q3⟩ := hrel
    have p1 := (hb.cell (p := ⟨p, o, none⟩) hpl).trans hp
    clear hp
    obtain ⟨B, hBB⟩ : ∃ B, B = boxOver p0 (x.take k) := ⟨_, rfl⟩
    rw [← hBB] at q3
    have HBB := hid hBB
    clear hBB
    have e0 := q3.cell (j := 0) rfl
    have e1 := q3.cell (j := 1) rfl
    have e2 := q3.cell (j := 2) rfl
    have e3 := q3.cell (j := 3) rfl
    by_cases hlt : k < x.length
    · obtain ⟨e, he⟩ : ∃ e, x[k]? = some e := ⟨_, List.getElem?_eq_getElem hlt⟩
      obtain ⟨c0, c1, c2⟩ := ePoint_cells (hc.below hb hbw) he
      have HT := hid (over_take (p := p0) he)
      have hli : (k : Int) < (x.length : Int) := by omega
      clear he
      have k0 := cell_alloc e0 (.cells #[.int .i64 e.x, .int .i64 e.y, .int .i64 e.t] 114)
      have k1 := cell_alloc e1 (.cells #[.int .i64 e.x, .int .i64 e.y, .int .i64 e.t] 114)
      have k2 := cell_alloc e2 (.cells #[.int .i64 e.x, .int .i64 e.y, .int .i64 e.t] 114)
      have k3 := cell_alloc e3 (.cells #[.int .i64 e.x, .int .i64 e.y, .int .i64 e.t] 114)
      obtain ⟨w1, hw1⟩ : ∃ w1, w1 = wr.alloc (.cells #[.int .i64 e.x, .int .i64 e.y, .int .i64 e.t] 114) := ⟨_, rfl⟩
      have q1' : Box w1 _ _ _ := hw1 ▸ q1.alloc (.cells #[.int .i64 e.x, .int .i64 e.y, .int .i64 e.t] 114)
      have q3' : Box w1 _ _ _ := hw1 ▸ q3.alloc (.cells #[.int .i64 e.x, .int .i64 e.y, .int .i64 e.t] 114)
      have hb1 : Below w.heap.size w w1 := by rw [hw1]; exact hb.alloc hb.size _
      have HW1 := hid hw1
      clear hw1
      have HJ : ∀ w', Calls Tryz.prog 141 #[.agg #[.int .i64 B.x1, .int .i64 B.y1, .int .i64 B.x2, .int .i64 B.y2], .agg #[.int .i64 e.x, .int .i64 e.y, .int .i64 e.x, .int .i64 e.y]] w' (Ret (vBox (joinB B (ptBox e))) w') := fun w' => l02Join_any B (ptBox e) w'
      go_wp2_with fail
      rw [← HW1.out]
      refine (HJ _).mono ?_
      rintro e' w2 ⟨rfl, hb2⟩
      have q1'' := q1'.later hb2
      have q3'' := q3'.later hb2
      have f0 := q3''.cell (j := 0) rfl
      have f1 := q3''.cell (j := 1) rfl
      have f2 := q3''.cell (j := 2) rfl
      have f3 := q3''.cell (j := 3) rfl
      have ff := q3''.free
      unfold vBox
      clear q1' q3' e0 e1 e2 e3 k0 k1 k2 k3
      have hb3 := hb1.trans (hb2.mono hb1.size)
      go_wp2
      go_roundw
      case rel =>
        refine ⟨k + 1, by omega, by omega, by go_num, ?_, ?_, ?_⟩
        · exact (((hb3.setCell (by simp; omega) _).setCell (by simp; omega) _).setCell (by simp; omega) _).setCell (by simp; omega) _
        · exact (((q1''.other (by omega)).other (by omega)).other (by omega)).other (by omega)
        · rw [HT.out, ← HBB.out]
          exact q3''.set4
      case measure => simp [intOf]; omega
    · obtain rfl : k = x.length := by omega
      have f0 := q1.cell (j := 0) rfl
      have f1 := q1.cell (j := 1) rfl
      have f2 := q1.cell (j := 2) rfl
      have f3 := q1.cell (j := 3) rfl
      have ff := q1.free
      go_wp2
      have HF : B = boxSt x := by rw [HBB.out, List.take_length]; exact HB.out.symm
      refine bodyPost_ret (v := vBox B) (by simp [results, Tryz.results140, go_sem, vBox, f0, f1, f2, f3]) rfl (ret_ret (by rw [HF]) ?_)
      exact (((hb.setCell (by simp) _).setCell (by simp) _).setCell (by simp) _).setCell (by simp) _
set_option maxHeartbeats 1000000 in
theorem firstOf_any (b off cap : Nat) (x : List DPoint) (p0 : DPoint) (w : World) (hc : Cells ePoint w b off x) (_ : cap ≤ maxLen) (hp0 : x[0]? = some p0) :
    Calls Tryz.prog 67 #[.agg #[.slice (some ⟨b, off, none⟩) x.length cap]] w (Ret (.agg #[.int .i64 p0.x, .int .i64 p0.y, .int .i64 p0.t]) w) := by
  obtain ⟨c0, c1, c2⟩ := ePoint_cells hc hp0
  simp only [Nat.zero_mul, Nat.add_zero] at c0 c1 c2
  have hl0 : (0 : Int) < (x.length : Int) := by have := (List.getElem?_eq_some_iff.1 hp0).1; omega
  have d0 := cell_alloc (cell_alloc c0 (.cells #[.slice (some ⟨b, off, none⟩) x.length cap] 112)) (.cells #[.int .i64 0, .int .i64 0, .int .i64 0] 114)
  have d1 := cell_alloc (cell_alloc c1 (.cells #[.slice (some ⟨b, off, none⟩) x.length cap] 112)) (.cells #[.int .i64 0, .int .i64 0, .int .i64 0] 114)
  have d2 := cell_alloc (cell_alloc c2 (.cells #[.slice (some ⟨b, off, none⟩) x.length cap] 112)) (.cells #[.int .i64 0, .int .i64 0, .int .i64 0] 114)
  clear hp0
  go_enter Tryz.func67, Tryz.ntmps67
  go_wp2
  refine bodyPost_ret (v := .agg #[.int .i64 p0.x, .int .i64 p0.y, .int .i64 p0.t]) (by simp [results, Tryz.results67, go_sem]) rfl (ret_ret rfl ?_)
  exact ((Below.refl _ _).alloc (Nat.le_refl _) _).alloc (by simp) _
set_option maxHeartbeats 4000000 in
theorem boxOfStroke_any (v : Value) (x : List DPoint) (w : World) (h : Arr ePoint w v x) (ok : x.length ≤ 1048576) (h0 : 0 < x.length) :
    Calls Tryz.prog 151 #[.agg #[v]] w (Ret (vBox (boxSt x)) w) := by
  obtain ⟨b, off, ao, cap, rfl, hnc, hcm, hao, hc⟩ := h
  obtain ⟨hao', hbw⟩ := hao h0
  subst hao'
  obtain ⟨p0, hp0⟩ : ∃ p0, x[0]? = some p0 := ⟨_, List.getElem?_eq_getElem h0⟩
  have HB := hid (boxSt_over hp0)
  have HP0 := hid hp0
  have HMX := hid hcm
  unfold maxLen at hcm
  have hl0 : (0 : Int) < (x.length : Int) := by omega
  have hcW := ((hc.below (below_alloc w (.cells #[.slice (some ⟨b, off, none⟩) x.length cap] 112)) hbw).below (below_alloc _ (.cells #[.int .i64 0, .int .i64 0, .int .i64 0, .int .i64 0] 158)) (by simp; omega))
  obtain ⟨W, hW⟩ : ∃ W, W = (w.alloc (.cells #[.slice (some ⟨b, off, none⟩) x.length cap] 112)).alloc (.cells #[.int .i64 0, .int .i64 0, .int .i64 0, .int .i64 0] 158) := ⟨_, rfl⟩
  rw [← hW] at hcW
  have hbW : Below w.heap.size w W := by rw [hW]; exact ((Below.refl _ _).alloc (Nat.le_refl _) _).alloc (by simp) _
  have q0 : Box W w.heap.size #[.slice (some ⟨b, off, none⟩) x.length cap] 112 := by rw [hW]; exact (Box.new w _ _).alloc _
  have q1 : Box W (w.heap.size + 1) #[.int .i64 0, .int .i64 0, .int .i64 0, .int .i64 0] 158 := by
    rw [hW]
    have := Box.new (w.alloc (.cells #[.slice (some ⟨b, off, none⟩) x.length cap] 112)) #[.int .i64 0, .int .i64 0, .int .i64 0, .int .i64 0] 158
    rw [World.size_alloc] at this
    exact this
  have hsz : W.heap.size = w.heap.size + 1 + 1 := by rw [hW]; simp
  have HW := hid hW
  clear hW hao hp0
  go_enter Tryz.func151, Tryz.ntmps151
  go_wp2_with fail
  rw [← HW.out]
  refine (firstOf_any b off cap x p0 W hcW HMX.out HP0.out).mono ?_
  rintro e w2 ⟨rfl, hb2⟩
  have hbw2 := hbW.trans (hb2.mono hbW.size)
  have hz2 := hb2.size
  replace q0 := q0.later hb2
  replace q1 := q1.later hb2
  have HSZ := hid hsz
  clear hsz
  have s0 := q0.cell (j := 0) rfl
  have s0' := cell_alloc s0 (.cells #[.int .i64 p0.x, .int .i64 p0.y, .int .i64 p0.t] 114)
  have s0'' := cell_alloc s0' (.cells #[.int .i64 p0.x, .int .i64 p0.y, .int .i64 p0.x, .int .i64 p0.y] 158)
  obtain ⟨W3, hW3⟩ : ∃ W3, W3 = (w2.alloc (.cells #[.int .i64 p0.x, .int .i64 p0.y, .int .i64 p0.t] 114)).alloc (.cells #[.int .i64 p0.x, .int .i64 p0.y, .int .i64 p0.x, .int .i64 p0.y] 158) := ⟨_, rfl⟩
  have hb3 : Below w.heap.size w W3 := by rw [hW3]; exact (hbw2.alloc hbw2.size _).alloc (by have := hbw2.size; simp; omega) _
  have q1' : Box W3 (w.heap.size + 1) _ _ := hW3 ▸ (q1.alloc (.cells #[.int .i64 p0.x, .int .i64 p0.y, .int .i64 p0.t] 114)).alloc (.cells #[.int .i64 p0.x, .int .i64 p0.y, .int .i64 p0.x, .int .i64 p0.y] 158)
  have q3' : Box W3 (w2.heap.size + 1) #[.int .i64 p0.x, .int .i64 p0.y, .int .i64 p0.x, .int .i64 p0.y] 158 := by
    rw [hW3]
    have := Box.new (w2.alloc (.cells #[.int .i64 p0.x, .int .i64 p0.y, .int .i64 p0.t] 114)) #[.int .i64 p0.x, .int .i64 p0.y, .int .i64 p0.x, .int .i64 p0.y] 158
    rw [World.size_alloc] at this
    exact this
  have hg4 : w.heap.size + 1 < w2.heap.size + 1 := by have := HSZ.out; omega
  have HW3 := hid hW3
  clear hW3
  go_wp2
  rw [← HW3.out]
  clear s0 s0' s0'' q0 q1
  obtain ⟨g4, hg⟩ : ∃ g4, g4 = w2.heap.size + 1 := ⟨_, rfl⟩
  rw [← hg] at q3' hg4 ⊢
  have HG := hid hg
  clear hg
  go_loopw [21] (fun i wr => ∃ k : Nat, k ≤ x.length ∧ i = .int .i64 k ∧ Below w.heap.size w wr ∧ Box wr (w.heap.size + 1) #[.int .i64 0, .int .i64 0, .int .i64 0, .int .i64 0] 158 ∧
      Box wr g4 #[.int .i64 (boxOver p0 (x.take k)).x1, .int .i64 (boxOver p0 (x.take k)).y1, .int .i64 (boxOver p0 (x.take k)).x2, .int .i64 (boxOver p0 (x.take k)).y2] 158) (fun i _ => x.length - (intOf i).toNat)
  case atStart => exact ⟨0, Nat.zero_le _, rfl, hb3, q1', q3'⟩
  case round =>
    clear q1' q3' hb3
    obtain ⟨k, hk, rfl, hb, q1, q3⟩ := hrel
    obtain ⟨B, hBB⟩ : ∃ B, B = boxOver p0 (x.take k) := ⟨_, rfl⟩
    rw [← hBB] at q3
    have HBB := hid hBB
    clear hBB
    have e0 := q3.cell (j := 0) rfl
    have e1 := q3.cell (j := 1) rfl
    have e2 := q3.cell (j := 2) rfl
    have e3 := q3.cell (j := 3) rfl
    by_cases hlt : k < x.length
    · obtain ⟨e, he⟩ : ∃ e, x[k]? = some e := ⟨_, List.getElem?_eq_getElem hlt⟩
      obtain ⟨c0, c1, c2⟩ := ePoint_cells (hc.below hb hbw) he
      have HT := hid (over_take (p := p0) he)
      have hli : (k : Int) < (x.length : Int) := by omega
      clear he
      have k0 := cell_alloc e0 (.cells #[.int .i64 e.x, .int .i64 e.y, .int .i64 e.t] 114)
      have k1 := cell_alloc e1 (.cells #[.int .i64 e.x, .int .i64 e.y, .int .i64 e.t] 114)
      have k2 := cell_alloc e2 (.cells #[.int .i64 e.x, .int .i64 e.y, .int .i64 e.t] 114)
      have k3 := cell_alloc e3 (.cells #[.int .i64 e.x, .int .i64 e.y, .int .i64 e.t] 114)
      obtain ⟨w1, hw1⟩ : ∃ w1, w1 = wr.alloc (.cells #[.int .i64 e.x, .int .i64 e.y, .int .i64 e.t] 114) := ⟨_, rfl⟩
      have q1' : Box w1 _ _ _ := hw1 ▸ q1.alloc (.cells #[.int .i64 e.x, .int .i64 e.y, .int .i64 e.t] 114)
      have q3' : Box w1 _ _ _ := hw1 ▸ q3.alloc (.cells #[.int .i64 e.x, .int .i64 e.y, .int .i64 e.t] 114)
      have hb1 : Below w.heap.size w w1 := by rw [hw1]; exact hb.alloc hb.size _
      have HW1 := hid hw1
      clear hw1
      have HJ : ∀ w', Calls Tryz.prog 152 #[.agg #[.int .i64 B.x1, .int .i64 B.y1, .int .i64 B.x2, .int .i64 B.y2], .agg #[.int .i64 e.x, .int .i64 e.y, .int .i64 e.x, .int .i64 e.y]] w' (Ret (vBox (joinB B (ptBox e))) w') := fun w' => joinBoxes_any B (ptBox e) w'
      go_wp2_with fail
      rw [← HW1.out]
      refine (HJ _).mono ?_
      rintro e' w4 ⟨rfl, hb4⟩
      have q1'' := q1'.later hb4
      have q3'' := q3'.later hb4
      have f0 := q3''.cell (j := 0) rfl
      have f1 := q3''.cell (j := 1) rfl
      have f2 := q3''.cell (j := 2) rfl
      have f3 := q3''.cell (j := 3) rfl
      have ff := q3''.free
      unfold vBox
      clear q1' q3' e0 e1 e2 e3 k0 k1 k2 k3
      have hb5 := hb1.trans (hb4.mono hb1.size)
      go_wp2
      go_roundw
      case rel =>
        refine ⟨k + 1, by omega, by go_num, ?_, ?_, ?_⟩
        · exact (((hb5.setCell (by simp; omega) _).setCell (by simp; omega) _).setCell (by simp; omega) _).setCell (by simp; omega) _
        · exact (((q1''.other (by omega)).other (by omega)).other (by omega)).other (by omega)
        · rw [HT.out, ← HBB.out]
          exact q3''.set4
      case measure => simp [intOf]; omega
    · obtain rfl : k = x.length := by omega
      have f0 := q1.cell (j := 0) rfl
      have f1 := q1.cell (j := 1) rfl
      have f2 := q1.cell (j := 2) rfl
      have f3 := q1.cell (j := 3) rfl
      have ff := q1.free
      go_wp2
      have HF : B = boxSt x := by rw [HBB.out, List.take_length]; exact HB.out.symm
      refine bodyPost_ret (v := vBox B) (by simp [results, Tryz.results151, go_sem, vBox, f0, f1, f2, f3]) rfl (ret_ret (by rw [HF]) ?_)
      exact (((hb.setCell (by simp) _).setCell (by simp) _).setCell (by simp) _).setCell (by simp) _
end Go.Proofs.YtlnoelbeaolikaaGreat
