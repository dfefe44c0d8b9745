/- Hypotheses are told good by the program's own call. -/
import Derived.Test.YtbgjojnjbplblaaDoorHyValid
import Derived.Test.YtbgjojnjbplblaaDoorClo
namespace Go.Proofs.YtbgjojnjbplblaaDoor
open Go.RowKit

set_option maxHeartbeats 1000000 in
theorem indexHy_any (c : FuncId) (cap0 : Value) (q : DHyp → Bool) (v : Value) (x : List DHyp) (w : World) (h : Arr eHyp w v x) (ok : x.length ≤ 2000000) (hen : Enters c)
    (hf : ∀ (a : DHyp) (w' : World), Below w.heap.size w w' → Calls Tryd.prog c #[.agg #[.string a.label, .int .i64 a.cost], cap0] w' (Ret (.bool (q a)) w')) :
    Calls Tryd.prog 72 #[v, .func (.func c) #[] #[cap0]] w (Ret (.int .i64 (posOf (x.findIdx? q))) w) := by
  obtain ⟨b, off, ao, cap, rfl, hnc, hcm, hao, hc⟩ := h
  unfold maxLen at hcm
  go_enter Tryd.func72, Tryd.ntmps72
  go_wp2
  go_loopw [5, 8] (fun _ i wr => ∃ k : Nat, k ≤ x.length ∧ i = .int .i64 k ∧ Below w.heap.size w wr ∧ ∀ j a, j < k → x[j]? = some a → q a = false) (fun _ i _ => x.length - (intOf i).toNat)
  case atStart => exact ⟨0, Nat.zero_le _, rfl, Below.refl _ _, fun j e h => by omega⟩
  case round =>
    obtain ⟨k, hk, rfl, hb, hall⟩ := hrel
    have HA := hid hall
    clear hall
    by_cases hlt : k < x.length
    · obtain ⟨hao', hbw⟩ := hao (by omega)
      subst hao'
      obtain ⟨e, he⟩ : ∃ e, x[k]? = some e := ⟨_, List.getElem?_eq_getElem hlt⟩
      obtain ⟨c0, c1⟩ := eHyp_cells (hc.below hb hbw) he
      have hli : (k : Int) < (x.length : Int) := by omega
      have HE := hid he
      have HF := hid (hf e)
      clear he hao hf
      have hcf : ∀ (args : Array Value) (w : World), (callFunc c args).run Tryd.prog w = .ok (.enter c args) w := hen
      cases hq : q e
      · go_wp2_with fail
        refine (HF.out _ hb).mono ?_
        rintro e2 w2 ⟨rfl, hb2⟩
        rw [hq]
        go_wp2
        go_roundw
        case rel =>
          refine ⟨k + 1, by omega, by go_num, hb.trans (hb2.mono hb.size), fun j a hj ha => ?_⟩
          by_cases ej : j = k
          · subst ej; rw [HE.out] at ha; obtain rfl := Option.some.inj ha; exact hq
          · exact HA.out j a (by omega) ha
        case measure => simp [intOf]; omega
      · go_wp2_with fail
        refine (HF.out _ hb).mono ?_
        rintro e2 w2 ⟨rfl, hb2⟩
        rw [hq]
        go_wp2
        go_ret
        exact ret_int (by rw [find_some HE.out hq HA.out]; rfl) (hb.trans (hb2.mono hb.size))
    · have HV := hid (find_none (x := x) (q := q) fun j a hj => HA.out j a (by omega))
      clear hao hf
      go_wp2
      go_ret
      exact ret_int (by rw [HV.out]; rfl) hb
set_option maxHeartbeats 400000 in
theorem containsHy_any (c : FuncId) (cap0 : Value) (q : DHyp → Bool) (v : Value) (x : List DHyp) (w : World) (h : Arr eHyp w v x) (ok : x.length ≤ 2000000) (hen : Enters c)
    (hf : ∀ (a : DHyp) (w' : World), Below w.heap.size w w' → Calls Tryd.prog c #[.agg #[.string a.label, .int .i64 a.cost], cap0] w' (Ret (.bool (q a)) w')) :
    Calls Tryd.prog 52 #[v, .func (.func c) #[] #[cap0]] w (Ret (.bool (x.any q)) w) := by
  have HF := hid hf
  have HN := hid hen
  clear hf hen
  rw [← pos_any]
  go_enter Tryd.func52, Tryd.ntmps52
  go_wp2_with (go_at_call 72; refine (indexHy_any _ _ _ _ _ _ h ok HN.out HF.out).mono ?_; rintro e w' ⟨rfl, hb⟩)
  go_ret
  exact ret_bool rfl hb
set_option maxHeartbeats 400000 in
theorem validClo_any (p : Nat) (a : DHyp) (l : ByteArray) (w : World) (c0 : w.cell? ⟨p, 0, none⟩ = some (.string l)) :
    Calls Tryd.prog 53 #[.agg #[.string a.label, .int .i64 a.cost], .pointer (some ⟨p, 0, none⟩)] w (Ret (.bool (eqS a.label l)) w) := by
  have hlt := cell_lt c0
  have c1 := cell_alloc c0 (.cells #[.string a.label, .int .i64 a.cost] 52)
  go_enter Tryd.func53, Tryd.ntmps53
  go_wp2
  go_ret
  exact ret_bool rfl (below_alloc _ _)
theorem arr_take {α : Type} {E : Enc α} {w : World} {b off n cap : Nat} {x : List α} (h : Arr E w (.slice (some ⟨b, off, none⟩) n cap) x) {k : Nat} (hk : k ≤ n) : Arr E w (.slice (some ⟨b, off, none⟩) k cap) (x.take k) := by
  obtain ⟨b', off', ao', cap', hv, h1, h2, h3, h4⟩ := h
  simp only [Value.slice.injEq] at hv
  obtain ⟨rfl, rfl, rfl⟩ := hv
  have hlk : (x.take k).length = k := by simp; omega
  by_cases h0 : k = 0
  · subst h0
    exact ⟨b, off, some ⟨b, off, none⟩, cap, by rw [hlk], by rw [hlk]; omega, h2, fun h => by rw [hlk] at h; omega, fun j a ha => by simp at ha⟩
  · obtain ⟨e1, e2⟩ := h3 (by omega)
    simp at e1
    obtain ⟨rfl, rfl⟩ := e1
    refine ⟨b, off, some ⟨b, off, none⟩, cap, by rw [hlk], by rw [hlk]; omega, h2, fun _ => ⟨rfl, e2⟩, fun j a ha => ?_⟩
    rw [List.getElem?_take] at ha
    split at ha
    · exact h4 j a ha
    · cases ha
theorem any_new (x : List DHyp) (k : Nat) (e : DHyp) : (x.take k).any (fun a => eqS a.label e.label) = !newAt x k e := by
  rw [newAt, List.not_all_eq_any_not]
  simp
theorem compare_pos {a b : DHyp} (w : World) : Calls Tryd.prog 51 #[.agg #[.string a.label, .int .i64 a.cost], .agg #[.string b.label, .int .i64 b.cost]] w (Ret (.int .i64 (ordH a b)) w) := compareHyps_any a b w
set_option maxHeartbeats 4000000 in
theorem implValidHyps_big (v : Value) (x : XHypS) (w : World) {lo hi : Nat} (h : rHypS.at_ lo hi w v x) (ok : x.length ≤ 2000000) (g : goodHypS x) : Calls Tryd.prog 28 #[v] w (Ret (.bool (validHy x)) w) := by
  replace h := rHypS_arr h
  have hA := h
  obtain ⟨b, off, ao, cap, rfl, hnc, hcm, hao, hc⟩ := h
  unfold maxLen at hcm
  have ok' : x.length ≤ 2000000 := ok
  have hen : Hid (Enters 53) := enters_of (Tryd.func53) (by kernel_rfl) rfl
  go_enter Tryd.func28, Tryd.ntmps28
  go_wp2
  go_loopw [7] (fun i wr => ∃ k : Nat, k ≤ x.length ∧ i = .int .i64 k ∧ Below w.heap.size w wr ∧ ∀ j e, j < k → x[j]? = some e → hyOk x j e = true) (fun i _ => x.length - (intOf i).toNat)
  case atStart => exact ⟨0, Nat.zero_le _, rfl, Below.refl _ _, fun j e h => by omega⟩
  case round =>
    obtain ⟨k, hk, rfl, hb, hall⟩ := hrel
    have HA := hid hall
    clear hall
    by_cases hlt : k < x.length
    · obtain ⟨hao', hbw⟩ := hao (by omega)
      subst hao'
      obtain ⟨e, he⟩ : ∃ e, x[k]? = some e := ⟨_, List.getElem?_eq_getElem hlt⟩
      obtain ⟨c0, c1⟩ := eHyp_cells (hc.below hb hbw) he
      have hws := goodHy g he
      have hli : (k : Int) < (x.length : Int) := by omega
      have hk0' : (0 : Int) ≤ (k : Int) := by omega
      have hkc : (k : Int) ≤ (cap : Int) := by omega
      have HE := hid he
      clear he hao
      obtain ⟨w1, hw1⟩ : ∃ w1, w1 = wr.alloc (.cells #[.string e.label, .int .i64 e.cost] 52) := ⟨_, rfl⟩
      have hb1 : Below w.heap.size w w1 := by rw [hw1]; exact hb.alloc hb.size _
      have e0 : w1.cell? ⟨wr.heap.size, 0, none⟩ = some (.string e.label) := by rw [hw1]; simp
      have e1 : w1.cell? ⟨wr.heap.size, 1, none⟩ = some (.int .i64 e.cost) := by rw [hw1]; simp
      have HW1 := hid hw1
      clear hw1
      cases hw : isLabelB e.label
      · have HW := implLabel_is hws hw
        go_wp2
        rw [← HW1.out]
        have x_e0 := ext_cell e0
        have x_e1 := ext_cell e1
        refine wp_region_ext (by kernel_rfl) (by kernel_rfl) ?_
        repeat (go_big_quiet_step ((go_at_call 50; exact same_ext (HW _))))
        refine wpQuiet_nil ?_
        intro _ hw'
        obtain ⟨nq, hw''⟩ := hw'
        subst hw''
        replace e0 := x_e0 nq
        replace e1 := x_e1 nq
        clear x_e0 x_e1
        replace hb1 := hb1.trans ((ext_below _ nq).mono hb1.size)
        go_wp2
        go_ret
        exact ret_bool (allHy_at HE.out (by simp [hyOk, hw])).symm hb1
      have HW := implLabel_is hws hw
      have HI : ∀ w', Calls Tryd.prog 44 #[.int .i64 e.cost] w' fun e' w'' => e' = .returned (.bool (inB e.cost 0 1000000)) ∧ w' = w'' := fun w' => isCost_any _ w'
      cases hi : inB e.cost 0 1000000
      · rw [hi] at HI
        go_wp2
        rw [← HW1.out]
        have x_e0 := ext_cell e0
        have x_e1 := ext_cell e1
        refine wp_region_ext (by kernel_rfl) (by kernel_rfl) ?_
        repeat (go_big_quiet_step ((first | (go_at_call 50; exact same_ext (HW _)) | (go_at_call 44; exact same_ext (HI _)))))
        refine wpQuiet_nil ?_
        intro _ hw'
        obtain ⟨nq, hw''⟩ := hw'
        subst hw''
        replace e0 := x_e0 nq
        replace e1 := x_e1 nq
        clear x_e0 x_e1
        replace hb1 := hb1.trans ((ext_below _ nq).mono hb1.size)
        go_wp2
        go_ret
        exact ret_bool (allHy_at HE.out (by simp [hyOk, hi])).symm hb1
      rw [hi] at HI
      by_cases hk0 : 0 < k
      · have hki : (0 : Int) < (k : Int) := by omega
        have hk1 : (0 : Int) ≤ (k : Int) - 1 := by omega
        have hk2 : (k : Int) - 1 < (x.length : Int) := by omega
        obtain ⟨pe, hpe⟩ : ∃ pe, x[k - 1]? = some pe := ⟨_, List.getElem?_eq_getElem (by omega)⟩
        obtain ⟨d0, d1⟩ := eHyp_cells (hc.below hb1 hbw) hpe
        have ek : ((k : Int) - 1).toNat = k - 1 := by omega
        have HP := hid hpe
        clear hpe
        have HO := fun w' => compare_pos (a := pe) (b := e) w'
        have hord : ordAtH x k e = decide (ordH pe e < 0) := by
          obtain ⟨k', rfl⟩ : ∃ k', k = k' + 1 := ⟨k - 1, by omega⟩
          have hp := HP.out
          simp at hp
          simp [ordAtH, hp]
        have HORD := hid hord
        clear hord
        by_cases ho : 0 < ordH pe e
        · have go1 : decide (0 < ordH pe e) = true := by simpa using ho
          go_wp2
          rw [← HW1.out]
          have x_e0 := ext_cell e0
          have x_e1 := ext_cell e1
          have x_d0 := ext_cell d0
          have x_d1 := ext_cell d1
          refine wp_region_ext (by kernel_rfl) (by kernel_rfl) ?_
          repeat (go_big_quiet_step ((first | (go_at_call 50; exact same_ext (HW _)) | (go_at_call 44; exact same_ext (HI _)) | (go_at_call 51; exact ret_ext (HO _)))))
          refine wpQuiet_nil ?_
          intro _ hw'
          obtain ⟨nq, hw''⟩ := hw'
          subst hw''
          replace e0 := x_e0 nq
          replace e1 := x_e1 nq
          replace d0 := x_d0 nq
          replace d1 := x_d1 nq
          clear x_e0 x_e1 x_d0 x_d1
          replace hb1 := hb1.trans ((ext_below _ nq).mono hb1.size)
          go_wp2
          go_ret
          exact ret_bool (allHy_at HE.out (by simp [hyOk, HORD.out]; intros; omega)).symm hb1
        · have go1 : decide (0 < ordH pe e) = false := by simpa using ho
          have hnz : newAt x k e = true → ordAtH x k e = true := by
            intro hn
            rw [HORD.out, decide_eq_true_iff]
            by_cases hz : ordH pe e = 0
            · have : newAt x k e = false := newAt_hit (j := k - 1) (by omega) HP.out (ordH_zero hz)
              rw [this] at hn; cases hn
            · omega
          have HNZ := hid hnz
          clear hnz
          cases hnew : newAt x k e
          all_goals
            have HNW := hid hnew
            clear hnew
            go_wp2
            rw [← HW1.out]
            have x_e0 := ext_cell e0
            have x_e1 := ext_cell e1
            have x_d0 := ext_cell d0
            have x_d1 := ext_cell d1
            refine wp_region_ext (by kernel_rfl) (by kernel_rfl) ?_
            repeat (go_big_quiet_step ((first | (go_at_call 50; exact same_ext (HW _)) | (go_at_call 44; exact same_ext (HI _)) | (go_at_call 51; exact ret_ext (HO _)))))
            refine wpQuiet_nil ?_
            intro _ hw'
            obtain ⟨nq, hw''⟩ := hw'
            subst hw''
            replace e0 := x_e0 nq
            replace e1 := x_e1 nq
            replace d0 := x_d0 nq
            replace d1 := x_d1 nq
            clear x_e0 x_e1 x_d0 x_d1
            replace hb1 := hb1.trans ((ext_below _ nq).mono hb1.size)
            have HC0 := hid e0
            have hAt := arr_take (hA.below hb1) (k := k) (by omega)
            go_wp2_with (go_at_call 52; refine (containsHy_any 53 _ (fun a => eqS a.label e.label) _ (x.take k) _ hAt (by simp; omega) hen.out (fun a w' hbb => validClo_any _ a e.label w' (cell_later hbb HC0.out))).mono ?_; rintro e' w' ⟨rfl, hb3⟩; rw [any_new, HNW.out]; simp only [Bool.not_true, Bool.not_false])
          · go_ret
            exact ret_bool (allHy_at HE.out (by simp [hyOk, HNW.out])).symm (hb1.trans (hb3.mono hb1.size))
          · go_roundw
            case rel =>
              refine ⟨k + 1, by omega, by go_num, hb1.trans (hb3.mono hb1.size), fun j e' hj he' => ?_⟩
              by_cases ej : j = k
              · subst ej
                rw [HE.out] at he'; obtain rfl := Option.some.inj he'
                simp [hyOk, hw, hi, HNW.out, HNZ.out HNW.out]
              · exact HA.out j e' (by omega) he'
            case measure => simp [intOf]; omega
      · have hki : (k : Int) ≤ 0 := by omega
        have HNW : Hid (newAt x k e = true) := by
          show _ = true
          obtain rfl : k = 0 := by omega
          simp [newAt]
        have HOA : Hid (ordAtH x k e = true) := by
          show _ = true
          obtain rfl : k = 0 := by omega
          simp [ordAtH]
        go_wp2
        rw [← HW1.out]
        have x_e0 := ext_cell e0
        have x_e1 := ext_cell e1
        refine wp_region_ext (by kernel_rfl) (by kernel_rfl) ?_
        repeat (go_big_quiet_step ((first | (go_at_call 50; exact same_ext (HW _)) | (go_at_call 44; exact same_ext (HI _)))))
        refine wpQuiet_nil ?_
        intro _ hw'
        obtain ⟨nq, hw''⟩ := hw'
        subst hw''
        replace e0 := x_e0 nq
        replace e1 := x_e1 nq
        clear x_e0 x_e1
        replace hb1 := hb1.trans ((ext_below _ nq).mono hb1.size)
        have HC0 := hid e0
        have hAt := arr_take (hA.below hb1) (k := k) (by omega)
        go_wp2_with (go_at_call 52; refine (containsHy_any 53 _ (fun a => eqS a.label e.label) _ (x.take k) _ hAt (by simp; omega) hen.out (fun a w' hbb => validClo_any _ a e.label w' (cell_later hbb HC0.out))).mono ?_; rintro e' w' ⟨rfl, hb3⟩; rw [any_new, HNW.out]; simp only [Bool.not_true])
        go_roundw
        case rel =>
          refine ⟨k + 1, by omega, by go_num, hb1.trans (hb3.mono hb1.size), fun j e' hj he' => ?_⟩
          by_cases ej : j = k
          · subst ej
            rw [HE.out] at he'; obtain rfl := Option.some.inj he'
            simp [hyOk, hw, hi, HNW.out, HOA.out]
          · exact HA.out j e' (by omega) he'
        case measure => simp [intOf]; omega
    · have HV := hid (allHy_all (x := x) fun j e hj => HA.out j e (by omega))
      clear hao
      go_wp2
      go_ret
      exact ret_bool (by rw [HV.out]; exact decide_eq_decide.2 (by omega)) hb
theorem implValidHyps_any (v : Value) (x : XHypS) (w : World) {lo hi : Nat} (h : rHypS.at_ lo hi w v x) (ok : okHypS x) (g : goodHypS x) : Calls Tryd.prog 28 #[v] w (Ret (.bool (validHy x)) w) :=
  implValidHyps_big v x w h (by unfold okHypS at ok; omega) g
end Go.Proofs.YtbgjojnjbplblaaDoor
