/- What good hypotheses are, and the calls that tell it. -/
import Derived.Test.YtbgjojnjbplblaaDoorWrHypS
import Derived.Test.YtbgjojnjbplblaaDoorStr
import Derived.Test.YtbgjojnjbplblaaDoorCmp
import Derived.Deep.RegionHeld3
namespace Go.Proofs.YtbgjojnjbplblaaDoor
open Go.RowKit

def ordH (a b : DHyp) : Int := if a.cost ≠ b.cost then cmpI a.cost b.cost else cmpB a.label b.label
theorem ordH_or (a b : DHyp) : orL [cmpI a.cost b.cost, cmpB a.label b.label] = ordH a b := by
  unfold ordH
  by_cases h1 : a.cost = b.cost
  · rw [if_neg (by simpa using h1), h1, orL, if_pos (cmpI_self _), orL]
    split
    · rename_i h; rw [h]; rfl
    · rfl
  · rw [if_pos h1, orL, if_neg (cmpI_ne h1)]
def ordAtH (x : List DHyp) (k : Nat) (e : DHyp) : Bool := match k, x[k-1]? with
  | 0, _ => true
  | _, none => true
  | _, some p => decide (ordH p e < 0)
def newAt (x : List DHyp) (k : Nat) (e : DHyp) : Bool := (x.take k).all fun g => !eqS g.label e.label
def hyOk (x : List DHyp) (k : Nat) (e : DHyp) : Bool := isLabelB e.label && inB e.cost 0 1000000 && ordAtH x k e && newAt x k e
def allHy (x : List DHyp) : Bool := (List.range x.length).all (fun k => match x[k]? with | some e => hyOk x k e | none => true)
def validHy (x : List DHyp) : Bool := allHy x && decide (x.length ≤ 8)
theorem allHy_at {x : List DHyp} {k : Nat} {e : DHyp} (h : x[k]? = some e) (hb : hyOk x k e = false) : validHy x = false := by
  rw [validHy, Bool.and_eq_false_iff]
  exact .inl (List.all_eq_false.2 ⟨k, by simp; exact (List.getElem?_eq_some_iff.1 h).1, by rw [h]; simp [hb]⟩)
theorem allHy_all {x : List DHyp} (h : ∀ k e, k < x.length → x[k]? = some e → hyOk x k e = true) : validHy x = decide (x.length ≤ 8) := by
  have : allHy x = true := by
    rw [allHy, List.all_eq_true]
    intro k hk
    have hk : k < x.length := by simpa using hk
    cases hx : x[k]? with
    | none => rfl
    | some e => exact h k e hk hx
  rw [validHy, this, Bool.true_and]
theorem newAt_hit {x : List DHyp} {k j : Nat} {e g : DHyp} (hj : j < k) (hg : x[j]? = some g) (h : eqS g.label e.label = true) : newAt x k e = false := by
  rw [newAt, List.all_eq_false]
  refine ⟨g, ?_, by simp [h]⟩
  refine List.mem_of_getElem? (i := j) ?_
  rw [List.getElem?_take, if_pos hj]; exact hg
theorem newAt_none {x : List DHyp} {k : Nat} {e : DHyp} (h : ∀ j g, j < k → x[j]? = some g → eqS g.label e.label = false) : newAt x k e = true := by
  rw [newAt, List.all_eq_true]
  intro g hg
  obtain ⟨j, hj⟩ := List.mem_iff_getElem?.1 hg
  rw [List.getElem?_take] at hj
  split at hj
  · rename_i hjk; simp [h j g hjk hj]
  · cases hj
theorem ordH_zero {a b : DHyp} (h : ordH a b = 0) : eqS a.label b.label = true := by
  unfold ordH at h
  split at h
  · rename_i hn; exact absurd h (cmpI_ne hn)
  · unfold cmpB at h
    split at h
    · omega
    · split at h
      · assumption
      · omega
theorem goodHy {x : XHypS} (g : goodHypS x) {k : Nat} {e : DHyp} (h : x[k]? = some e) : e.label.size ≤ 9223372036854775807 := (g e (List.mem_of_getElem? h)).1

set_option maxHeartbeats 1000000 in
theorem l13Before_any (a b : DHyp) (w : World) :
    Calls Tryd.prog 49 #[.agg #[.string a.label, .int .i64 a.cost], .agg #[.string b.label, .int .i64 b.cost]] w (Ret (.bool (decide (ordH a b < 0))) w) := by
  have hb0 : Below w.heap.size w ((w.alloc (.cells #[.string a.label, .int .i64 a.cost] 52)).alloc (.cells #[.string b.label, .int .i64 b.cost] 52)) := (below_alloc _ _).trans ((below_alloc _ _).mono (by simp))
  by_cases h1 : a.cost < b.cost
  · have HV : Hid (decide (ordH a b < 0) = true) := by show _ = true; simp [ordH, cmpI, h1]; omega
    have g1 : decide (a.cost < b.cost) = true := by simpa using h1
    go_enter Tryd.func49, Tryd.ntmps49
    go_wp2
    go_ret
    exact ret_bool HV.out.symm hb0
  have g1 : decide (a.cost < b.cost) = false := by simpa using h1
  by_cases h2 : a.cost = b.cost
  · have g2 : (a.cost == b.cost) = true := by rw [beq_iff_eq]; exact h2
    have HV : Hid (decide (ordH a b < 0) = ltB a.label b.label) := by
      show _ = _
      rw [ordH, if_neg (by simpa using h2)]
      unfold cmpB
      cases ltB a.label b.label <;> simp
      split <;> omega
    clear h2 h1
    cases h3 : Op.bytesLess a.label.toList b.label.toList
    all_goals
      go_enter Tryd.func49, Tryd.ntmps49
      go_wp2
      go_ret
      exact ret_bool (by rw [HV.out]; exact h3.symm) hb0
  · have g2 : (a.cost == b.cost) = false := by rw [beq_eq_false_iff_ne]; exact h2
    have HV : Hid (decide (ordH a b < 0) = false) := by
      show _ = false
      rw [ordH, if_pos h2, decide_eq_false_iff_not]
      unfold cmpI
      rw [if_neg h1]
      split <;> omega
    clear h2 h1
    go_enter Tryd.func49, Tryd.ntmps49
    go_wp2
    go_ret
    exact ret_bool HV.out.symm hb0
set_option maxHeartbeats 2000000 in
theorem compareHyps_any (a b : DHyp) (w : World) :
    Calls Tryd.prog 51 #[.agg #[.string a.label, .int .i64 a.cost], .agg #[.string b.label, .int .i64 b.cost]] w (Ret (.int .i64 (ordH a b)) w) := by
  rw [← ordH_or]
  go_enter Tryd.func51, Tryd.ntmps51
  go_wp2
  obtain ⟨w1, hw1⟩ : ∃ w1, w1 = ((w.alloc (.cells #[.string a.label, .int .i64 a.cost] 52)).alloc (.cells #[.string b.label, .int .i64 b.cost] 52)) := ⟨_, rfl⟩
  have hb1 : Below w.heap.size w w1 := by rw [hw1]; exact (below_alloc _ _).trans ((below_alloc _ _).mono (by simp))
  have c0 : w1.cell? ⟨w.heap.size, 0, none⟩ = some (.string a.label) := by rw [hw1]; simp
  have c1 : w1.cell? ⟨w.heap.size, 1, none⟩ = some (.int .i64 a.cost) := by rw [hw1]; simp
  have d0 : w1.cell? ⟨w.heap.size + 1, 0, none⟩ = some (.string b.label) := by rw [hw1]; simp
  have d1 : w1.cell? ⟨w.heap.size + 1, 1, none⟩ = some (.int .i64 b.cost) := by rw [hw1]; simp
  rw [← hw1]
  clear hw1
  generalize w.heap.size = n0 at c0 c1 d0 d1 ⊢
  go_region_held3 (fun w' => w'.cell? ⟨n0, 0, none⟩ = some (.string a.label) ∧ w'.cell? ⟨n0, 1, none⟩ = some (.int .i64 a.cost) ∧ w'.cell? ⟨n0 + 1, 0, none⟩ = some (.string b.label) ∧ w'.cell? ⟨n0 + 1, 1, none⟩ = some (.int .i64 b.cost)) (go_keep)
    (first | (go_at_call 70; refine (cmpInt_any _ _ _).mono ?_; rintro e w' ⟨rfl, rfl⟩) | (go_at_call 71; refine (cmpStr_any _ _ _).mono ?_; rintro e w' ⟨rfl, rfl⟩) | (go_at_call 69; refine (cmpOr_any _ [cmpI a.cost b.cost, cmpB a.label b.label] _ (Arr.drew (arr_new _ _ rfl rfl (maxLen_ge (Nat.le_of_ble_eq_true rfl))))).mono ?_; rintro e w' ⟨rfl, rfl⟩))
  go_wp2
  go_ret
  exact ret_int rfl (hb1.alloc hb1.size _).drew
theorem before_is {a b : DHyp} {c : Bool} (h : decide (ordH a b < 0) = c) (w : World) : Calls Tryd.prog 49 #[.agg #[.string a.label, .int .i64 a.cost], .agg #[.string b.label, .int .i64 b.cost]] w (Ret (.bool c) w) := by
  subst h; exact l13Before_any _ _ _
theorem specIn_is {n : Int} {c : Bool} (h : inB n 0 1000000 = c) (w : World) : Calls Tryd.prog 35 #[.int .i64 n, .int .i64 0, .int .i64 1000000] w fun e w' => e = .returned (.bool c) ∧ w = w' := by
  subst h; exact l00In_any _ _ _ _
set_option maxHeartbeats 4000000 in
theorem l13Ok_any (v : Value) (x : List DHyp) (w : World) (h : Arr eHyp w v x) (ok : okHypS x) (g : goodHypS x) :
    Calls Tryd.prog 26 #[v] w (Ret (.bool (validHy x)) w) := by
  obtain ⟨b, off, ao, cap, rfl, hnc, hcm, hao, hc⟩ := h
  unfold maxLen at hcm
  have ok' : x.length ≤ 1048576 := ok
  go_enter Tryd.func26, Tryd.ntmps26
  go_wp2
  go_loopw [3] (fun i wr => ∃ k : Nat, k ≤ x.length ∧ i = .int .i64 k ∧ Below w.heap.size w wr ∧ ∀ j e, j < k → x[j]? = some e → hyOk x j e = true) (fun i _ => x.length - (intOf i).toNat)
  case atStart => exact ⟨0, Nat.zero_le _, rfl, Below.refl _ _, fun j e h => by omega⟩
  case round =>
    obtain ⟨k, hk, rfl, hb, hall⟩ := hrel
    have HA := hid hall
    clear hall
    by_cases hlt : k < x.length
    · obtain ⟨hao', hbw⟩ := hao (by omega)
      subst hao'
      obtain ⟨e, he⟩ : ∃ e, x[k]? = some e := ⟨_, List.getElem?_eq_getElem hlt⟩
      obtain ⟨c0, c1⟩ := eHyp_cells (hc.below hb hbw) he
      have hws := goodHy g he
      have hli : (k : Int) < (x.length : Int) := by omega
      have HE := hid he
      clear he hao
      cases hw : isLabelB e.label
      · have HW := specLabel_is hws hw
        go_wp2
        have x_c0 := ext_cell c0
        have x_c1 := ext_cell c1
        refine wp_region_ext (by kernel_rfl) (by kernel_rfl) ?_
        repeat (go_big_quiet_step ((go_at_call 48; exact same_ext (HW _))))
        refine wpQuiet_nil ?_
        intro _ hw'
        obtain ⟨nq, hw''⟩ := hw'
        subst hw''
        replace c0 := x_c0 nq
        replace c1 := x_c1 nq
        clear x_c0 x_c1
        replace hb := hb.trans ((ext_below _ nq).mono hb.size)
        go_wp2
        go_ret
        exact ret_bool (allHy_at HE.out (by simp [hyOk, hw])).symm hb
      have HW := specLabel_is hws hw
      cases hi : inB e.cost 0 1000000
      · have HI := specIn_is hi
        go_wp2
        have x_c0 := ext_cell c0
        have x_c1 := ext_cell c1
        refine wp_region_ext (by kernel_rfl) (by kernel_rfl) ?_
        repeat (go_big_quiet_step ((first | (go_at_call 48; exact same_ext (HW _)) | (go_at_call 35; exact same_ext (HI _)))))
        refine wpQuiet_nil ?_
        intro _ hw'
        obtain ⟨nq, hw''⟩ := hw'
        subst hw''
        replace c0 := x_c0 nq
        replace c1 := x_c1 nq
        clear x_c0 x_c1
        replace hb := hb.trans ((ext_below _ nq).mono hb.size)
        go_wp2
        go_ret
        exact ret_bool (allHy_at HE.out (by simp [hyOk, hi])).symm hb
      have HI := specIn_is hi
      by_cases hk0 : 0 < k
      · have hki : (0 : Int) < (k : Int) := by omega
        have hk1 : (0 : Int) ≤ (k : Int) - 1 := by omega
        have hk2 : (k : Int) - 1 < (x.length : Int) := by omega
        obtain ⟨pe, hpe⟩ : ∃ pe, x[k - 1]? = some pe := ⟨_, List.getElem?_eq_getElem (by omega)⟩
        obtain ⟨d0, d1⟩ := eHyp_cells (hc.below hb hbw) hpe
        have e1 : ((k : Int) - 1).toNat = k - 1 := by omega
        have HP := hid hpe
        clear hpe
        cases ho : decide (ordH pe e < 0)
        · have HO := before_is ho
          go_wp2
          have x_c0 := ext_cell c0
          have x_c1 := ext_cell c1
          have x_d0 := ext_cell d0
          have x_d1 := ext_cell d1
          refine wp_region_ext (by kernel_rfl) (by kernel_rfl) ?_
          repeat (go_big_quiet_step ((first | (go_at_call 48; exact same_ext (HW _)) | (go_at_call 35; exact same_ext (HI _)) | (go_at_call 49; exact ret_ext (HO _)))))
          refine wpQuiet_nil ?_
          intro _ hw'
          obtain ⟨nq, hw''⟩ := hw'
          subst hw''
          replace c0 := x_c0 nq
          replace c1 := x_c1 nq
          replace d0 := x_d0 nq
          replace d1 := x_d1 nq
          clear x_c0 x_c1 x_d0 x_d1
          replace hb := hb.trans ((ext_below _ nq).mono hb.size)
          go_wp2
          go_ret
          refine ret_bool (allHy_at HE.out ?_).symm hb
          obtain ⟨k', rfl⟩ : ∃ k', k = k' + 1 := ⟨k - 1, by omega⟩
          have hp := HP.out
          simp at hp
          simp [hyOk, hw, hi, ordAtH, hp]
          simp at ho
          intro h; omega
        · have HO := before_is ho
          have HOA : Hid (ordAtH x k e = true) := by
            show _ = true
            obtain ⟨k', rfl⟩ : ∃ k', k = k' + 1 := ⟨k - 1, by omega⟩
            have hp := HP.out
            simp at hp
            simp [ordAtH, hp]; simpa using ho
          go_wp2
          have x_c0 := ext_cell c0
          have x_c1 := ext_cell c1
          have x_d0 := ext_cell d0
          have x_d1 := ext_cell d1
          refine wp_region_ext (by kernel_rfl) (by kernel_rfl) ?_
          repeat (go_big_quiet_step ((first | (go_at_call 48; exact same_ext (HW _)) | (go_at_call 35; exact same_ext (HI _)) | (go_at_call 49; exact ret_ext (HO _)))))
          refine wpQuiet_nil ?_
          intro _ hw'
          obtain ⟨nq, hw''⟩ := hw'
          subst hw''
          replace c0 := x_c0 nq
          replace c1 := x_c1 nq
          replace d0 := x_d0 nq
          replace d1 := x_d1 nq
          clear x_c0 x_c1 x_d0 x_d1
          replace hb := hb.trans ((ext_below _ nq).mono hb.size)
          clear HO HW HI d0 d1 ho
          go_wp2
          go_loopw [4] (fun i wq => ∃ j : Nat, j ≤ k ∧ i = .int .i64 j ∧ Below w.heap.size w wq ∧ ∀ t a, t < j → x[t]? = some a → eqS a.label e.label = false) (fun i _ => k - (intOf i).toNat)
          case atStart => exact ⟨0, Nat.zero_le _, rfl, hb, fun t a h => by omega⟩
          case round =>
            clear c0 c1 hb
            obtain ⟨j, hj, rfl, hb, hnew⟩ := hrel
            have HN := hid hnew
            clear hnew
            by_cases hjk : j < k
            · have hji : (j : Int) < (x.length : Int) := by omega
              obtain ⟨a, ha⟩ : ∃ a, x[j]? = some a := ⟨_, List.getElem?_eq_getElem (by omega)⟩
              obtain ⟨c0, c1⟩ := eHyp_cells (hc.below hb hbw) HE.out
              obtain ⟨d0, d1⟩ := eHyp_cells (hc.below hb hbw) ha
              have HAA := hid ha
              clear ha
              cases hq : (a.label.toList == e.label.toList)
              · go_wp2
                have x_c0 := ext_cell c0
                have x_c1 := ext_cell c1
                have x_d0 := ext_cell d0
                have x_d1 := ext_cell d1
                refine wp_region_ext (by kernel_rfl) (by kernel_rfl) ?_
                repeat (go_big_quiet_step (fail))
                refine wpQuiet_nil ?_
                intro _ hw'
                obtain ⟨nq2, hw''⟩ := hw'
                subst hw''
                replace c0 := x_c0 nq2
                replace c1 := x_c1 nq2
                replace d0 := x_d0 nq2
                replace d1 := x_d1 nq2
                clear x_c0 x_c1 x_d0 x_d1
                replace hb := hb.trans ((ext_below _ nq2).mono hb.size)
                go_wp2
                go_roundw
                case rel =>
                  refine ⟨j + 1, by omega, by go_num, hb, fun t a' ht ha' => ?_⟩
                  by_cases et : t = j
                  · subst et; rw [HAA.out] at ha'; obtain rfl := Option.some.inj ha'; exact hq
                  · exact HN.out t a' (by omega) ha'
                case measure => simp [intOf]; omega
              · go_wp2
                have x_c0 := ext_cell c0
                have x_c1 := ext_cell c1
                have x_d0 := ext_cell d0
                have x_d1 := ext_cell d1
                refine wp_region_ext (by kernel_rfl) (by kernel_rfl) ?_
                repeat (go_big_quiet_step (fail))
                refine wpQuiet_nil ?_
                intro _ hw'
                obtain ⟨nq2, hw''⟩ := hw'
                subst hw''
                replace c0 := x_c0 nq2
                replace c1 := x_c1 nq2
                replace d0 := x_d0 nq2
                replace d1 := x_d1 nq2
                clear x_c0 x_c1 x_d0 x_d1
                replace hb := hb.trans ((ext_below _ nq2).mono hb.size)
                go_wp2
                go_ret
                exact ret_bool (allHy_at HE.out (by simp [hyOk, newAt_hit hjk HAA.out hq])).symm hb
            · obtain rfl : j = k := by omega
              have HNN := hid (newAt_none (x := x) (k := j) (e := e) HN.out)
              go_wp2
              go_roundw
              case rel =>
                refine ⟨j + 1, by omega, by go_num, hb, fun t e' ht he' => ?_⟩
                by_cases et : t = j
                · subst et; rw [HE.out] at he'; obtain rfl := Option.some.inj he'
                  simp [hyOk, hw, hi, HOA.out, HNN.out]
                · exact HA.out t e' (by omega) he'
              case measure => simp [intOf]; omega
      · have hki : (k : Int) ≤ 0 := by omega
        have HOA : Hid (ordAtH x k e = true) := by
          show _ = true
          obtain rfl : k = 0 := by omega
          simp [ordAtH]
        go_wp2
        have x_c0 := ext_cell c0
        have x_c1 := ext_cell c1
        refine wp_region_ext (by kernel_rfl) (by kernel_rfl) ?_
        repeat (go_big_quiet_step ((first | (go_at_call 48; exact same_ext (HW _)) | (go_at_call 35; exact same_ext (HI _)))))
        refine wpQuiet_nil ?_
        intro _ hw'
        obtain ⟨nq, hw''⟩ := hw'
        subst hw''
        replace c0 := x_c0 nq
        replace c1 := x_c1 nq
        clear x_c0 x_c1
        replace hb := hb.trans ((ext_below _ nq).mono hb.size)
        clear HW HI
        go_wp2
        go_loopw [4] (fun i wq => ∃ j : Nat, j ≤ k ∧ i = .int .i64 j ∧ Below w.heap.size w wq ∧ ∀ t a, t < j → x[t]? = some a → eqS a.label e.label = false) (fun i _ => k - (intOf i).toNat)
        case atStart => exact ⟨0, Nat.zero_le _, rfl, hb, fun t a h => by omega⟩
        case round =>
          clear c0 c1 hb
          obtain ⟨j, hj, rfl, hb, hnew⟩ := hrel
          have HN := hid hnew
          clear hnew
          by_cases hjk : j < k
          · exfalso; omega
          · obtain rfl : j = k := by omega
            have HNN := hid (newAt_none (x := x) (k := j) (e := e) HN.out)
            go_wp2
            go_roundw
            case rel =>
              refine ⟨j + 1, by omega, by go_num, hb, fun t e' ht he' => ?_⟩
              by_cases et : t = j
              · subst et; rw [HE.out] at he'; obtain rfl := Option.some.inj he'
                simp [hyOk, hw, hi, HOA.out, HNN.out]
              · exact HA.out t e' (by omega) he'
            case measure => simp [intOf]; omega
    · have HV := hid (allHy_all (x := x) fun j e hj => HA.out j e (by omega))
      clear hao
      go_wp2
      go_ret
      exact ret_bool (by rw [HV.out]; exact decide_eq_decide.2 (by omega)) hb
end Go.Proofs.YtbgjojnjbplblaaDoor
