/- Perceptrons are told good: both calls. -/
import Derived.Test.YtbgjojnjbplblaaGreatDoorWrPcp
import Derived.Test.YtbgjojnjbplblaaGreatDoorPcPlain
import Derived.Test.YtbgjojnjbplblaaGreatDoorStr
import Derived.Test.YtbgjojnjbplblaaGreatDoorClo
namespace Go.Proofs.YtbgjojnjbplblaaGreatDoor
open Go.RowKit

def leL (a b : ByteArray) : Bool := Op.bytesLess a.toList b.toList || a.toList == b.toList
def ordAtL (x : XStringS) : Nat → ByteArray → Bool
  | 0, _ => true
  | k + 1, e => match x[k]? with
    | none => true
    | some p => !leL e p
def labAt (x : XStringS) (k : Nat) (e : ByteArray) : Bool := isLabelB e && ordAtL x k e
def labsOk (x : XStringS) : Bool := (List.range x.length).all (fun k => match x[k]? with | some e => labAt x k e | none => true) && inB x.length 1 12
theorem leL_flip (e p : ByteArray) : Op.bytesLess p.toList e.toList = !leL e p := by
  show ltB p e = !(ltB e p || e.toList == p.toList)
  cases h : ltB e p with
  | true => rw [ltB_asymm h]; rfl
  | false =>
    cases h2 : ltB p e with
    | true =>
      have := ltB_ne h2
      rw [Bool.false_or, BEq.comm, this]; rfl
    | false =>
      have := ltB_or h h2
      simp [this]
theorem labsOk_at {x : XStringS} {k : Nat} {e : ByteArray} (h : x[k]? = some e) (hb : labAt x k e = false) : labsOk x = false := by
  rw [labsOk, Bool.and_eq_false_iff]
  refine .inl (List.all_eq_false.2 ⟨k, by simp; exact (List.getElem?_eq_some_iff.1 h).1, ?_⟩)
  rw [h]; simp [hb]
theorem labsOk_all {x : XStringS} (h : ∀ k e, k < x.length → x[k]? = some e → labAt x k e = true) : labsOk x = inB x.length 1 12 := by
  have : (List.range x.length).all (fun k => match x[k]? with | some e => labAt x k e | none => true) = true := by
    rw [List.all_eq_true]
    intro k hk
    have hk : k < x.length := by simpa using hk
    cases hx : x[k]? with
    | none => rfl
    | some e => exact h k e hk hx
  rw [labsOk, this, Bool.true_and]
def pcOk (p : XPerceptron) : Bool := labsOk p.1 && (decide (p.2.length = p.1.length) && p.2.all rowOk)
theorem goodLab {x : XStringS} (g : goodStringS x) {k : Nat} {e : ByteArray} (h : x[k]? = some e) : e.size ≤ 9223372036854775807 := g e (List.mem_of_getElem? h)

set_option maxHeartbeats 2000000 in
theorem l12Labels_any (v : Value) (x : XStringS) (w : World) (h : Arr eStr w v x) (ok : okStringS x) (g : goodStringS x) :
    Calls Tryz.prog 53 #[v] w (Ret (.bool (labsOk x)) w) := by
  obtain ⟨b, off, ao, cap, rfl, hnc, hcm, hao, hc⟩ := h
  unfold maxLen at hcm
  unfold okStringS at ok
  go_enter Tryz.func53, Tryz.ntmps53
  go_wp2
  go_loopw [3] (fun i wr => ∃ k : Nat, k ≤ x.length ∧ i = .int .i64 k ∧ Below w.heap.size w wr ∧ Hid (∀ j e, j < k → x[j]? = some e → labAt x j e = true)) (fun i _ => x.length - (intOf i).toNat)
  case atStart => exact ⟨0, Nat.zero_le _, rfl, Below.refl _ _, hid (fun j e h => by omega)⟩
  case round =>
    obtain ⟨k, hk, rfl, hb, HA⟩ := hrel
    by_cases hlt : k < x.length
    · obtain ⟨hao', hbw⟩ := hao (by omega)
      subst hao'
      obtain ⟨e, he⟩ : ∃ e, x[k]? = some e := ⟨_, List.getElem?_eq_getElem hlt⟩
      have c0 := eStr_cell (hc.below hb hbw) he
      have c0e := ext_cell c0
      have hws := goodLab g he
      have hli : (k : Int) < (x.length : Int) := by omega
      have HE := hid he
      cases hw : isLabelB e
      · have HW := specLabel_is hws hw
        clear he hao
        go_wp2
        refine wp_region_ext (by kernel_rfl) (by kernel_rfl) ?_
        repeat (go_big_quiet_step ((go_at_call 63; exact same_ext (HW _))))
        refine wpQuiet_nil ?_
        intro _ hw'
        obtain ⟨nq, hw''⟩ := hw'
        subst hw''
        go_wp2
        go_ret
        exact ret_bool (labsOk_at HE.out (by simp [labAt, hw])).symm (hb.trans ((ext_below _ _).mono hb.size))
      · have HW := specLabel_is hws hw
        by_cases hk0 : 0 < k
        · have hki : (0 : Int) < (k : Int) := by omega
          have hk1 : (0 : Int) ≤ (k : Int) - 1 := by omega
          have hk2 : (k : Int) - 1 < (x.length : Int) := by omega
          obtain ⟨pe, hpe⟩ : ∃ pe, x[k - 1]? = some pe := ⟨_, List.getElem?_eq_getElem (by omega)⟩
          have d0 := eStr_cell (hc.below hb hbw) hpe
          have e1 : ((k : Int) - 1).toNat = k - 1 := by omega
          have d0e := ext_cell d0
          have HP := hid hpe
          clear he hao hpe
          cases hle : (Op.bytesLess e.toList pe.toList || e.toList == pe.toList)
          · have hle2 : Op.bytesLess pe.toList e.toList = true := by rw [leL_flip]; have h : leL e pe = false := hle; rw [h]; rfl
            have HLE := hid hle
            go_wp2
            refine wp_region_ext (by kernel_rfl) (by kernel_rfl) ?_
            repeat (go_big_quiet_step ((go_at_call 63; exact same_ext (HW _))))
            refine wpQuiet_nil ?_
            intro _ hw'
            obtain ⟨nq, hw''⟩ := hw'
            subst hw''
            go_wp2
            go_roundw
            case rel =>
              refine ⟨k + 1, by omega, by go_num, hb.trans ((ext_below _ _).mono hb.size), hid (fun j e' hj he' => ?_)⟩
              by_cases ej : j = k
              · subst ej
                rw [HE.out] at he'; obtain rfl := Option.some.inj he'
                obtain ⟨k', rfl⟩ : ∃ k', j = k' + 1 := ⟨j - 1, by omega⟩
                have hp := HP.out
                simp at hp
                have hle' : leL e pe = false := HLE.out
                simp [hw, labAt, ordAtL, hp, hle']
              · exact HA.out j e' (by omega) he'
            case measure => simp [intOf]; omega
          · have hle2 : Op.bytesLess pe.toList e.toList = false := by rw [leL_flip]; have h : leL e pe = true := hle; rw [h]; rfl
            have HLE := hid hle
            go_wp2
            refine wp_region_ext (by kernel_rfl) (by kernel_rfl) ?_
            repeat (go_big_quiet_step ((go_at_call 63; exact same_ext (HW _))))
            refine wpQuiet_nil ?_
            intro _ hw'
            obtain ⟨nq, hw''⟩ := hw'
            subst hw''
            go_wp2
            go_ret
            refine ret_bool (labsOk_at HE.out ?_).symm (hb.trans ((ext_below _ _).mono hb.size))
            obtain ⟨k', rfl⟩ : ∃ k', k = k' + 1 := ⟨k - 1, by omega⟩
            have hp := HP.out
            simp at hp
            have hle' : leL e pe = true := HLE.out
            simp [hw, labAt, ordAtL, hp, hle']
        · have hki : (k : Int) ≤ 0 := by omega
          clear he hao
          go_wp2
          refine wp_region_ext (by kernel_rfl) (by kernel_rfl) ?_
          repeat (go_big_quiet_step ((go_at_call 63; exact same_ext (HW _))))
          refine wpQuiet_nil ?_
          intro _ hw'
          obtain ⟨nq, hw''⟩ := hw'
          subst hw''
          go_wp2
          go_roundw
          case rel =>
            refine ⟨k + 1, by omega, by go_num, hb.trans ((ext_below _ _).mono hb.size), hid (fun j e' hj he' => ?_)⟩
            obtain rfl : k = 0 := by omega
            obtain rfl : j = 0 := by omega
            rw [HE.out] at he'; obtain rfl := Option.some.inj he'
            simp [hw, labAt, ordAtL]
          case measure => simp [intOf]; omega
    · have HV := hid (labsOk_all (x := x) fun j e hj => HA.out j e (by omega))
      have HI : ∀ w', Calls Tryz.prog 54 #[.int .i64 x.length, .int .i64 1, .int .i64 12] w' fun e w'' => e = .returned (.bool (inB x.length 1 12)) ∧ w' = w'' := fun w' => l00In_any _ _ _ w'
      clear hao
      go_wp2_with (go_at_call 54; refine (HI _).mono ?_; rintro e w' ⟨rfl, rfl⟩)
      go_ret
      exact ret_bool HV.out.symm hb
set_option maxHeartbeats 2000000 in
theorem validClasses_any (v : Value) (x : XStringS) (w : World) (h : Arr eStr w v x) (ok : okStringS x) (g : goodStringS x) :
    Calls Tryz.prog 55 #[v] w (Ret (.bool (labsOk x)) w) := by
  obtain ⟨b, off, ao, cap, rfl, hnc, hcm, hao, hc⟩ := h
  unfold maxLen at hcm
  unfold okStringS at ok
  go_enter Tryz.func55, Tryz.ntmps55
  go_wp2
  go_loopw [7] (fun i wr => ∃ k : Nat, k ≤ x.length ∧ i = .int .i64 k ∧ Below w.heap.size w wr ∧ Hid (∀ j e, j < k → x[j]? = some e → labAt x j e = true)) (fun i _ => x.length - (intOf i).toNat)
  case atStart => exact ⟨0, Nat.zero_le _, rfl, Below.refl _ _, hid (fun j e h => by omega)⟩
  case round =>
    obtain ⟨k, hk, rfl, hb, HA⟩ := hrel
    by_cases hlt : k < x.length
    · obtain ⟨hao', hbw⟩ := hao (by omega)
      subst hao'
      obtain ⟨e, he⟩ : ∃ e, x[k]? = some e := ⟨_, List.getElem?_eq_getElem hlt⟩
      have c0 := eStr_cell (hc.below hb hbw) he
      have hws := goodLab g he
      have hli : (k : Int) < (x.length : Int) := by omega
      have HE := hid he
      cases hw : isLabelB e
      · have HW := implLabel_is hws hw
        clear he hao
        go_wp2_with (go_at_call 44; refine (HW _).mono ?_; rintro e w' ⟨rfl, rfl⟩)
        go_ret
        exact ret_bool (labsOk_at HE.out (by simp [labAt, hw])).symm hb
      · have HW := implLabel_is hws hw
        by_cases hk0 : 0 < k
        · have hki : (0 : Int) < (k : Int) := by omega
          have hk1 : (0 : Int) ≤ (k : Int) - 1 := by omega
          have hk2 : (k : Int) - 1 < (x.length : Int) := by omega
          obtain ⟨pe, hpe⟩ : ∃ pe, x[k - 1]? = some pe := ⟨_, List.getElem?_eq_getElem (by omega)⟩
          have d0 := eStr_cell (hc.below hb hbw) hpe
          have e1 : ((k : Int) - 1).toNat = k - 1 := by omega
          have HP := hid hpe
          clear he hao hpe
          cases hle : (Op.bytesLess e.toList pe.toList || e.toList == pe.toList)
          · have HLE := hid hle
            go_wp2_with (go_at_call 44; refine (HW _).mono ?_; rintro e w' ⟨rfl, rfl⟩)
            go_roundw
            case rel =>
              refine ⟨k + 1, by omega, by go_num, hb, hid (fun j e' hj he' => ?_)⟩
              by_cases ej : j = k
              · subst ej
                rw [HE.out] at he'; obtain rfl := Option.some.inj he'
                obtain ⟨k', rfl⟩ : ∃ k', j = k' + 1 := ⟨j - 1, by omega⟩
                have hp := HP.out
                simp at hp
                have hle' : leL e pe = false := HLE.out
                simp [hw, labAt, ordAtL, hp, hle']
              · exact HA.out j e' (by omega) he'
            case measure => simp [intOf]; omega
          · have HLE := hid hle
            go_wp2_with (go_at_call 44; refine (HW _).mono ?_; rintro e w' ⟨rfl, rfl⟩)
            go_ret
            refine ret_bool (labsOk_at HE.out ?_).symm hb
            obtain ⟨k', rfl⟩ : ∃ k', k = k' + 1 := ⟨k - 1, by omega⟩
            have hp := HP.out
            simp at hp
            have hle' : leL e pe = true := HLE.out
            simp [hw, labAt, ordAtL, hp, hle']
        · have hki : (k : Int) ≤ 0 := by omega
          clear he hao
          go_wp2_with (go_at_call 44; refine (HW _).mono ?_; rintro e w' ⟨rfl, rfl⟩)
          go_roundw
          case rel =>
            refine ⟨k + 1, by omega, by go_num, hb, hid (fun j e' hj he' => ?_)⟩
            obtain rfl : k = 0 := by omega
            obtain rfl : j = 0 := by omega
            rw [HE.out] at he'; obtain rfl := Option.some.inj he'
            simp [hw, labAt, ordAtL]
          case measure => simp [intOf]; omega
    · have HV := hid (labsOk_all (x := x) fun j e hj => HA.out j e (by omega))
      clear hao
      by_cases h1 : 1 ≤ x.length
      · have h1i : (1 : Int) ≤ (x.length : Int) := by omega
        have HI : Hid (labsOk x = decide ((x.length : Int) ≤ 12)) := hid (by rw [HV.out]; exact (inB_t h1i).symm)
        go_wp2
        go_ret
        exact ret_bool HI.out.symm hb
      · have h1d : decide ((1 : Int) ≤ (x.length : Int)) = false := by rw [decide_eq_false_iff_not]; omega
        have h1i : (x.length : Int) < 1 := by omega
        have HI : Hid (labsOk x = false) := hid (by rw [HV.out]; exact (inB_f h1i).symm)
        go_wp2
        go_ret
        exact ret_bool HI.out.symm hb
end Go.Proofs.YtbgjojnjbplblaaGreatDoor
