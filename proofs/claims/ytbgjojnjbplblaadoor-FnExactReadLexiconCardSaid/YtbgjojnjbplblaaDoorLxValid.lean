/- What a good lexicon is, and the calls that tell it. -/
import Derived.Test.YtbgjojnjbplblaaDoorWrLexicon
import Derived.Test.YtbgjojnjbplblaaDoorStr
namespace Go.Proofs.YtbgjojnjbplblaaDoor
open Go.RowKit

def leB (a b : ByteArray) : Bool := Op.bytesLess a.toList b.toList || a.toList == b.toList
def ordAt (x : XLexicon) (k : Nat) (e : DEntry) : Bool := match k, x[k-1]? with
  | 0, _ => true
  | _, none => true
  | _, some p => !leB e.word p.word
def entOk (x : XLexicon) (k : Nat) (e : DEntry) : Bool := isWordB e.word && inB e.cost 0 1000000 && ordAt x k e
def validLx (x : XLexicon) : Bool := (List.range x.length).all (fun k => match x[k]? with | some e => entOk x k e | none => true) && decide (x.length ≤ 60)
theorem validLx_at {x : XLexicon} {k : Nat} {e : DEntry} (h : x[k]? = some e) (hb : entOk x k e = false) : validLx x = false := by
  rw [validLx, Bool.and_eq_false_iff]
  refine .inl (List.all_eq_false.2 ⟨k, by simp; exact (List.getElem?_eq_some_iff.1 h).1, ?_⟩)
  rw [h]; simp [hb]
theorem validLx_all {x : XLexicon} (h : ∀ k e, k < x.length → x[k]? = some e → entOk x k e = true) : validLx x = decide (x.length ≤ 60) := by
  have : (List.range x.length).all (fun k => match x[k]? with | some e => entOk x k e | none => true) = true := by
    rw [List.all_eq_true]
    intro k hk
    have hk : k < x.length := by simpa using hk
    cases hx : x[k]? with
    | none => rfl
    | some e => exact h k e hk hx
  rw [validLx, this, Bool.true_and]
theorem goodWord {x : XLexicon} (g : goodLexicon x) {k : Nat} {e : DEntry} (h : x[k]? = some e) : e.word.size ≤ 9223372036854775807 := (g e (List.mem_of_getElem? h)).1

theorem specWord_is {s : ByteArray} {b : Bool} (hs : s.size ≤ 9223372036854775807) (h : isWordB s = b) (w : World) : Calls Tryd.prog 34 #[.string s] w fun e w' => e = .returned (.bool b) ∧ w = w' := by
  subst h; exact specIsWord_any _ _ hs
theorem inIn_spec (n : Int) (w : World) : Calls Tryd.prog 35 #[.int .i64 n, .int .i64 0, .int .i64 1000000] w fun e w' => e = .returned (.bool (inB n 0 1000000)) ∧ w = w' := l00In_any _ _ _ _
set_option maxHeartbeats 2000000 in
theorem l16Ok_any (p : Nat) (v : Value) (x : XLexicon) (w : World) (hp : w.cell? ⟨p, 0, none⟩ = some v) (h : Arr eEntry w v x) (ok : okLexicon x) (g : goodLexicon x) :
    Calls Tryd.prog 17 #[.pointer (some ⟨p, 0, none⟩)] w (Ret (.bool (validLx x)) w) := by
  obtain ⟨b, off, ao, cap, rfl, hnc, hcm, hao, hc⟩ := h
  unfold maxLen at hcm
  unfold okLexicon at ok
  have hpl := World.block_lt_of_cell? w _ hp
  go_enter Tryd.func17, Tryd.ntmps17
  go_wp2
  go_loopw [3] (fun i wr => ∃ k : Nat, k ≤ x.length ∧ i = .int .i64 k ∧ Below w.heap.size w wr ∧ ∀ j e, j < k → x[j]? = some e → entOk x j e = true) (fun i _ => x.length - (intOf i).toNat)
  case atStart => exact ⟨0, Nat.zero_le _, rfl, Below.refl _ _, fun j e h => by omega⟩
  case round =>
    obtain ⟨k, hk, rfl, hb, hall⟩ := hrel
    have HA := hid hall
    clear hall
    have q1 := (hb.cell (p := ⟨p, 0, none⟩) hpl).trans hp
    have q1e := ext_cell q1
    clear hp
    by_cases hlt : k < x.length
    · obtain ⟨hao', hbw⟩ := hao (by omega)
      subst hao'
      obtain ⟨e, he⟩ : ∃ e, x[k]? = some e := ⟨_, List.getElem?_eq_getElem hlt⟩
      obtain ⟨c0, c1⟩ := eEntry_cells (hc.below hb hbw) he
      have c0e := ext_cell c0
      have c1e := ext_cell c1
      have hws := goodWord g he
      have hli : (k : Int) < (x.length : Int) := by omega
      have HE := hid he
      have HI := fun w' => inIn_spec e.cost w'
      cases hw : isWordB e.word
      · have HW := specWord_is hws hw
        clear he hao
        go_wp2
        refine wp_region_ext (by kernel_rfl) (by kernel_rfl) ?_
        repeat (go_big_quiet_step ((go_at_call 34; exact same_ext (HW _))))
        refine wpQuiet_nil ?_
        intro _ hw'
        obtain ⟨nq, hw''⟩ := hw'
        subst hw''
        go_wp2
        go_ret
        exact ret_bool (validLx_at HE.out (by simp [entOk, hw])).symm (hb.trans ((ext_below _ _).mono hb.size))
      · have HW := specWord_is hws hw
        cases hi : inB e.cost 0 1000000
        · rw [hi] at HI
          clear he hao
          go_wp2
          refine wp_region_ext (by kernel_rfl) (by kernel_rfl) ?_
          repeat (go_big_quiet_step ((first | (go_at_call 34; exact same_ext (HW _)) | (go_at_call 35; exact same_ext (HI _)))))
          refine wpQuiet_nil ?_
          intro _ hw'
          obtain ⟨nq, hw''⟩ := hw'
          subst hw''
          go_wp2
          go_ret
          exact ret_bool (validLx_at HE.out (by simp [entOk, hi])).symm (hb.trans ((ext_below _ _).mono hb.size))
        · rw [hi] at HI
          by_cases hk0 : 0 < k
          · have hki : (0 : Int) < (k : Int) := by omega
            have hk1 : (0 : Int) ≤ (k : Int) - 1 := by omega
            have hk2 : (k : Int) - 1 < (x.length : Int) := by omega
            obtain ⟨pe, hpe⟩ : ∃ pe, x[k - 1]? = some pe := ⟨_, List.getElem?_eq_getElem (by omega)⟩
            obtain ⟨d0, d1⟩ := eEntry_cells (hc.below hb hbw) hpe
            have e1 : ((k : Int) - 1).toNat = k - 1 := by omega
            have d0e := ext_cell d0
            have HP := hid hpe
            clear he hao hpe
            cases hle : (Op.bytesLess e.word.toList pe.word.toList || e.word.toList == pe.word.toList)
            · go_wp2
              refine wp_region_ext (by kernel_rfl) (by kernel_rfl) ?_
              repeat (go_big_quiet_step ((first | (go_at_call 34; exact same_ext (HW _)) | (go_at_call 35; exact same_ext (HI _)))))
              refine wpQuiet_nil ?_
              intro _ hw'
              obtain ⟨nq, hw''⟩ := hw'
              subst hw''
              go_wp2
              go_roundw
              case rel =>
                refine ⟨k + 1, by omega, by go_num, hb.trans ((ext_below _ _).mono hb.size), fun j e' hj he' => ?_⟩
                by_cases ej : j = k
                · subst ej
                  rw [HE.out] at he'; obtain rfl := Option.some.inj he'
                  obtain ⟨k', rfl⟩ : ∃ k', j = k' + 1 := ⟨j - 1, by omega⟩
                  have hp := HP.out
                  simp at hp
                  have hle' : leB e.word pe.word = false := hle
                  simp [entOk, hw, hi, ordAt, hp, hle']
                · exact HA.out j e' (by omega) he'
              case measure => simp [intOf]; omega
            · go_wp2
              refine wp_region_ext (by kernel_rfl) (by kernel_rfl) ?_
              repeat (go_big_quiet_step ((first | (go_at_call 34; exact same_ext (HW _)) | (go_at_call 35; exact same_ext (HI _)))))
              refine wpQuiet_nil ?_
              intro _ hw'
              obtain ⟨nq, hw''⟩ := hw'
              subst hw''
              go_wp2
              go_ret
              refine ret_bool (validLx_at HE.out ?_).symm (hb.trans ((ext_below _ _).mono hb.size))
              obtain ⟨k', rfl⟩ : ∃ k', k = k' + 1 := ⟨k - 1, by omega⟩
              have hp := HP.out
              simp at hp
              have hle' : leB e.word pe.word = true := hle
              simp [entOk, hw, hi, ordAt, hp, hle']
          · have hki : (k : Int) ≤ 0 := by omega
            clear he hao
            go_wp2
            refine wp_region_ext (by kernel_rfl) (by kernel_rfl) ?_
            repeat (go_big_quiet_step ((first | (go_at_call 34; exact same_ext (HW _)) | (go_at_call 35; exact same_ext (HI _)))))
            refine wpQuiet_nil ?_
            intro _ hw'
            obtain ⟨nq, hw''⟩ := hw'
            subst hw''
            go_wp2
            go_roundw
            case rel =>
              refine ⟨k + 1, by omega, by go_num, hb.trans ((ext_below _ _).mono hb.size), fun j e' hj he' => ?_⟩
              obtain rfl : k = 0 := by omega
              obtain rfl : j = 0 := by omega
              rw [HE.out] at he'; obtain rfl := Option.some.inj he'
              simp [entOk, hw, hi, ordAt]
            case measure => simp [intOf]; omega
    · have HV := hid (validLx_all (x := x) fun j e hj => HA.out j e (by omega))
      go_wp2
      go_ret
      exact ret_bool (by rw [HV.out]; exact decide_eq_decide.2 (by omega)) hb
theorem implWord_is {s : ByteArray} {b : Bool} (hs : s.size ≤ 9223372036854775807) (h : isWordB s = b) (w : World) : Calls Tryd.prog 43 #[.string s] w (Ret (.bool b) w) := by
  subst h; exact implIsWord_any _ _ hs
set_option maxHeartbeats 2000000 in
theorem implValidLexicon_any (v : Value) (x : XLexicon) (w : World) {lo hi : Nat} (h : rLexicon.at_ lo hi w v x) (ok : okLexicon x) (g : goodLexicon x) : Calls Tryd.prog 21 #[v] w (Ret (.bool (validLx x)) w) := by
  obtain ⟨u, rfl, h⟩ := h
  replace h := ArrIn.arr h
  obtain ⟨b, off, ao, cap, rfl, hnc, hcm, hao, hc⟩ := h
  unfold maxLen at hcm
  unfold okLexicon at ok
  go_enter Tryd.func21, Tryd.ntmps21
  go_wp2
  go_loopw [8] (fun i wr => ∃ k : Nat, k ≤ x.length ∧ i = .int .i64 k ∧ Below w.heap.size w wr ∧ wr.cell? ⟨w.heap.size, 0, none⟩ = some (.slice ao x.length cap) ∧ ∀ j e, j < k → x[j]? = some e → entOk x j e = true) (fun i _ => x.length - (intOf i).toNat)
  case atStart => exact ⟨0, Nat.zero_le _, rfl, below_alloc _ _, by simp, fun j e h => by omega⟩
  case round =>
    obtain ⟨k, hk, rfl, hb, q1, hall⟩ := hrel
    have HA := hid hall
    clear hall
    by_cases hlt : k < x.length
    · obtain ⟨hao', hbw⟩ := hao (by omega)
      subst hao'
      obtain ⟨e, he⟩ : ∃ e, x[k]? = some e := ⟨_, List.getElem?_eq_getElem hlt⟩
      obtain ⟨c0, c1⟩ := eEntry_cells (hc.below hb hbw) he
      have hws := goodWord g he
      have hli : (k : Int) < (x.length : Int) := by omega
      have HE := hid he
      clear he hao
      obtain ⟨w1, hw1⟩ : ∃ w1, w1 = wr.alloc (.cells #[.string e.word, .int .i64 e.cost] 40) := ⟨_, rfl⟩
      have hb1 : Below w.heap.size w w1 := by rw [hw1]; exact hb.alloc hb.size _
      have hm1 : Below wr.heap.size wr w1 := by rw [hw1]; exact below_alloc _ _
      have p1 : w1.cell? ⟨w.heap.size, 0, none⟩ = some (.slice (some ⟨b, off, none⟩) x.length cap) := cell_later hm1 q1
      have p2 : w1.cell? ⟨wr.heap.size, 0, none⟩ = some (.string e.word) := by rw [hw1]; simp
      have p3 : w1.cell? ⟨wr.heap.size, 1, none⟩ = some (.int .i64 e.cost) := by rw [hw1]; simp
      have p1e := ext_cell p1
      have p2e := ext_cell p2
      have p3e := ext_cell p3
      have HI := fun w' => isCost_any e.cost w'
      cases hw : isWordB e.word
      · have HW := implWord_is hws hw
        go_wp2
        rw [← hw1]
        refine wp_region_ext (by kernel_rfl) (by kernel_rfl) ?_
        repeat (go_big_quiet_step ((first | (go_at_call 43; exact ret_ext (HW _)) | (go_at_call 44; exact same_ext (HI _)))))
        refine wpQuiet_nil ?_
        intro _ hw'
        obtain ⟨nq, hw''⟩ := hw'
        subst hw''
        go_wp2
        go_ret
        exact ret_bool (validLx_at HE.out (by simp [entOk, hw])).symm (hb1.trans ((ext_below _ _).mono hb1.size))
      · have HW := implWord_is hws hw
        cases hi : inB e.cost 0 1000000
        · rw [hi] at HI
          go_wp2
          rw [← hw1]
          refine wp_region_ext (by kernel_rfl) (by kernel_rfl) ?_
          repeat (go_big_quiet_step ((first | (go_at_call 43; exact ret_ext (HW _)) | (go_at_call 44; exact same_ext (HI _)))))
          refine wpQuiet_nil ?_
          intro _ hw'
          obtain ⟨nq, hw''⟩ := hw'
          subst hw''
          go_wp2
          go_ret
          exact ret_bool (validLx_at HE.out (by simp [entOk, hi])).symm (hb1.trans ((ext_below _ _).mono hb1.size))
        · rw [hi] at HI
          by_cases hk0 : 0 < k
          · have hki : (0 : Int) < (k : Int) := by omega
            have hk1 : (0 : Int) ≤ (k : Int) - 1 := by omega
            have hk2 : (k : Int) - 1 < (x.length : Int) := by omega
            obtain ⟨pe, hpe⟩ : ∃ pe, x[k - 1]? = some pe := ⟨_, List.getElem?_eq_getElem (by omega)⟩
            obtain ⟨d0, d1⟩ := eEntry_cells (hc.below hb1 hbw) hpe
            have e1 : ((k : Int) - 1).toNat = k - 1 := by omega
            have d0e := ext_cell d0
            have HP := hid hpe
            clear hpe
            cases hle : (Op.bytesLess e.word.toList pe.word.toList || e.word.toList == pe.word.toList)
            · go_wp2
              rw [← hw1]
              refine wp_region_ext (by kernel_rfl) (by kernel_rfl) ?_
              repeat (go_big_quiet_step ((first | (go_at_call 43; exact ret_ext (HW _)) | (go_at_call 44; exact same_ext (HI _)))))
              refine wpQuiet_nil ?_
              intro _ hw'
              obtain ⟨nq, hw''⟩ := hw'
              subst hw''
              go_wp2
              go_roundw
              case rel =>
                refine ⟨k + 1, by omega, by go_num, hb1.trans ((ext_below _ _).mono hb1.size), p1e nq, fun j e' hj he' => ?_⟩
                by_cases ej : j = k
                · subst ej
                  rw [HE.out] at he'; obtain rfl := Option.some.inj he'
                  obtain ⟨k', rfl⟩ : ∃ k', j = k' + 1 := ⟨j - 1, by omega⟩
                  have hp := HP.out
                  simp at hp
                  have hle' : leB e.word pe.word = false := hle
                  simp [entOk, hw, hi, ordAt, hp, hle']
                · exact HA.out j e' (by omega) he'
              case measure => simp [intOf]; omega
            · go_wp2
              rw [← hw1]
              refine wp_region_ext (by kernel_rfl) (by kernel_rfl) ?_
              repeat (go_big_quiet_step ((first | (go_at_call 43; exact ret_ext (HW _)) | (go_at_call 44; exact same_ext (HI _)))))
              refine wpQuiet_nil ?_
              intro _ hw'
              obtain ⟨nq, hw''⟩ := hw'
              subst hw''
              go_wp2
              go_ret
              refine ret_bool (validLx_at HE.out ?_).symm (hb1.trans ((ext_below _ _).mono hb1.size))
              obtain ⟨k', rfl⟩ : ∃ k', k = k' + 1 := ⟨k - 1, by omega⟩
              have hp := HP.out
              simp at hp
              have hle' : leB e.word pe.word = true := hle
              simp [entOk, hw, hi, ordAt, hp, hle']
          · have hki : (k : Int) ≤ 0 := by omega
            go_wp2
            rw [← hw1]
            refine wp_region_ext (by kernel_rfl) (by kernel_rfl) ?_
            repeat (go_big_quiet_step ((first | (go_at_call 43; exact ret_ext (HW _)) | (go_at_call 44; exact same_ext (HI _)))))
            refine wpQuiet_nil ?_
            intro _ hw'
            obtain ⟨nq, hw''⟩ := hw'
            subst hw''
            go_wp2
            go_roundw
            case rel =>
              refine ⟨k + 1, by omega, by go_num, hb1.trans ((ext_below _ _).mono hb1.size), p1e nq, fun j e' hj he' => ?_⟩
              obtain rfl : k = 0 := by omega
              obtain rfl : j = 0 := by omega
              rw [HE.out] at he'; obtain rfl := Option.some.inj he'
              simp [entOk, hw, hi, ordAt]
            case measure => simp [intOf]; omega
    · have HV := hid (validLx_all (x := x) fun j e hj => HA.out j e (by omega))
      go_wp2
      go_ret
      exact ret_bool (by rw [HV.out]; exact decide_eq_decide.2 (by omega)) hb
end Go.Proofs.YtbgjojnjbplblaaDoor
