/- PerceptronText: both calls. -/
import Derived.Test.YtbgjojnjbplblaaGreatDoorPcOk
import Derived.Test.YtbgjojnjbplblaaGreatDoorTxBld
import Derived.Lib.AppendStr
import Derived.Deep.Cut
namespace Go.Proofs.YtbgjojnjbplblaaGreatDoor
open Go.RowKit

theorem pcOk_rowsT {x : XPerceptron} (h : pcOk x = true) : (∀ r ∈ x.2, rowOk r = true) ∧ x.2.length = x.1.length ∧ 1 ≤ x.1.length ∧ x.1.length ≤ 12 := by
  unfold pcOk at h
  rw [Bool.and_eq_true, Bool.and_eq_true, decide_eq_true_eq] at h
  have h1 := h.1
  unfold labsOk at h1
  rw [Bool.and_eq_true, inB_true] at h1
  exact ⟨fun r hr => List.all_eq_true.1 h.2.2 r hr, h.2.1, by omega, by omega⟩
theorem rowOk_lenT {r : List Int} (h : rowOk r = true) : r.length = 25 := by
  unfold rowOk at h
  rw [Bool.and_eq_true, decide_eq_true_eq] at h
  exact h.1
def numL (r : List Int) : List UInt8 := r.flatMap fun c => 32 :: Lib.itoa c
def rowL (p : ByteArray × List Int) : List UInt8 := p.1.data.toList ++ numL p.2 ++ [10]
def pcpL (z : List (ByteArray × List Int)) : List UInt8 := z.flatMap rowL
def pcpS (x : XPerceptron) : ByteArray := if pcOk x then ofL (pcpL (x.1.zip x.2)) else ⟨#[]⟩
theorem lab_one {x : XPerceptron} (h : pcOk x = true) {s : ByteArray} (hs : s ∈ x.1) : s.size = 1 := by
  obtain ⟨k, hk⟩ := List.getElem?_of_mem hs
  have hl : labsOk x.1 = true := by unfold pcOk at h; rw [Bool.and_eq_true] at h; exact h.1
  cases hb : labAt x.1 k s with
  | false => rw [labsOk_at hk hb] at hl; cases hl
  | true =>
    unfold labAt at hb
    rw [Bool.and_eq_true] at hb
    by_cases h1 : s.size = 1
    · exact h1
    · have := hb.1; rw [isLabel_len h1] at this; cases this
theorem num_ok {x : XPerceptron} (h : pcOk x = true) {r : List Int} (hr : r ∈ x.2) {c : Int} (hc : c ∈ r) : okN c := by
  have h1 := (pcOk_rowsT h).1 r hr
  obtain ⟨k, hk⟩ := List.getElem?_of_mem hc
  have h2 := rowOk_bd h1 k
  rw [List.getD, hk, Option.getD_some] at h2
  unfold okN
  omega
theorem num_len {x : XPerceptron} (h : pcOk x = true) {r : List Int} (hr : r ∈ x.2) (t : Nat) : (numL (r.take t)).length ≤ 550 := by
  have h1 := flat_len (fun c => 32 :: Lib.itoa c) 22 (r.take t) fun c hc => by
    have := num_ok h hr (List.mem_of_mem_take hc)
    have := Lib.itoa_length_le c this.1 this.2
    rw [List.length_cons]; omega
  have h2 := rowOk_lenT ((pcOk_rowsT h).1 r hr)
  have h3 : (r.take t).length ≤ 25 := by rw [List.length_take]; omega
  unfold numL
  have h4 := Nat.mul_le_mul_left 22 h3
  omega
theorem pcp_len {x : XPerceptron} (h : pcOk x = true) (k : Nat) : (pcpL ((x.1.zip x.2).take k)).length ≤ 6624 := by
  have h0 := pcOk_rowsT h
  have h1 := flat_len rowL 552 ((x.1.zip x.2).take k) fun p hp => by
    have hm := List.mem_of_mem_take hp
    obtain ⟨a, b⟩ := p
    obtain ⟨ha, hb⟩ := List.of_mem_zip hm
    have h2 := lab_one h ha
    have h3 := num_len h hb b.length
    rw [List.take_length] at h3
    rw [size_list] at h2
    unfold rowL
    rw [List.length_append, List.length_append]
    simp only [List.length_singleton]
    omega
  have h2 : ((x.1.zip x.2).take k).length ≤ 12 := by rw [List.length_take, List.length_zip]; omega
  unfold pcpL
  have h4 := Nat.mul_le_mul_left 552 h2
  omega
theorem zip_at {x : XPerceptron} {k : Nat} {s : ByteArray} {r : List Int} (h1 : x.1[k]? = some s) (h2 : x.2[k]? = some r) : (x.1.zip x.2)[k]? = some (s, r) := by
  rw [List.getElem?_zip_eq_some]; exact ⟨h1, h2⟩
theorem pcp_step {x : XPerceptron} {k : Nat} {s : ByteArray} {r : List Int} (h1 : x.1[k]? = some s) (h2 : x.2[k]? = some r) : pcpL ((x.1.zip x.2).take (k + 1)) = pcpL ((x.1.zip x.2).take k) ++ s.data.toList ++ numL (r.take r.length) ++ [10] := by
  unfold pcpL
  rw [flat_take rowL (zip_at h1 h2), List.take_length]
  simp [rowL]
theorem num_step {r : List Int} {t : Nat} {c : Int} (h : r[t]? = some c) : numL (r.take (t + 1)) = numL (r.take t) ++ (32 :: Lib.itoa c) := by
  unfold numL
  rw [flat_take (fun c => 32 :: Lib.itoa c) h]
set_option maxRecDepth 100000 in
set_option maxHeartbeats 8000000 in
theorem implPerceptronText_any (v : Value) (x : XPerceptron) (w : World) {lo hi : Nat} (h : rPerceptron.at_ lo hi w v x) (ok : okPerceptron x) (g : goodPerceptron x) (ht : TabL w) :
    Calls Tryz.prog 28 #[v] w (Ret (.string (pcpS x)) w) := by
  have h0 := h
  obtain ⟨u1, u2, rfl, h3, h4⟩ := h
  obtain ⟨x1, x2⟩ := x
  replace h3 := rStringS_arr h3
  replace h4 := rowsI_at h4
  simp only at h3 h4
  obtain ⟨bL, offL, aoL, capL, rfl, hncL, hcmL, haoL, hcL⟩ := h3
  unfold maxLen at hcmL
  obtain ⟨b, off, ao, cap, us, rfl, hnc, hcm, hao, hcl, hul, hin⟩ := h4.slice
  unfold maxLen at hcm
  have HUL := hid hul
  have HIN := hid hin
  clear hul hin h4
  obtain ⟨W, hW⟩ : ∃ u, u = (w.alloc (.cells #[.slice aoL x1.length capL, .slice ao x2.length cap] 33)) := ⟨_, rfl⟩
  have hbW : Below w.heap.size w W := by rw [hW]; exact belowA1 _ _
  have q1 : Box W (w.heap.size) #[.slice aoL x1.length capL, .slice ao x2.length cap] 33 := by
    have hq := Box.new w #[.slice aoL x1.length capL, .slice ao x2.length cap] 33
    rw [hW]
    exact hq
  obtain ⟨p1, hp1⟩ : ∃ p, p = w.heap.size := ⟨_, rfl⟩
  rw [← hp1] at q1
  have hge1 : w.heap.size ≤ p1 := by omega
  have hlW : w.heap.size ≤ W.heap.size := hbW.size
  have hlp1 : p1 < W.heap.size := q1.lt
  have HP1 := hid hp1
  have HW := hid hW
  clear hW hp1
  have htW := ht.below hbW
  have m0 := q1.cell (j := 0) rfl
  have m1 := q1.cell (j := 1) rfl
  have CV := implValidPerceptron_any _ (x1, x2) W (rPerceptron.at_below h0 hbW) ok g
  cases hv : pcOk (x1, x2)
  · rw [hv] at CV
    have HG : Hid (pcpS (x1, x2) = ⟨#[]⟩) := hid (by unfold pcpS; rw [hv]; rfl)
    go_enter Tryz.func28, Tryz.ntmps28
    go_upto_region 1 with fail
    rw [← HP1.out, ← HW.out]
    go_wp2_with fail
    refine CV.mono ?_
    rintro e w2 ⟨rfl, hb⟩
    go_wp2_with fail
    go_ret
    exact ⟨by rw [HG.out]; rfl, hbW.trans (hb.mono hlW)⟩
  rw [hv] at CV
  have HG : Hid (pcpS (x1, x2) = ofL (pcpL (x1.zip x2))) := hid (by unfold pcpS; rw [hv]; rfl)
  have HV := hid hv
  have HP : Hid ((∀ r ∈ x2, rowOk r = true) ∧ x2.length = x1.length ∧ 1 ≤ x1.length ∧ x1.length ≤ 12) := hid (pcOk_rowsT hv)
  clear hv h0
  go_enter Tryz.func28, Tryz.ntmps28
  go_upto_region 1 with fail
  rw [← HP1.out, ← HW.out]
  go_wp2_with fail
  refine CV.mono ?_
  rintro e w2 ⟨rfl, hb2⟩
  have hs2 := hb2.size
  go_upto_region 4 with fail
  obtain ⟨pb, hpb⟩ : ∃ pb, pb = w2.heap.size := ⟨_, rfl⟩
  obtain ⟨w3, hw3⟩ : ∃ w3, w3 = w2.alloc (.cells #[.pointer none, .slice none 0 0] 78) := ⟨_, rfl⟩
  rw [← hw3, ← hpb]
  have hB3 : Bld pb pb [] w3 := by rw [hw3, hpb]; exact bldNew w2
  have hb3 : Below W.heap.size W w3 := by rw [hw3]; exact hb2.trans ((below_alloc _ _).mono hs2)
  have n0 := cell_later hb3 m0
  have n1 := cell_later hb3 m1
  have hpbl : pb < w3.heap.size := by rw [hw3, hpb]; simp
  have hpW : W.heap.size ≤ pb := by omega
  have htW3 := htW.below hb3
  have hbE3 := hbW.trans (hb3.mono hlW)
  have hgt : 3 < pb := Nat.lt_of_lt_of_le htW.lt hpW
  have hp1b : p1 < pb := by omega
  clear hw3 hpb CV m0 m1 q1
  go_wp2_with fail
  go_loopw [14] (fun i wr => ∃ k : Nat, k ≤ x1.length ∧ i = .int .i64 k ∧ Bld pb pb (pcpL ((x1.zip x2).take k)) wr ∧ Below pb w3 wr) (fun i _ => x1.length - (intOf i).toNat)
  case atStart => exact ⟨0, Nat.zero_le _, rfl, hB3, Below.refl _ _⟩
  case round =>
    clear hB3
    obtain ⟨k, hk, rfl, hB, hbl⟩ := hrel
    have hlt' := hbl.size
    by_cases hlt : k < x1.length
    · have hli : (k : Int) < (x1.length : Int) := by omega
      have hlen := HP.out.2.1
      have hli2 : (k : Int) < (x2.length : Int) := by omega
      obtain ⟨hao1, hbw1⟩ := haoL (by omega)
      obtain ⟨hao', hbw⟩ := hao (by omega)
      subst hao' hao1
      obtain ⟨s, hs⟩ : ∃ s, x1[k]? = some s := ⟨_, List.getElem?_eq_getElem hlt⟩
      obtain ⟨r, hr⟩ : ∃ r, x2[k]? = some r := ⟨_, List.getElem?_eq_getElem (by omega)⟩
      obtain ⟨sr, hsv⟩ : ∃ s, us[k]? = some s := ⟨_, List.getElem?_eq_getElem (by rw [HUL.out]; omega)⟩
      have hbE := hbE3.trans (hbl.mono (by omega))
      have d0 := eStr_cell (hcL.below hbE hbw1) hs
      have hss := lab_one HV.out (List.mem_of_getElem? hs)
      have hrm := List.mem_of_getElem? hr
      have hrl := rowOk_lenT (HP.out.1 r hrm)
      have HT := hid (pcp_step (x := (x1, x2)) hs hr)
      have hll := pcp_len HV.out k
      simp only at hll
      have CW := bldWrite pb pb (pcpL ((x1.zip x2).take k)) s wr hB (by omega) (by omega)
      have HARR := hid (HIN.out k sr r hsv hr)
      have HSV := hid hsv
      have HRM := hid hrm
      clear hlen hs hr hsv hrm
      go_wp2_with fail
      refine CW.mono ?_
      rintro e w5 ⟨rfl, hB5, hb5⟩
      have hbl5 := hbl.trans hb5
      have hs5 := hbl5.size
      have hbE5 := hbE3.trans (hbl5.mono (by omega))
      have k1 : w5.cell? ⟨p1, 1, none⟩ = some (.slice (some ⟨b, off, none⟩) x2.length cap) := (hbl5.cell (p := ⟨p1, 1, none⟩) hp1b).trans n1
      have e0 := eS1_cells (hcl.below hbE5 hbw) HSV.out
      obtain ⟨b2, off2, ao2, cap2, hv2, hnc2, hcm2, hao2, hc2⟩ := HARR.out
      have hv2 : Value.slice sr.a sr.n sr.c = .slice ao2 r.length cap2 := hv2
      obtain ⟨hao2', hb2w⟩ := hao2 (by omega)
      subst hao2'
      rw [hv2] at e0
      unfold maxLen at hcm2
      have htW5 := htW3.on hbl5 hgt
      have HB5 : Hid (Bld pb pb (pcpL ((x1.zip x2).take k) ++ s.data.toList ++ numL (r.take 0)) w5) := hid (by
        have e : numL (r.take 0) = [] := rfl
        rw [e, List.append_nil]; exact hB5)
      rw [size_list] at hss
      clear hB5 hb5 CW hB hbl d0 hv2
      go_wp2_with fail
      obtain ⟨w5', rfl⟩ : ∃ w5', w5' = w5 := ⟨w5, rfl⟩
      go_loopw [27] (fun i wr => ∃ t : Nat, t ≤ r.length ∧ i = .int .i64 t ∧ Bld pb pb (pcpL ((x1.zip x2).take k) ++ s.data.toList ++ numL (r.take t)) wr ∧ Below pb w5' wr) (fun i _ => r.length - (intOf i).toNat)
      case atStart => exact ⟨0, Nat.zero_le _, rfl, HB5.out, Below.refl _ _⟩
      case round =>
        obtain ⟨t, ht', rfl, hB, hblt⟩ := hrel
        have hst := hblt.size
        have hnl := num_len HV.out HRM.out t
        by_cases hltt : t < r.length
        · have hlit : (t : Int) < (r.length : Int) := by omega
          obtain ⟨c, hc⟩ : ∃ c, r[t]? = some c := ⟨_, List.getElem?_eq_getElem hltt⟩
          have hok := num_ok HV.out HRM.out (List.mem_of_getElem? hc)
          have hbEt := hbE5.trans (hblt.mono (by omega))
          have z0 : wr.cell? ⟨b2, off2 + t, none⟩ = some (.int .i64 c) := by
            have := (hc2.below hbEt hb2w) t c hc 0 _ rfl
            simpa [eI] using this
          have hz := decS_size hok
          have HN := hid (num_step hc)
          have CD := Decimal_any c wr hok (htW5.on hblt hgt)
          clear hc
          go_wp2_with fail
          refine CD.mono ?_
          rintro e w6 ⟨rfl, hb6⟩
          have hs6 := hb6.size
          have CW := bldWrite pb pb (pcpL ((x1.zip x2).take k) ++ s.data.toList ++ numL (r.take t)) (⟨#[32]⟩ ++ decS c) w6 (hB.later hb6) (by rw [ByteArray.size_append, List.length_append, List.length_append]; show _ + (1 + (decS c).size) ≤ _; omega) (by omega)
          clear CD z0
          go_wp2_with fail
          refine CW.mono ?_
          rintro e w7 ⟨rfl, hB7, hb7⟩
          have HB7 := hid hB7
          have hb67 := (hblt.trans (hb6.mono (by omega))).trans hb7
          clear hB7 CW hB
          go_wp2_with fail
          go_roundw
          case rel =>
            refine ⟨t + 1, by omega, by go_num, ?_, hb67⟩
            rw [HN.out, ← List.append_assoc]
            have := HB7.out
            rw [app_list, decS_list] at this
            exact this
          case measure => simp [intOf]; omega
        · obtain rfl : t = r.length := by omega
          have hlit : ¬ ((r.length : Int) < (r.length : Int)) := by omega
          have CW := bldWrite pb pb (pcpL ((x1.zip x2).take k) ++ s.data.toList ++ numL (r.take r.length)) ⟨#[10]⟩ wr hB (by rw [List.length_append, List.length_append]; show _ + 1 ≤ _; omega) (by omega)
          go_wp2_with fail
          refine CW.mono ?_
          rintro e w7 ⟨rfl, hB7, hb7⟩
          have HB7 := hid hB7
          have hb67 := (hbl5.trans hblt).trans hb7
          clear hB7 CW hB
          go_wp2_with fail
          go_roundw
          case rel => exact ⟨k + 1, by omega, by go_num, by rw [HT.out]; exact HB7.out, hb67⟩
          case measure => simp [intOf]; omega
    · obtain rfl : k = x1.length := by omega
      have hli : ¬ ((x1.length : Int) < (x1.length : Int)) := by omega
      have hzl : (x1.zip x2).take x1.length = x1.zip x2 := List.take_of_length_le (by rw [List.length_zip]; omega)
      rw [hzl] at hB
      have CS := bldString pb pb (pcpL (x1.zip x2)) wr hB (by omega)
      clear hzl
      go_wp2_with fail
      refine CS.mono ?_
      rintro e w6 ⟨rfl, hb6⟩
      go_wp2_with fail
      go_ret
      exact ⟨by rw [HG.out]; rfl, (hbE3.trans (hbl.mono (by omega))).trans (hb6.mono (by omega))⟩
end Go.Proofs.YtbgjojnjbplblaaGreatDoor
