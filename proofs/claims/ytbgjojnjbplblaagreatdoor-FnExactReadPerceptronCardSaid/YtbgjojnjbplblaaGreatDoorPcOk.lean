/- Rows of weights and whole perceptrons are told good: both calls. -/
import Derived.Test.YtbgjojnjbplblaaGreatDoorPcValid
import Derived.Test.YtbgjojnjbplblaaGreatDoorPcClo
namespace Go.Proofs.YtbgjojnjbplblaaGreatDoor
open Go.RowKit

theorem all_any {α : Type} (l : List α) (p : α → Bool) : (!l.any fun a => !p a) = l.all p := by
  rw [← List.not_all_eq_any_not, Bool.not_not]
theorem validRowClo_any (x : Int) (w : World) : Calls Tryz.prog 81 #[.int .i64 x] w (Ret (.bool (!inB x (-1000000) 1000000)) w) := by
  go_enter Tryz.func81, Tryz.ntmps81
  go_wp2_with (go_at_call 46; refine (within_any _ _ _ _).mono ?_; rintro e w' ⟨rfl, rfl⟩)
  go_ret
  exact ret_bool rfl (Below.refl _ _)
set_option maxHeartbeats 1000000 in
theorem validRow_any (v : Value) (r : XInt64S) (w : World) (h : Arr eI w v r) (ok : r.length ≤ 1048576) :
    Calls Tryz.prog 58 #[v] w (Ret (.bool (rowOk r)) w) := by
  obtain ⟨sa, sc, hv⟩ := h.isSlice
  subst hv
  have CC := containsI_any 81 #[] (fun c => !inB c (-1000000) 1000000) _ r w h ok (enters_of Tryz.func81 (by kernel_rfl) rfl) (fun k e w' _ _ => validRowClo_any e w')
  by_cases hl : r.length = 25
  · have hd : ((r.length : Int) == 25) = true := by simp [hl]
    have HZ : Hid ((!r.any fun c => !inB c (-1000000) 1000000) = rowOk r) := hid (by rw [all_any]; simp [rowOk, hl])
    have HL := hid hl
    generalize (r.any fun c => !inB c (-1000000) 1000000) = bb at CC HZ
    generalize r.length = rl at hd ⊢ CC
    clear hl
    go_enter Tryz.func58, Tryz.ntmps58
    go_wp2_with (go_at_call 80; refine CC.mono ?_; rintro e w' ⟨rfl, hb⟩)
    go_ret
    exact ret_bool HZ.out hb
  · have hd : ((r.length : Int) == 25) = false := by simp; omega
    have HZ : Hid (rowOk r = false) := hid (by simp [rowOk, hl])
    clear CC
    go_enter Tryz.func58, Tryz.ntmps58
    go_wp2
    go_ret
    exact ret_bool HZ.out.symm (Below.refl _ _)
theorem validPcClo_any (r : XInt64S) (sa : Option Addr) (sc : Nat) (w : World) (h : Arr eI w (.slice sa r.length sc) r) (ok : r.length ≤ 1048576) : Calls Tryz.prog 57 #[.slice sa r.length sc] w (Ret (.bool (!rowOk r)) w) := by
  go_enter Tryz.func57, Tryz.ntmps57
  go_wp2_with (go_at_call 58; refine (validRow_any _ r _ h ok).mono ?_; rintro e w' ⟨rfl, hb⟩)
  go_ret
  exact ret_bool rfl hb
set_option maxRecDepth 100000 in
set_option maxHeartbeats 2000000 in
theorem implValidPerceptron_any (v : Value) (x : XPerceptron) (w : World) {lo hi : Nat} (h : rPerceptron.at_ lo hi w v x) (ok : okPerceptron x) (g : goodPerceptron x) :
    Calls Tryz.prog 27 #[v] w (Ret (.bool (pcOk x)) w) := by
  obtain ⟨u1, u2, rfl, h1, h2⟩ := h
  obtain ⟨x1, x2⟩ := x
  obtain ⟨hn1, hn2⟩ := ok
  unfold goodPerceptron at g
  simp only at h1 h2 hn1 hn2 g
  replace h1 := rStringS_arr h1
  replace h2 := rowsI_at h2
  obtain ⟨sa, sc, hu1⟩ := h1.isSlice
  subst hu1
  obtain ⟨sb, sd, hu2⟩ := nestI_slice h2.at_
  subst hu2
  have hx1 : x1.length ≤ 1048576 := hn1
  have hx2 : x2.length ≤ 1048576 := by unfold okInt64SS at hn2; omega
  obtain ⟨W, hW⟩ : ∃ u, u = (w.alloc (.cells #[.slice sa x1.length sc, .slice sb x2.length sd] 33)) := ⟨_, rfl⟩
  have hbW : Below w.heap.size w W := by rw [hW]; exact belowA1 _ _
  have q1 : Box W (w.heap.size) #[.slice sa x1.length sc, .slice sb x2.length sd] 33 := by
    have hq := Box.new w #[.slice sa x1.length sc, .slice sb x2.length sd] 33
    rw [hW]
    exact hq
  obtain ⟨p1, hp1⟩ : ∃ p, p = w.heap.size := ⟨_, rfl⟩
  rw [← hp1] at q1
  have hge1 : w.heap.size ≤ p1 := by omega
  have hlW : w.heap.size ≤ W.heap.size := hbW.size
  have hlp1 : p1 < W.heap.size := q1.lt
  have HP1 := hid hp1
  have HW := hid hW
  clear hW hp1
  have hA := h1.below hbW
  have hB := h2.below hbW
  have m10 := q1.cell (j := 0) rfl
  have m11 := q1.cell (j := 1) rfl
  have CL := validClasses_any _ x1 W hA hn1 g
  clear h1 h2
  cases hl : labsOk x1
  · have HZ : Hid (pcOk (x1, x2) = false) := hid (by simp [pcOk, hl])
    rw [hl] at CL
    go_enter Tryz.func27, Tryz.ntmps27
    go_wp2_with fail
    rw [← HP1.out, ← HW.out]
    refine CL.mono ?_
    rintro e w2 ⟨rfl, hb⟩
    go_wp2_with fail
    go_ret
    exact ret_bool HZ.out.symm (hbW.trans (hb.mono hlW))
  rw [hl] at CL
  by_cases hc : x2.length = x1.length
  · have hd : ((x2.length : Int) == (x1.length : Int)) = true := by simp [hc]
    have HZ : Hid ((!x2.any fun r => !rowOk r) = pcOk (x1, x2)) := hid (by rw [all_any]; simp [pcOk, hl, hc])
    have CC := fun w' (hb : Below W.heap.size W w') => containsR_any 57 #[] (fun r => !rowOk r) _ x2 w' (hB.below hb) hx2 (enters_of Tryz.func57 (by kernel_rfl) rfl) (fun k e sa sc w3 he _ hA => validPcClo_any e sa sc w3 hA (okInt64SS_st hn2 he))
    generalize (x2.any fun r => !rowOk r) = bb at CC HZ
    clear hc hl
    go_enter Tryz.func27, Tryz.ntmps27
    go_wp2_with fail
    rw [← HP1.out, ← HW.out]
    refine CL.mono ?_
    rintro e w2 ⟨rfl, hb⟩
    have c10 := cell_later hb m10
    have c11 := cell_later hb m11
    go_wp2_with fail
    refine (CC w2 hb).mono ?_
    rintro e w3 ⟨rfl, hb3⟩
    go_wp2_with fail
    go_ret
    exact ret_bool HZ.out (hbW.trans ((hb.trans (hb3.mono hb.size)).mono hlW))
  · have hd : ((x2.length : Int) == (x1.length : Int)) = false := by rw [beq_eq_false_iff_ne]; omega
    have HZ : Hid (pcOk (x1, x2) = false) := hid (by simp [pcOk, hl, hc])
    clear hc hl
    go_enter Tryz.func27, Tryz.ntmps27
    go_wp2_with fail
    rw [← HP1.out, ← HW.out]
    refine CL.mono ?_
    rintro e w2 ⟨rfl, hb⟩
    have c10 := cell_later hb m10
    have c11 := cell_later hb m11
    go_wp2_with fail
    go_ret
    exact ret_bool HZ.out.symm (hbW.trans (hb.mono hlW))
set_option maxRecDepth 100000 in
set_option maxHeartbeats 2000000 in
theorem l12Ok_any (p : Nat) (u1 u2 : Value) (x1 : XStringS) (x2 : XInt64SS) (w : World) (m0 : w.cell? ⟨p, 0, none⟩ = some u1) (m1 : w.cell? ⟨p, 1, none⟩ = some u2) (h1 : Arr eStr w u1 x1) (h2 : RowsI w u2 x2) (hn1 : okStringS x1) (hn2 : okInt64SS x2) (g : goodStringS x1) :
    Calls Tryz.prog 26 #[.pointer (some ⟨p, 0, none⟩)] w (Ret (.bool (pcOk (x1, x2))) w) := by
  obtain ⟨sa, sc, hu1⟩ := h1.isSlice
  subst hu1
  obtain ⟨sb, sd, hu2⟩ := nestI_slice h2.at_
  subst hu2
  have hx1 : x1.length ≤ 1048576 := hn1
  have hx2 : x2.length ≤ 1048576 := by unfold okInt64SS at hn2; omega
  have e0 := ext_cell m0
  have e1 := ext_cell m1
  have CL := fun w' (hb : Below w.heap.size w w') => l12Labels_any _ x1 w' (h1.below hb) hn1 g
  cases hl : labsOk x1
  · have HZ : Hid (pcOk (x1, x2) = false) := hid (by simp [pcOk, hl])
    rw [hl] at CL
    go_enter Tryz.func26, Tryz.ntmps26
    go_wp2
    refine wp_region_ext (by kernel_rfl) (by kernel_rfl) ?_
    repeat (go_big_quiet_step ((go_at_call 53; exact ret_ext (CL _ (ext_below _ _)))))
    refine wpQuiet_nil ?_
    intro _ hw'
    obtain ⟨nq, hw''⟩ := hw'
    subst hw''
    go_wp2
    go_ret
    exact ret_bool HZ.out.symm (ext_below _ _)
  rw [hl] at CL
  by_cases hc : x2.length = x1.length
  · have hd : ((x2.length : Int) == (x1.length : Int)) = true := by simp [hc]
    have HPC : Hid (pcOk (x1, x2) = x2.all rowOk) := hid (by simp [pcOk, hl, hc])
    obtain ⟨b, off, ao, cap, us, hv, hnc, hcm, hao, hcl, hul, hin⟩ := h2.slice
    simp only [Value.slice.injEq, true_and] at hv
    obtain ⟨rfl, rfl⟩ := hv
    have HUL := hid hul
    have HIN := hid hin
    unfold maxLen at hcm
    clear hc hl hul hin
    go_enter Tryz.func26, Tryz.ntmps26
    go_wp2
    refine wp_region_ext (by kernel_rfl) (by kernel_rfl) ?_
    repeat (go_big_quiet_step ((go_at_call 53; exact ret_ext (CL _ (ext_below _ _)))))
    refine wpQuiet_nil ?_
    intro _ hw'
    obtain ⟨nq, hw''⟩ := hw'
    subst hw''
    have hbX := ext_below w nq
    generalize ext w nq = wX at *
    clear CL e0 e1
    go_wp2
    rw [show ((x2.length : Int) != (x1.length : Int)) = false by rw [bne, hd]; rfl]
    go_loopw [3] (fun i wr => ∃ k : Nat, k ≤ x2.length ∧ i = .int .i64 k ∧ Below w.heap.size w wr ∧ Hid (∀ j r, j < k → x2[j]? = some r → rowOk r = true)) (fun i _ => x2.length - (intOf i).toNat)
    case atStart => exact ⟨0, Nat.zero_le _, rfl, hbX, hid (fun j e h => by omega)⟩
    case round =>
      clear hbX hd
      obtain ⟨k, hk, rfl, hb, HA⟩ := hrel
      have c0 := cell_later hb m0
      have c1 := cell_later hb m1
      by_cases hlt : k < x2.length
      · obtain ⟨hao', hbw⟩ := hao (by omega)
        subst hao'
        obtain ⟨r, hr⟩ : ∃ r, x2[k]? = some r := ⟨_, List.getElem?_eq_getElem hlt⟩
        obtain ⟨s, hsv⟩ : ∃ s, us[k]? = some s := ⟨_, List.getElem?_eq_getElem (by rw [HUL.out]; exact hlt)⟩
        have d0 := eS1_cells (hcl.below hb hbw) hsv
        have hA := (HIN.out k s r hsv hr).below hb
        obtain ⟨ra, rc, hsl⟩ := hA.isSlice
        rw [hsl] at hA
        have hsl2 : Value.slice s.a s.n s.c = .slice ra r.length rc := hsl
        rw [hsl2] at d0
        have hli : (k : Int) < (x2.length : Int) := by omega
        have HR := hid hr
        have hrl : r.length ≤ 1048576 := okInt64SS_st hn2 hr
        obtain ⟨b2, off2, ao2, cap2, hv2, hnc2, hcm2, hao2, hc2⟩ := hA
        simp only [Value.slice.injEq, true_and] at hv2
        obtain ⟨rfl, rfl⟩ := hv2
        unfold maxLen at hcm2
        clear hr hsv hsl hsl2 hao
        by_cases h25 : r.length = 25
        · have h25d : ((r.length : Int) == 25) = true := by simp [h25]
          have H25 := hid h25
          obtain ⟨rl, hrl2⟩ : ∃ rl, rl = r.length := ⟨_, rfl⟩
          rw [← hrl2] at h25d d0 hnc2 hrl
          have hrl25 : (rl : Int) = 25 := by omega
          have HRL := hid hrl2
          obtain ⟨hao2', hb2w⟩ := hao2 (by omega)
          subst hao2'
          clear h25 hrl2 hao2
          have H25' := hid hrl25
          clear hrl25
          go_wp2
          rw [show ((rl : Int) != 25) = false by rw [bne, h25d]; rfl]
          obtain ⟨w0, rfl⟩ : ∃ w0, w0 = wr := ⟨wr, rfl⟩
          go_loopw [4] (fun i wq => ∃ t : Nat, t ≤ 25 ∧ i = .int .i64 t ∧ Below w0.heap.size w0 wq ∧ Hid (∀ j c, j < t → r[j]? = some c → inB c (-1000000) 1000000 = true)) (fun i _ => 25 - (intOf i).toNat)
          case atStart => exact ⟨0, Nat.zero_le _, rfl, Below.refl _ _, hid (fun j e h => by omega)⟩
          case round =>
            obtain ⟨t, ht, rfl, hbq, HB⟩ := hrel
            have f0 := cell_later hbq c0
            have f1 := cell_later hbq c1
            have f2 := cell_later hbq d0
            by_cases htl : t < 25
            · have hti : (t : Int) < 25 := by omega
              have htl2 : (t : Int) < (rl : Int) := by have := H25'.out; omega
              obtain ⟨c, hcc⟩ : ∃ c, r[t]? = some c := ⟨_, List.getElem?_eq_getElem (by have := H25.out; omega)⟩
              have f3 := eI_cell (hc2.below hbq hb2w) hcc
              have HC := hid hcc
              have HI := fun w' => l00In_any c (-1000000) 1000000 w'
              clear hcc
              cases hi : inB c (-1000000) 1000000
              · rw [hi] at HI
                have HZ : Hid (pcOk (x1, x2) = false) := hid (by
                  rw [HPC.out, List.all_eq_false]
                  refine ⟨r, List.mem_of_getElem? HR.out, ?_⟩
                  rw [Bool.not_eq_true, rowOk, Bool.and_eq_false_iff]
                  refine .inr (List.all_eq_false.2 ⟨c, List.mem_of_getElem? HC.out, by rw [hi]; exact Bool.false_ne_true⟩))
                go_wp2_with (go_at_call 54; refine (HI _).mono ?_; rintro e w' ⟨rfl, rfl⟩)
                go_ret
                exact ret_bool HZ.out.symm (hb.trans (hbq.mono hb.size))
              · rw [hi] at HI
                go_wp2_with (go_at_call 54; refine (HI _).mono ?_; rintro e w' ⟨rfl, rfl⟩)
                go_roundw
                case rel =>
                  refine ⟨t + 1, by omega, by go_num, hbq, hid (fun j a hj ha => ?_)⟩
                  by_cases ej : j = t
                  · subst ej; rw [HC.out] at ha; obtain rfl := Option.some.inj ha; exact hi
                  · exact HB.out j a (by omega) ha
                case measure => simp [intOf]; omega
            · have htd : ¬ ((t : Int) < 25) := by omega
              have HRO : Hid (rowOk r = true) := hid (by
                unfold rowOk
                rw [Bool.and_eq_true, decide_eq_true_eq, List.all_eq_true]
                refine ⟨H25.out, fun c hc => ?_⟩
                obtain ⟨j, hj⟩ := List.mem_iff_getElem?.1 hc
                exact HB.out j c (by have := (List.getElem?_eq_some_iff.1 hj).1; have := H25.out; omega) hj)
              go_wp2
              go_roundw
              case rel =>
                refine ⟨k + 1, by omega, by go_num, hb.trans (hbq.mono hb.size), hid (fun j a hj ha => ?_)⟩
                by_cases ej : j = k
                · subst ej; rw [HR.out] at ha; obtain rfl := Option.some.inj ha; exact HRO.out
                · exact HA.out j a (by omega) ha
              case measure => simp [intOf]; omega
        · have h25d : ((r.length : Int) == 25) = false := by rw [beq_eq_false_iff_ne]; omega
          have HZ : Hid (pcOk (x1, x2) = false) := hid (by
            rw [HPC.out, List.all_eq_false]
            exact ⟨r, List.mem_of_getElem? HR.out, by simp [rowOk, h25]⟩)
          clear h25
          go_wp2
          go_ret
          exact ret_bool HZ.out.symm hb
      · have hkd : ¬ ((k : Int) < (x2.length : Int)) := by omega
        have HZ : Hid (pcOk (x1, x2) = true) := hid (by
          rw [HPC.out, List.all_eq_true]
          intro r hr
          obtain ⟨j, hj⟩ := List.mem_iff_getElem?.1 hr
          exact HA.out j r (by have := (List.getElem?_eq_some_iff.1 hj).1; omega) hj)
        go_wp2
        go_ret
        exact ret_bool HZ.out.symm hb
  · have hd : ((x2.length : Int) == (x1.length : Int)) = false := by rw [beq_eq_false_iff_ne]; omega
    have HZ : Hid (pcOk (x1, x2) = false) := hid (by simp [pcOk, hl, hc])
    clear hc hl
    go_enter Tryz.func26, Tryz.ntmps26
    go_wp2
    refine wp_region_ext (by kernel_rfl) (by kernel_rfl) ?_
    repeat (go_big_quiet_step ((go_at_call 53; exact ret_ext (CL _ (ext_below _ _)))))
    refine wpQuiet_nil ?_
    intro _ hw'
    obtain ⟨nq, hw''⟩ := hw'
    subst hw''
    go_wp2
    go_ret
    exact ret_bool HZ.out.symm (ext_below _ _)
end Go.Proofs.YtbgjojnjbplblaaGreatDoor
