/- Classify: the call of the reference. -/
import Derived.Test.YtdifhnckhocmdaaPcClsP
namespace Go.Proofs.Ytdifhnckhocmdaa
open Go.RowKit

set_option maxRecDepth 100000 in
set_option maxHeartbeats 8000000 in
theorem specClassify_any (v1 : Value) (x : XPerceptron) (v2 : Value) (y : XFeatS) (w : World) {lo1 hi1 lo2 hi2 : Nat} (h1 : rPerceptron.at_ lo1 hi1 w v1 x) (h2 : rFeatS.at_ lo2 hi2 w v2 y) (ok1 : okPerceptron x) (ok2 : okFeatS y) (g1 : goodPerceptron x) (_ : goodFeatS y) :
    Calls Try.prog 31 #[v1, v2] w (Ret (.tuple #[.string (clsL x y), .int .i64 (clsM x y), .int .i64 (scC x y)]) w) := by
  obtain ⟨u1, u2, rfl, h3, h4⟩ := h1
  obtain ⟨x1, x2⟩ := x
  obtain ⟨hn1, hn2⟩ := ok1
  unfold goodPerceptron at g1
  simp only at h3 h4 hn1 hn2 g1
  replace h3 := rStringS_arr h3
  replace h4 := rowsI_at h4
  replace h2 := rFeatS_arr h2
  obtain ⟨W, hW⟩ : ∃ u, u = (w.alloc (.cells #[u1, u2] 28)) := ⟨_, rfl⟩
  have hbW : Below w.heap.size w W := by rw [hW]; exact belowA1 _ _
  have q1 : Box W (w.heap.size) #[u1, u2] 28 := by
    have hq := Box.new w #[u1, u2] 28
    rw [hW]
    exact hq
  obtain ⟨p1, hp1⟩ : ∃ p, p = w.heap.size := ⟨_, rfl⟩
  rw [← hp1] at q1
  have hge1 : w.heap.size ≤ p1 := by omega
  have hlW : w.heap.size ≤ W.heap.size := hbW.size
  have hlp1 : p1 < W.heap.size := q1.lt
  have HP1 := hid hp1
  have HW := hid hW
  clear hW hp1
  have h3W := h3.below hbW
  have h4W := h4.below hbW
  have h2W := h2.below hbW
  have m0 := q1.cell (j := 0) rfl
  have m1 := q1.cell (j := 1) rfl
  have CO := l12Ok_any p1 u1 u2 x1 x2 W m0 m1 h3W h4W hn1 hn2 g1
  cases hp : pcOk (x1, x2)
  · have HG : Hid (clsL (x1, x2) y = ⟨#[]⟩ ∧ clsM (x1, x2) y = 0 ∧ scC (x1, x2) y = 1) := by show _ ∧ _; simp [clsL, clsM, scC, scOk, hp]
    rw [hp] at CO
    go_enter Try.func31, Try.ntmps31
    go_wp2_with fail
    rw [← HP1.out, ← HW.out]
    refine CO.mono ?_
    rintro e w2 ⟨rfl, hb⟩
    go_wp2_with fail
    go_ret3
    rw [HG.out.1, HG.out.2.1, HG.out.2.2]
    exact ⟨rfl, hbW.trans (hb.mono hlW)⟩
  rw [hp] at CO
  have CF := fun w' (hb : Below W.heap.size W w') => l08Ok_any v2 y w' (h2W.below hb) ok2
  cases hf : featsOk y
  · have HG : Hid (clsL (x1, x2) y = ⟨#[]⟩ ∧ clsM (x1, x2) y = 0 ∧ scC (x1, x2) y = 1) := by show _ ∧ _; simp [clsL, clsM, scC, scOk, hf]
    rw [hf] at CF
    go_enter Try.func31, Try.ntmps31
    go_wp2_with fail
    rw [← HP1.out, ← HW.out]
    refine CO.mono ?_
    rintro e w2 ⟨rfl, hb⟩
    go_wp2_with fail
    refine (CF _ hb).mono ?_
    rintro e w3 ⟨rfl, hb3⟩
    replace hb := hb.trans (hb3.mono hb.size)
    go_wp2_with fail
    go_ret3
    rw [HG.out.1, HG.out.2.1, HG.out.2.2]
    exact ⟨rfl, hbW.trans (hb.mono hlW)⟩
  rw [hf] at CF
  have HP : Hid ((∀ r ∈ x2, rowOk r = true) ∧ x2.length = x1.length ∧ 1 ≤ x1.length ∧ x1.length ≤ 12) := hid (pcOk_rows hp)
  have HF := hid hf
  obtain ⟨S, hS⟩ : ∃ S, S = scoresF x2 (inpF y) := ⟨_, rfl⟩
  have hSl : S.length = x1.length := by rw [hS, scoresF_len]; exact HP.out.2.1
  have hSb : ∀ (k : Nat) (c : Int), S[k]? = some c → -4915200000000 ≤ c ∧ c ≤ 4915200000000 := fun k c hc => by rw [hS] at hc; exact scores_bd HP.out.1 (okInp_of HF.out) hc
  obtain ⟨lab, hlab⟩ : ∃ s, x1[clsI (x1, x2) y]? = some s := cls_lab hp
  have hI : clsI (x1, x2) y = bestI S := by rw [hS]; rfl
  have HG : Hid (clsL (x1, x2) y = lab ∧ clsM (x1, x2) y = marginL S ∧ scC (x1, x2) y = 0) := by show _ ∧ _; simp [clsL, clsM, scC, scOk, hf, hp, hlab, hS]
  have HSX := hid hS
  rw [hI] at hlab
  have hS1 : 1 ≤ S.length := by have := HP.out.2; omega
  have hS12 : S.length ≤ 12 := by have := HP.out.2; omega
  clear hp hS hI hSl
  go_enter Try.func31, Try.ntmps31
  go_wp2_with fail
  rw [← HP1.out, ← HW.out]
  refine CO.mono ?_
  rintro e w2 ⟨rfl, hb⟩
  go_wp2_with fail
  refine (CF _ hb).mono ?_
  rintro e w3 ⟨rfl, hb3⟩
  replace hb := hb.trans (hb3.mono hb.size)
  go_wp2_with fail
  refine (l12Input_any _ y w3 (h2W.below hb) HF.out).mono ?_
  rintro e w4 ⟨u, rfl, ho, hb4⟩
  have hb5 := hb.trans (hb4.mono hb.size)
  have hAI := rInt64S_arr (rInt64S.own_at ho)
  obtain ⟨sa, sc, hu⟩ := hAI.isSlice
  subst hu
  have CS := l12Scores_any p1 u2 _ x2 (inpF y) w4 (cell_later hb5 m1) (h4W.below hb5) hAI (okInp_of HF.out) HP.out.1 (by have := HP.out.2; omega)
  go_wp2_with fail
  refine CS.mono ?_
  rintro e w5 ⟨u, rfl, ho5, hb6⟩
  rw [← HSX.out] at ho5
  have hb7 := hb5.trans (hb6.mono hb5.size)
  have hAS := rInt64S_arr (rInt64S.own_at ho5)
  obtain ⟨sa', sc', hu⟩ := hAS.isSlice
  subst hu
  have CB := l12Best_any _ S w5 hAS hS1 (by omega)
  clear hb3 hb4 hb6 CS CO CF ho hAI
  go_wp2_with fail
  refine CB.mono ?_
  rintro e w6 ⟨rfl, hb8⟩
  replace hAS := hAS.below hb8
  replace hb7 := hb7.trans (hb8.mono hb7.size)
  clear hb8 CB ho5
  obtain ⟨B, hB⟩ : ∃ B, B = bestI S := ⟨_, rfl⟩
  have hBl : B < S.length := by rw [hB]; exact bestI_lt hS1
  have HB := hid hB
  rw [← hB] at hlab ⊢
  clear hB
  obtain ⟨d, hd⟩ : ∃ d, S[B]? = some d := ⟨_, List.getElem?_eq_getElem hBl⟩
  have hdb := hSb B d hd
  obtain ⟨bS, offS, aoS, capS, hvS, hncS, hcmS, haoS, hcS⟩ := hAS
  obtain ⟨haoS', hbwS⟩ := haoS (by omega)
  subst haoS'
  simp only [Value.slice.injEq, true_and] at hvS
  obtain ⟨rfl, rfl⟩ := hvS
  unfold maxLen at hcmS
  have eB := eI_cell hcS hd
  have n0 := cell_later hb7 m0
  have hL := h3W.below hb7
  have HD := hid hd
  have HSB := hid hSb
  have HL := hid hlab
  have hlb : (B : Int) < (S.length : Int) := by omega
  clear hd hSb hlab haoS h3 h4 h2 h3W h4W h2W m0 m1 q1
  go_wp2_with fail
  go_loopw [9, 10] (fun u i wr => ∃ k : Nat, k ≤ S.length ∧ i = .int .i64 k ∧ u = .int .i64 (marK S B k) ∧ Below w6.heap.size w6 wr) (fun _ i _ => S.length - (intOf i).toNat)
  case atStart => exact ⟨0, Nat.zero_le _, rfl, rfl, Below.refl _ _⟩
  case round =>
    obtain ⟨k, hk, rfl, rfl, hbq⟩ := hrel
    obtain ⟨M, hM⟩ : ∃ M, M = marK S B k := ⟨_, rfl⟩
    rw [← hM]
    have f0 := cell_later hbq n0
    have f1 := cell_later hbq eB
    by_cases hlt : k < S.length
    · obtain ⟨c, hcc⟩ : ∃ c, S[k]? = some c := ⟨_, List.getElem?_eq_getElem hlt⟩
      have hcb := HSB.out k c hcc
      have f2 := cell_later hbq (eI_cell hcS hcc)
      have hli : (k : Int) < (S.length : Int) := by omega
      have HS : Hid (marK S B (k + 1) = if k ≠ B ∧ (M < 0 ∨ d - c < M) then d - c else M) := hid (by rw [marK, ← hM, getD_some hcc, getD_some HD.out])
      clear hcc hM
      by_cases hkB : k = B
      · have hd1 : ((k : Int) != (B : Int)) = false := by rw [hkB]; simp
        have HS2 := hid (HS.out.trans (if_neg (fun h => h.1 hkB)))
        clear hkB
        go_wp2_with fail
        have x_f0 := ext_cell f0
        have x_f1 := ext_cell f1
        have x_f2 := ext_cell f2
        refine wp_region_ext (by kernel_rfl) (by kernel_rfl) ?_
        repeat (go_big_quiet_step (fail))
        refine wpQuiet_nil ?_
        intro _ hw'
        obtain ⟨nq, hw''⟩ := hw'
        subst hw''
        replace f0 := x_f0 nq
        replace f1 := x_f1 nq
        replace f2 := x_f2 nq
        clear x_f0 x_f1 x_f2
        replace hbq := hbq.trans ((ext_below _ nq).mono hbq.size)
        go_wp2
        go_roundw
        case rel => exact ⟨k + 1, by omega, by go_num, by rw [HS2.out], hbq⟩
        case measure => simp [intOf]; omega
      · have hd1 : ((k : Int) != (B : Int)) = true := by rw [bne_iff_ne]; omega
        by_cases hM0 : M < 0
        · have hd2 : decide (M < 0) = true := by simpa using hM0
          have HS2 := hid (HS.out.trans (if_pos ⟨hkB, .inl hM0⟩))
          clear hkB hM0
          go_wp2_with fail
          have x_f0 := ext_cell f0
          have x_f1 := ext_cell f1
          have x_f2 := ext_cell f2
          refine wp_region_ext (by kernel_rfl) (by kernel_rfl) ?_
          repeat (go_big_quiet_step (fail))
          refine wpQuiet_nil ?_
          intro _ hw'
          obtain ⟨nq, hw''⟩ := hw'
          subst hw''
          replace f0 := x_f0 nq
          replace f1 := x_f1 nq
          replace f2 := x_f2 nq
          clear x_f0 x_f1 x_f2
          replace hbq := hbq.trans ((ext_below _ nq).mono hbq.size)
          go_wp2_with fail
          have x_f0 := ext_cell f0
          have x_f1 := ext_cell f1
          have x_f2 := ext_cell f2
          refine wp_region_ext (by kernel_rfl) (by kernel_rfl) ?_
          repeat (go_big_quiet_step (fail))
          refine wpQuiet_nil ?_
          intro _ hw'
          obtain ⟨nq2, hw''⟩ := hw'
          subst hw''
          replace f0 := x_f0 nq2
          replace f1 := x_f1 nq2
          replace f2 := x_f2 nq2
          clear x_f0 x_f1 x_f2
          replace hbq := hbq.trans ((ext_below _ nq2).mono hbq.size)
          go_wp2
          go_roundw
          case rel => exact ⟨k + 1, by omega, by go_num, by rw [HS2.out], hbq⟩
          case measure => simp [intOf]; omega
        · have hd2 : decide (M < 0) = false := by simpa using hM0
          by_cases hlt2 : d - c < M
          · have hd3 : decide (d - c < M) = true := by simpa using hlt2
            have HS2 := hid (HS.out.trans (if_pos ⟨hkB, .inr hlt2⟩))
            clear hkB
            go_wp2_with fail
            have x_f0 := ext_cell f0
            have x_f1 := ext_cell f1
            have x_f2 := ext_cell f2
            refine wp_region_ext (by kernel_rfl) (by kernel_rfl) ?_
            repeat (go_big_quiet_step (fail))
            refine wpQuiet_nil ?_
            intro _ hw'
            obtain ⟨nq, hw''⟩ := hw'
            subst hw''
            replace f0 := x_f0 nq
            replace f1 := x_f1 nq
            replace f2 := x_f2 nq
            clear x_f0 x_f1 x_f2
            replace hbq := hbq.trans ((ext_below _ nq).mono hbq.size)
            go_wp2_with fail
            have x_f0 := ext_cell f0
            have x_f1 := ext_cell f1
            have x_f2 := ext_cell f2
            refine wp_region_ext (by kernel_rfl) (by kernel_rfl) ?_
            repeat (go_big_quiet_step (fail))
            refine wpQuiet_nil ?_
            intro _ hw'
            obtain ⟨nq2, hw''⟩ := hw'
            subst hw''
            replace f0 := x_f0 nq2
            replace f1 := x_f1 nq2
            replace f2 := x_f2 nq2
            clear x_f0 x_f1 x_f2
            replace hbq := hbq.trans ((ext_below _ nq2).mono hbq.size)
            go_wp2
            go_roundw
            case rel => exact ⟨k + 1, by omega, by go_num, by rw [HS2.out], hbq⟩
            case measure => simp [intOf]; omega
          · have hd3 : decide (d - c < M) = false := by simpa using hlt2
            have HS2 := hid (HS.out.trans (if_neg (fun h => h.2.elim hM0 hlt2)))
            clear hkB
            go_wp2_with fail
            have x_f0 := ext_cell f0
            have x_f1 := ext_cell f1
            have x_f2 := ext_cell f2
            refine wp_region_ext (by kernel_rfl) (by kernel_rfl) ?_
            repeat (go_big_quiet_step (fail))
            refine wpQuiet_nil ?_
            intro _ hw'
            obtain ⟨nq, hw''⟩ := hw'
            subst hw''
            replace f0 := x_f0 nq
            replace f1 := x_f1 nq
            replace f2 := x_f2 nq
            clear x_f0 x_f1 x_f2
            replace hbq := hbq.trans ((ext_below _ nq).mono hbq.size)
            go_wp2
            go_roundw
            case rel => exact ⟨k + 1, by omega, by go_num, by rw [HS2.out], hbq⟩
            case measure => simp [intOf]; omega
    · obtain rfl : k = S.length := by omega
      have HM : Hid (max M 0 = marginL S) := hid (by rw [show max M 0 = if 0 < M then M else 0 by split <;> omega, hM, HB.out]; exact marK_margin S hS1)
      have hL2 := hL.below hbq
      obtain ⟨bL, offL, aoL, capL, hvL, hncL, hcmL, haoL, hcL⟩ := hL2
      have hx1B := (List.getElem?_eq_some_iff.1 HL.out).1
      obtain ⟨haoL', hbwL⟩ := haoL (by omega)
      subst haoL'
      subst hvL
      unfold maxLen at hcmL
      have eL := eStr_cell hcL HL.out
      have hlx : (B : Int) < (x1.length : Int) := by omega
      clear hM haoL hx1B
      go_wp2_with fail
      have x_f0 := ext_cell f0
      have x_eL := ext_cell eL
      refine wp_region_ext (by kernel_rfl) (by kernel_rfl) ?_
      repeat (go_big_quiet_step ((go_at_call 68; exact same_ext (l00Max_any _ _ _))))
      refine wpQuiet_nil ?_
      intro _ hw'
      obtain ⟨nq, hw''⟩ := hw'
      subst hw''
      replace f0 := x_f0 nq
      replace eL := x_eL nq
      clear x_f0 x_eL
      replace hbq := hbq.trans ((ext_below _ nq).mono hbq.size)
      go_wp2
      go_ret3
      rw [HG.out.1, HG.out.2.1, HG.out.2.2, HM.out]
      exact ⟨rfl, hbW.trans ((hb7.trans (hbq.mono hb7.size)).mono hlW)⟩
end Go.Proofs.Ytdifhnckhocmdaa
