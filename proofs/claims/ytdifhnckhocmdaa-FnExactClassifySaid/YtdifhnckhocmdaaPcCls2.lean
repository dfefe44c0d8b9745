/- Classify: the call of the program. -/
import Derived.Test.YtdifhnckhocmdaaPcClsP
import Derived.Test.YtdifhnckhocmdaaPcDel
namespace Go.Proofs.Ytdifhnckhocmdaa
open Go.RowKit

set_option maxRecDepth 100000 in
set_option maxHeartbeats 8000000 in
theorem implClassify_any (v1 : Value) (x : XPerceptron) (v2 : Value) (y : XFeatS) (w : World) {lo1 hi1 lo2 hi2 : Nat} (h1 : rPerceptron.at_ lo1 hi1 w v1 x) (h2 : rFeatS.at_ lo2 hi2 w v2 y) (ok1 : okPerceptron x) (ok2 : okFeatS y) (g1 : goodPerceptron x) (g2 : goodFeatS y) :
    Calls Try.prog 32 #[v1, v2] w (Ret (.tuple #[.string (clsL x y), .int .i64 (clsM x y), .int .i64 (scC x y)]) w) := by
  obtain ⟨u1, u2, rfl, h3, h4⟩ := h1
  obtain ⟨x1, x2⟩ := x
  obtain ⟨hn1, hn2⟩ := ok1
  unfold goodPerceptron at g1
  simp only at h3 h4 hn1 hn2 g1
  replace h3 := rStringS_arr h3
  replace h4 := rowsI_at h4
  replace h2 := rFeatS_arr h2
  obtain ⟨W, hW⟩ : ∃ u, u = (w.alloc (.cells #[u1, u2] 28)) := ⟨_, rfl⟩
  have hbW : Below w.heap.size w W := by rw [hW]; exact belowA1 _ _
  have q1 : Box W (w.heap.size) #[u1, u2] 28 := by
    have hq := Box.new w #[u1, u2] 28
    rw [hW]
    exact hq
  obtain ⟨p1, hp1⟩ : ∃ p, p = w.heap.size := ⟨_, rfl⟩
  rw [← hp1] at q1
  have hge1 : w.heap.size ≤ p1 := by omega
  have hlW : w.heap.size ≤ W.heap.size := hbW.size
  have hlp1 : p1 < W.heap.size := q1.lt
  have HP1 := hid hp1
  have HW := hid hW
  clear hW hp1
  have h3W := h3.below hbW
  have m0 := q1.cell (j := 0) rfl
  have m1 := q1.cell (j := 1) rfl
  have CS := implScoresOf_any (.agg #[u1, u2]) (x1, x2) v2 y W ⟨u1, u2, rfl, h3W.in_, (h4.below hbW).at_⟩ (h2.below hbW).in_ ⟨hn1, hn2⟩ ok2 g1 g2
  cases hs : scOk (x1, x2) y
  · have HG : Hid (clsL (x1, x2) y = ⟨#[]⟩ ∧ clsM (x1, x2) y = 0 ∧ scC (x1, x2) y = 1) := by show _ ∧ _; simp [clsL, clsM, scC, hs]
    have HC := hid HG.out.2.2
    rw [HC.out] at CS
    go_enter Try.func32, Try.ntmps32
    go_wp2_with fail
    rw [← HP1.out, ← HW.out]
    go_wp2_with fail
    refine CS.mono ?_
    rintro e w2 ⟨u, rfl, ho, hb⟩
    obtain ⟨sa, sc, hu⟩ := (rInt64S_arr (rInt64S.own_at ho)).isSlice
    subst hu
    go_wp2_with fail
    go_ret3
    rw [HG.out.1, HG.out.2.1, HG.out.2.2]
    exact ⟨rfl, hbW.trans (hb.mono hlW)⟩
  have hp : pcOk (x1, x2) = true := by unfold scOk at hs; rw [Bool.and_eq_true] at hs; exact hs.1
  have hf : featsOk y = true := by unfold scOk at hs; rw [Bool.and_eq_true] at hs; exact hs.2
  have HP : Hid ((∀ r ∈ x2, rowOk r = true) ∧ x2.length = x1.length ∧ 1 ≤ x1.length ∧ x1.length ≤ 12) := hid (pcOk_rows hp)
  obtain ⟨S, hS⟩ : ∃ S, S = scoresF x2 (inpF y) := ⟨_, rfl⟩
  have hSl : S.length = x1.length := by rw [hS, scoresF_len]; exact HP.out.2.1
  have hSb : ∀ (k : Nat) (c : Int), S[k]? = some c → -4915200000000 ≤ c ∧ c ≤ 4915200000000 := fun k c hc => by rw [hS] at hc; exact scores_bd HP.out.1 (okInp_of hf) hc
  obtain ⟨lab, hlab⟩ : ∃ s, x1[clsI (x1, x2) y]? = some s := cls_lab hp
  have hI : clsI (x1, x2) y = bestI S := by rw [hS]; rfl
  have HG : Hid (clsL (x1, x2) y = lab ∧ clsM (x1, x2) y = marginL S ∧ scC (x1, x2) y = 0) := by show _ ∧ _; simp [clsL, clsM, scC, hs, hlab, hS]
  have HX : Hid (scX (x1, x2) y = S) := hid (by simp [scX, hs, hS])
  rw [HX.out, HG.out.2.2] at CS
  rw [hI] at hlab
  have hS1 : 1 ≤ S.length := by have := HP.out.2; omega
  have hS12 : S.length ≤ 12 := by have := HP.out.2; omega
  clear hp hS hI hs hf hSl
  go_enter Try.func32, Try.ntmps32
  go_wp2_with fail
  rw [← HP1.out, ← HW.out]
  go_wp2_with fail
  refine CS.mono ?_
  rintro e w2 ⟨u, rfl, ho, hb⟩
  have hAS := rInt64S_arr (rInt64S.own_at ho)
  obtain ⟨sa, sc, hu⟩ := hAS.isSlice
  subst hu
  have HW := winner_any _ S w2 hAS hS1 (by omega)
  have HC := cloneI_any _ S w2 hAS (by omega)
  clear CS ho
  go_wp2_with fail
  refine HW.mono ?_
  rintro e w' ⟨rfl, rfl⟩
  obtain ⟨B, hB⟩ : ∃ B, B = bestI S := ⟨_, rfl⟩
  have hBl : B < S.length := by rw [hB]; exact bestI_lt hS1
  have HB := hid hB
  rw [← hB] at hlab ⊢
  clear hB
  go_wp2_with fail
  refine HC.mono ?_
  rintro e w3 ⟨uc, rfl, hoC, hb3⟩
  obtain ⟨g, cap, rfl, hg0, hg1⟩ : ∃ g cap, uc = .slice (some ⟨g, 0, none⟩) S.length cap ∧ w2.heap.size ≤ g ∧ g < w3.heap.size := by
    rcases hoC.shape with ⟨_, h⟩ | h
    · rw [h] at hS1; simp at hS1
    · exact h
  go_wp2_with fail
  refine (deleteI_any g cap S.length B _ S w3 hoC rfl hBl (by omega)).mono ?_
  rintro e w4 ⟨rfl, hoD, hgr⟩
  have hb4 : Below w2.heap.size w2 w4 := hb3.grown hgr hb3.size (by simp; omega)
  have hb5 := hb.trans (hb4.mono hb.size)
  have hAD := hoD.arr
  obtain ⟨d, hd⟩ : ∃ d, S[B]? = some d := ⟨_, List.getElem?_eq_getElem hBl⟩
  have hdb := hSb B d hd
  have hAS4 := hAS.below hb4
  obtain ⟨bS, offS, aoS, capS, hvS, hncS, hcmS, haoS, hcS⟩ := hAS4
  obtain ⟨haoS', hbwS⟩ := haoS (by omega)
  subst haoS'
  simp only [Value.slice.injEq, true_and] at hvS
  obtain ⟨rfl, rfl⟩ := hvS
  unfold maxLen at hcmS
  have eB := eI_cell hcS hd
  have n0 := cell_later hb5 m0
  have hL2 := h3W.below hb5
  obtain ⟨bL, offL, aoL, capL, hvL, hncL, hcmL, haoL, hcL⟩ := hL2
  have hx1B := (List.getElem?_eq_some_iff.1 hlab).1
  obtain ⟨haoL', hbwL⟩ := haoL (by omega)
  subst haoL'
  subst hvL
  unfold maxLen at hcmL
  have eL := eStr_cell hcL hlab
  have hlx : (B : Int) < (x1.length : Int) := by omega
  have hlb : (B : Int) < (S.length : Int) := by omega
  have hel : (S.eraseIdx B).length = S.length - 1 := List.length_eraseIdx_of_lt hBl
  have HSB := hid hSb
  have HL := hid hlab
  have HD := hid hd
  have HBL := hid hBl
  have hF : w4.frozen? ⟨p1, 0, none⟩ = w4.frozen? ⟨p1, 0, none⟩ := rfl
  clear hF hAS hoC hoD hb3 hgr HC HW hb4 hd hlab hSb haoS haoL hx1B h3 h4 h2 h3W m0 m1 q1
  by_cases h2l : 1 < S.length
  · have hd1 : decide ((0 : Int) < ((S.length - 1 : Nat) : Int)) = true := by simp; omega
    have hm := maxL_mem (l := S.eraseIdx B) (by omega)
    have hmb : -4915200000000 ≤ maxL (S.eraseIdx B) ∧ maxL (S.eraseIdx B) ≤ 4915200000000 := by
      rw [List.getElem?_eraseIdx] at hm
      generalize bestI (S.eraseIdx B) = I at hm
      split at hm
      · exact HSB.out _ _ hm
      · exact HSB.out _ _ hm
    have HM : Hid (marginL S = d - maxL (S.eraseIdx B)) := hid (by rw [marginL, if_neg (by omega), ← HB.out]; congr 1; rw [maxL, ← HB.out, getD_some HD.out])
    have CM := fun w' h => maxI_any (.slice (some ⟨g, 0, none⟩) (S.length - 1) cap) (S.eraseIdx B) w' h (by omega) (by omega)
    generalize maxL (S.eraseIdx B) = M at hmb HM CM
    clear hm
    go_wp2_with fail
    have x_eB := ext_cell eB
    have x_n0 := ext_cell n0
    have x_eL := ext_cell eL
    refine wp_region_ext (by kernel_rfl) (by kernel_rfl) ?_
    repeat (go_big_quiet_step ((go_at_call 72; exact same_ext (CM _ (ext_arr hAD _)))))
    refine wpQuiet_nil ?_
    intro _ hw'
    obtain ⟨nq, hw''⟩ := hw'
    subst hw''
    replace eB := x_eB nq
    replace n0 := x_n0 nq
    replace eL := x_eL nq
    clear x_eB x_n0 x_eL
    replace hb5 := hb5.trans ((ext_below _ nq).mono hb5.size)
    clear CM hAD
    go_wp2
    go_ret3
    rw [HG.out.1, HG.out.2.1, HG.out.2.2, HM.out]
    exact ⟨rfl, hbW.trans (hb5.mono hlW)⟩
  · have hd1 : decide ((0 : Int) < ((S.length - 1 : Nat) : Int)) = false := by simp; omega
    have hz : S.length - 1 = 0 := by omega
    have HM : Hid (marginL S = 0) := hid (by rw [marginL, if_pos (by omega)])
    rw [hz] at hd1 ⊢
    go_wp2
    go_ret3
    rw [HG.out.1, HG.out.2.1, HG.out.2.2, HM.out]
    exact ⟨rfl, hbW.trans (hb5.mono hlW)⟩
end Go.Proofs.Ytdifhnckhocmdaa
