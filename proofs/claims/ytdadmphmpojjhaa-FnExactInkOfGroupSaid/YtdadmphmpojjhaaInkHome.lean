/- The home of a stroke. -/
import Derived.Test.YtdadmphmpojjhaaInkOk
namespace Go.Proofs.Ytdadmphmpojjhaa
open Go.RowKit

def comW (d b : DBox) : Int := min (d.x2 + 40) b.x2 - max (d.x1 - 40) b.x1 + 1
def stepH (d : DBox) (s : XStroke) (k : Nat) (acc : Int × Int) : Int × Int := if isDotB s then acc else if acc.2 ≤ comW d (boxSt s) then ((k : Int), comW d (boxSt s)) else acc
def homeF (X : XInk) (d : DBox) : Nat → Int × Int
  | 0 => (-1, 1)
  | k + 1 => match X[k]? with
    | some s => stepH d s k (homeF X d k)
    | none => homeF X d k
def homeI (X : XInk) (k : Nat) : Int := match X[k]? with
  | some s => if isDotB s then (homeF X (boxSt s) k).1 else -1
  | none => -1
theorem homeF_succ {X : XInk} {d : DBox} {k : Nat} {s : XStroke} (h : X[k]? = some s) : homeF X d (k + 1) = stepH d s k (homeF X d k) := by simp [homeF, h]
theorem homeF_pos (X : XInk) (d : DBox) : ∀ k, 1 ≤ (homeF X d k).2 ∧ -1 ≤ (homeF X d k).1 ∧ (homeF X d k).1 < k
  | 0 => by simp [homeF]
  | k + 1 => by
    have ih := homeF_pos X d k
    unfold homeF
    split
    · unfold stepH
      split
      · omega
      · split <;> simp <;> omega
    · omega
theorem homeI_bd (X : XInk) (k : Nat) : -1 ≤ homeI X k ∧ homeI X k < X.length := by
  unfold homeI
  split
  · rename_i s hs
    have := homeF_pos X (boxSt s) k
    have := (List.getElem?_eq_some_iff.1 hs).1
    split <;> omega
  · omega
theorem homeI_t {X : XInk} {k : Nat} {s : XStroke} (h : X[k]? = some s) (hd : isDotB s = true) : homeI X k = (homeF X (boxSt s) k).1 := by simp [homeI, h, hd]
theorem homeI_f {X : XInk} {k : Nat} {s : XStroke} (h : X[k]? = some s) (hd : isDotB s = false) : homeI X k = -1 := by simp [homeI, h, hd]

set_option maxHeartbeats 4000000 in
set_option maxRecDepth 100000 in
theorem l14Home_any (p o : Nat) (v : Value) (X : XInk) (k : Nat) (w : World) (hp : w.cell? ⟨p, o, none⟩ = some v) (h : Strokes w v X) (ok : okInk X) (hv : validInk X = true) (hk : k < X.length) :
    Calls Try.prog 41 #[.pointer (some ⟨p, o, none⟩), .int .i64 k] w (Ret (.int .i64 (homeI X k)) w) := by
  obtain ⟨b, off, ao, cap, us, rfl, hnc, hcm, hao, hc, hul, hin⟩ := h.slice
  obtain ⟨hao', hbw⟩ := hao (by omega)
  subst hao'
  unfold maxLen at hcm
  have hX : X.length ≤ 1048576 := by unfold okInk at ok; omega
  obtain ⟨s, hs⟩ : ∃ s, X[k]? = some s := ⟨_, List.getElem?_eq_getElem hk⟩
  obtain ⟨u, hu⟩ : ∃ u, us[k]? = some u := ⟨_, List.getElem?_eq_getElem (by omega)⟩
  have c0 := eS1_cell hc hu
  have hA := hin k u s hu hs
  have oks := okInk_st ok hs
  have hvs := validInk_st hv hs
  have hsl := validSt_len hvs
  have hli : (k : Int) < (X.length : Int) := by omega
  cases hd : isDotB s
  · have HH := hid (homeI_f hs hd)
    clear hao hs h hin
    go_enter Try.func41, Try.ntmps41
    go_wp2_with fail
    refine (l14Dot_any _ _ _ s _ c0 hA oks hvs).mono ?_
    rintro e w2 ⟨rfl, hb⟩
    rw [hd]
    go_wp2
    go_ret
    exact ret_int (by rw [HH.out]) hb
  obtain ⟨D, hD⟩ : ∃ D, D = boxSt s := ⟨_, rfl⟩
  have HH : Hid (homeI X k = (homeF X D k).1) := hid (by rw [hD]; exact homeI_t hs hd)
  have bD := okBox_st hvs
  have HS := hid hs
  have HIN := hid hin
  clear hao hs h hin
  go_enter Try.func41, Try.ntmps41
  go_wp2_with fail
  refine (l14Dot_any _ _ _ s _ c0 hA oks hvs).mono ?_
  rintro e w2 ⟨rfl, hb⟩
  rw [hd]
  replace hp := cell_later hb hp
  replace c0 := cell_later hb c0
  replace hA := hA.below hb
  go_wp2_with fail
  refine (l02BoxOf_any _ _ _ s _ c0 hA oks (by omega)).mono ?_
  rintro e w3 ⟨rfl, hb3⟩
  rw [← hD] at bD ⊢
  replace hp := cell_later hb3 hp
  replace hb := hb.trans (hb3.mono hb.size)
  clear c0 hA oks hd hvs hb3 hD hu
  unfold vBox
  go_wp2
  have e0 : (w3.alloc (.cells #[.int .i64 D.x1, .int .i64 D.y1, .int .i64 D.x2, .int .i64 D.y2] 86)).cell? ⟨w3.heap.size, 0, none⟩ = some (.int .i64 D.x1) := by simp
  have e2 : (w3.alloc (.cells #[.int .i64 D.x1, .int .i64 D.y1, .int .i64 D.x2, .int .i64 D.y2] 86)).cell? ⟨w3.heap.size, 2, none⟩ = some (.int .i64 D.x2) := by simp
  replace hp := cell_alloc hp (.cells #[.int .i64 D.x1, .int .i64 D.y1, .int .i64 D.x2, .int .i64 D.y2] 86)
  replace hb := hb.alloc hb.size (.cells #[.int .i64 D.x1, .int .i64 D.y1, .int .i64 D.x2, .int .i64 D.y2] 86)
  obtain ⟨W0, hW0⟩ : ∃ W0, W0 = w3.alloc (.cells #[.int .i64 D.x1, .int .i64 D.y1, .int .i64 D.x2, .int .i64 D.y2] 86) := ⟨_, rfl⟩
  rw [← hW0] at e0 e2 hp hb ⊢
  clear hW0
  obtain ⟨pd, hpd⟩ : ∃ pd, pd = w3.heap.size := ⟨_, rfl⟩
  rw [← hpd] at e0 e2 ⊢
  clear hpd w3
  go_loopw [6, 7, 8] (fun h m i wr => ∃ (j : Nat) (mm : Int), j ≤ k ∧ i = .int .i64 j ∧ h = .int .i64 (homeF X D j).1 ∧ m = .int .i64 mm ∧ max 1 mm = (homeF X D j).2 ∧ Below W0.heap.size W0 wr) (fun _ _ i _ => k - (intOf i).toNat)
  case atStart => exact ⟨0, 0, Nat.zero_le _, rfl, rfl, rfl, rfl, Below.refl _ _⟩
  case round =>
    obtain ⟨j, mm, hj, rfl, rfl, rfl, hmm, hbr⟩ := hrel
    by_cases hlt : j < k
    · have hji : (j : Int) < (k : Int) := by omega
      have hjx : (j : Int) < (X.length : Int) := by omega
      obtain ⟨t, ht⟩ : ∃ t, X[j]? = some t := ⟨_, List.getElem?_eq_getElem (by omega)⟩
      obtain ⟨ut, hut⟩ : ∃ u, us[j]? = some u := ⟨_, List.getElem?_eq_getElem (by omega)⟩
      have hwr : Below w.heap.size w wr := hb.trans (hbr.mono hb.size)
      have f0 := eS1_cell (hc.below hwr hbw) hut
      have hT := (HIN.out j ut t hut ht).below hwr
      have okt := okInk_st ok ht
      have hvt := validInk_st hv ht
      have htl := validSt_len hvt
      have HF := hid (homeF_succ (d := D) ht)
      have q1 := cell_later hbr hp
      replace e0 := cell_later hbr e0
      replace e2 := cell_later hbr e2
      clear ht hut
      cases hd : isDotB t
      · go_wp2_with fail
        refine (l14Dot_any _ _ _ t _ f0 hT okt hvt).mono ?_
        rintro e wa ⟨rfl, hba⟩
        rw [hd]
        replace f0 := cell_later hba f0
        replace hT := hT.below hba
        replace q1 := cell_later hba q1
        replace e0 := cell_later hba e0
        replace e2 := cell_later hba e2
        replace hbr := hbr.trans (hba.mono hbr.size)
        clear hba hwr
        have bB := okBox_st hvt
        obtain ⟨B, hB⟩ : ∃ B, B = boxSt t := ⟨_, rfl⟩
        go_wp2_with fail
        refine (l02BoxOf_any _ _ _ t _ f0 hT okt (by omega)).mono ?_
        rintro e wb ⟨rfl, hbb⟩
        rw [← hB] at bB ⊢
        replace e0 := cell_later hbb e0
        replace e2 := cell_later hbb e2
        replace hbr := hbr.trans (hbb.mono hbr.size)
        have HFS : Hid (homeF X D (j + 1) = if (homeF X D j).2 ≤ comW D B then ((j : Int), comW D B) else homeF X D j) := by rw [HF.out, stepH, hd, hB]; exact hid rfl
        clear hbb f0 hT okt hvt htl hB HF q1 hd
        unfold vBox
        obtain ⟨g1, g2, _, _, g5, g6, _, _⟩ := bB
        obtain ⟨i1, i2, _, _, i5, i6, _, _⟩ := bD
        obtain ⟨mn, hmn⟩ : ∃ mn, mn = min (D.x2 + 40) B.x2 := ⟨_, rfl⟩
        obtain ⟨mx, hmx⟩ : ∃ mx, mx = max (D.x1 - 40) B.x1 := ⟨_, rfl⟩
        have HMN : ∀ w', Calls Try.prog 52 #[.int .i64 (D.x2 + 40), .int .i64 B.x2] w' fun e w'' => e = .returned (.int .i64 mn) ∧ w' = w'' := fun w' => hmn ▸ l00Min_any _ _ w'
        have HMX : ∀ w', Calls Try.prog 53 #[.int .i64 (D.x1 - 40), .int .i64 B.x1] w' fun e w'' => e = .returned (.int .i64 mx) ∧ w' = w'' := fun w' => hmx ▸ l00Max_any _ _ w'
        have HC : Hid (comW D B = mn - mx + 1) := by show _ = _; rw [hmn, hmx]; rfl
        have k1 : -10000 ≤ mn - mx ∧ mn - mx ≤ 10000 := by omega
        have k2 : 0 ≤ mn := by omega
        have k3 : mx ≤ 5000 := by omega
        have k4 : -50 ≤ mx := by omega
        have k5 : mn ≤ 5000 := by omega
        obtain ⟨k1, k1'⟩ := k1
        clear hmn hmx
        go_wp2
        replace e0 := cell_alloc e0 (.cells #[.int .i64 B.x1, .int .i64 B.y1, .int .i64 B.x2, .int .i64 B.y2] 86)
        replace e2 := cell_alloc e2 (.cells #[.int .i64 B.x1, .int .i64 B.y1, .int .i64 B.x2, .int .i64 B.y2] 86)
        have h0 : (wb.alloc (.cells #[.int .i64 B.x1, .int .i64 B.y1, .int .i64 B.x2, .int .i64 B.y2] 86)).cell? ⟨wb.heap.size, 0, none⟩ = some (.int .i64 B.x1) := by simp
        have h2 : (wb.alloc (.cells #[.int .i64 B.x1, .int .i64 B.y1, .int .i64 B.x2, .int .i64 B.y2] 86)).cell? ⟨wb.heap.size, 2, none⟩ = some (.int .i64 B.x2) := by simp
        replace hbr := hbr.alloc hbr.size (.cells #[.int .i64 B.x1, .int .i64 B.y1, .int .i64 B.x2, .int .i64 B.y2] 86)
        obtain ⟨W1, hW1⟩ : ∃ W1, W1 = wb.alloc (.cells #[.int .i64 B.x1, .int .i64 B.y1, .int .i64 B.x2, .int .i64 B.y2] 86) := ⟨_, rfl⟩
        rw [← hW1] at e0 e2 h0 h2 hbr ⊢
        clear hW1
        have x_e0 := ext_cell e0
        have x_e2 := ext_cell e2
        have x_h0 := ext_cell h0
        have x_h2 := ext_cell h2
        refine wp_region_ext (by kernel_rfl) (by kernel_rfl) ?_
        repeat (go_big_quiet_step ((first | (go_at_call 52; exact same_ext (HMN _)) | (go_at_call 53; exact same_ext (HMX _)))))
        refine wpQuiet_nil ?_
        intro _ hw'
        obtain ⟨nq, hw''⟩ := hw'
        subst hw''
        replace e0 := x_e0 nq
        replace e2 := x_e2 nq
        replace h0 := x_h0 nq
        replace h2 := x_h2 nq
        clear x_e0 x_e2 x_h0 x_h2
        replace hbr := hbr.trans ((ext_below _ nq).mono hbr.size)
        by_cases hn0 : 0 < mn - mx + 1
        · by_cases hn1 : mm ≤ mn - mx + 1
          · go_wp2
            go_roundw
            case rel =>
              refine ⟨j + 1, mn - mx + 1, by omega, by go_num, ?_, rfl, ?_, hbr⟩
              · rw [HFS.out, if_pos (by rw [HC.out]; omega)]
              · rw [HFS.out, if_pos (by rw [HC.out]; omega), HC.out]; show _ = mn - mx + 1; omega
            case measure => simp [intOf]; omega
          · go_wp2
            go_roundw
            case rel => exact ⟨j + 1, mm, by omega, by go_num, by rw [HFS.out, if_neg (by rw [HC.out]; omega)], rfl, by rw [HFS.out, if_neg (by rw [HC.out]; omega)]; exact hmm, hbr⟩
            case measure => simp [intOf]; omega
        · go_wp2
          go_roundw
          case rel => exact ⟨j + 1, mm, by omega, by go_num, by rw [HFS.out, if_neg (by rw [HC.out]; omega)], rfl, by rw [HFS.out, if_neg (by rw [HC.out]; omega)]; exact hmm, hbr⟩
          case measure => simp [intOf]; omega
      · have HFS : Hid (homeF X D (j + 1) = homeF X D j) := by rw [HF.out, stepH, hd]; exact hid rfl
        go_wp2_with fail
        refine (l14Dot_any _ _ _ t _ f0 hT okt hvt).mono ?_
        rintro e wa ⟨rfl, hba⟩
        rw [hd]
        clear f0 hT okt hvt htl hd
        go_wp2
        go_roundw
        case rel => exact ⟨j + 1, mm, by omega, by go_num, by rw [HFS.out], rfl, by rw [HFS.out]; exact hmm, hbr.trans (hba.mono hbr.size)⟩
        case measure => simp [intOf]; omega
    · obtain rfl : j = k := by omega
      go_wp2
      go_ret
      exact ret_int HH.out.symm (hb.trans (hbr.mono hb.size))
set_option maxHeartbeats 4000000 in
set_option maxRecDepth 100000 in
theorem homeOf_any (v : Value) (X : XInk) (k : Nat) (w : World) (h : Strokes w v X) (ok : okInk X) (hv : validInk X = true) (hk : k < X.length) :
    Calls Try.prog 44 #[.agg #[v], .int .i64 k] w (Ret (.int .i64 (homeI X k)) w) := by
  obtain ⟨b, off, ao, cap, us, rfl, hnc, hcm, hao, hc, hul, hin⟩ := h.slice
  obtain ⟨hao', hbw⟩ := hao (by omega)
  subst hao'
  unfold maxLen at hcm
  have hX : X.length ≤ 1048576 := by unfold okInk at ok; omega
  obtain ⟨s, hs⟩ : ∃ s, X[k]? = some s := ⟨_, List.getElem?_eq_getElem hk⟩
  obtain ⟨u, hu⟩ : ∃ u, us[k]? = some u := ⟨_, List.getElem?_eq_getElem (by omega)⟩
  have c0 := cell_alloc (eS1_cell hc hu) (.cells #[.slice (some ⟨b, off, none⟩) X.length cap] 30)
  have hA := (hin k u s hu hs).alloc (.cells #[.slice (some ⟨b, off, none⟩) X.length cap] 30)
  obtain ⟨ua, uc, hsu⟩ := hA.isSlice
  rw [hsu] at c0 hA
  have oks := okInk_st ok hs
  have hvs := validInk_st hv hs
  have hsl := validSt_len hvs
  have hli : (k : Int) < (X.length : Int) := by omega
  have hp : (w.alloc (.cells #[.slice (some ⟨b, off, none⟩) X.length cap] 30)).cell? ⟨w.heap.size, 0, none⟩ = some (.slice (some ⟨b, off, none⟩) X.length cap) := by simp
  have hb0 : Below w.heap.size w (w.alloc (.cells #[.slice (some ⟨b, off, none⟩) X.length cap] 30)) := below_alloc _ _
  cases hd : isDotB s
  · have HH := hid (homeI_f hs hd)
    clear hao hs h hin
    go_enter Try.func44, Try.ntmps44
    go_wp2_with fail
    refine (isDot_any _ s _ hA oks hvs).mono ?_
    rintro e w2 ⟨rfl, hb⟩
    rw [hd]
    go_wp2
    go_ret
    exact ret_int (by rw [HH.out]) (hb0.trans (hb.mono hb0.size))
  obtain ⟨D, hD⟩ : ∃ D, D = boxSt s := ⟨_, rfl⟩
  have HH : Hid (homeI X k = (homeF X D k).1) := hid (by rw [hD]; exact homeI_t hs hd)
  have bD := okBox_st hvs
  have HS := hid hs
  have HIN := hid hin
  clear hao hs h hin
  go_enter Try.func44, Try.ntmps44
  go_wp2_with fail
  refine (isDot_any _ s _ hA oks hvs).mono ?_
  rintro e w2 ⟨rfl, hb2⟩
  rw [hd]
  replace hp := cell_later hb2 hp
  replace c0 := cell_later hb2 c0
  replace hA := hA.below hb2
  have hb := hb0.trans (hb2.mono hb0.size)
  go_wp2_with fail
  refine (boxOfStroke_any _ s _ hA oks (by omega)).mono ?_
  rintro e w3 ⟨rfl, hb3⟩
  rw [← hD] at bD ⊢
  replace hp := cell_later hb3 hp
  replace hb := hb.trans (hb3.mono hb.size)
  clear c0 hA oks hd hvs hb3 hD hu hb2 hb0
  unfold vBox
  have hkc : k ≤ cap := by omega
  replace hp := cell_alloc hp (.cells #[.int .i64 D.x1, .int .i64 D.y1, .int .i64 D.x2, .int .i64 D.y2] 86)
  go_wp2
  have e0 : (w3.alloc (.cells #[.int .i64 D.x1, .int .i64 D.y1, .int .i64 D.x2, .int .i64 D.y2] 86)).cell? ⟨w3.heap.size, 0, none⟩ = some (.int .i64 D.x1) := by simp
  have e2 : (w3.alloc (.cells #[.int .i64 D.x1, .int .i64 D.y1, .int .i64 D.x2, .int .i64 D.y2] 86)).cell? ⟨w3.heap.size, 2, none⟩ = some (.int .i64 D.x2) := by simp
  replace hb := hb.alloc hb.size (.cells #[.int .i64 D.x1, .int .i64 D.y1, .int .i64 D.x2, .int .i64 D.y2] 86)
  obtain ⟨W0, hW0⟩ : ∃ W0, W0 = w3.alloc (.cells #[.int .i64 D.x1, .int .i64 D.y1, .int .i64 D.x2, .int .i64 D.y2] 86) := ⟨_, rfl⟩
  rw [← hW0] at e0 e2 hp hb ⊢
  clear hW0
  obtain ⟨pd, hpd⟩ : ∃ pd, pd = w3.heap.size := ⟨_, rfl⟩
  rw [← hpd] at e0 e2 ⊢
  clear hpd w3
  go_loopw [6, 7, 30] (fun h m i wr => ∃ (j : Nat), j ≤ k ∧ i = .int .i64 j ∧ h = .int .i64 (homeF X D j).1 ∧ m = .int .i64 (homeF X D j).2 ∧ Below W0.heap.size W0 wr) (fun _ _ i _ => k - (intOf i).toNat)
  case atStart => exact ⟨0, Nat.zero_le _, rfl, rfl, rfl, Below.refl _ _⟩
  case round =>
    obtain ⟨j, hj, rfl, rfl, rfl, hbr⟩ := hrel
    by_cases hlt : j < k
    · have hji : (j : Int) < (k : Int) := by omega
      have hjx : (j : Int) < (X.length : Int) := by omega
      obtain ⟨t, ht⟩ : ∃ t, X[j]? = some t := ⟨_, List.getElem?_eq_getElem (by omega)⟩
      obtain ⟨ut, hut⟩ : ∃ u, us[j]? = some u := ⟨_, List.getElem?_eq_getElem (by omega)⟩
      have hwr : Below w.heap.size w wr := hb.trans (hbr.mono hb.size)
      have f0 := eS1_cell (hc.below hwr hbw) hut
      have hT := (HIN.out j ut t hut ht).below hwr
      obtain ⟨ta, tc, htu⟩ := hT.isSlice
      rw [htu] at f0 hT
      have okt := okInk_st ok ht
      have hvt := validInk_st hv ht
      have htl := validSt_len hvt
      have HF := hid (homeF_succ (d := D) ht)
      have bB := okBox_st hvt
      obtain ⟨B, hB⟩ : ∃ B, B = boxSt t := ⟨_, rfl⟩
      have HFS : Hid (homeF X D (j + 1) = if isDotB t then homeF X D j else if (homeF X D j).2 ≤ comW D B then ((j : Int), comW D B) else homeF X D j) := by rw [HF.out, stepH, hB]; exact hid rfl
      have r0 : (wr.alloc (.cells #[.slice ta t.length tc] 57)).cell? ⟨wr.heap.size, 0, none⟩ = some (.slice ta t.length tc) := by simp
      replace e0 := cell_alloc (cell_later hbr e0) (.cells #[.slice ta t.length tc] 57)
      replace e2 := cell_alloc (cell_later hbr e2) (.cells #[.slice ta t.length tc] 57)
      have hT1 := hT.alloc (.cells #[.slice ta t.length tc] 57)
      have hbr1 := hbr.alloc hbr.size (.cells #[.slice ta t.length tc] 57)
      clear ht hut
      go_wp2_with fail
      refine (boxOfStroke_any _ t _ hT1 okt (by omega)).mono ?_
      rintro e wb ⟨rfl, hbb⟩
      rw [← hB] at bB ⊢
      replace e0 := cell_later hbb e0
      replace e2 := cell_later hbb e2
      replace r0 := cell_later hbb r0
      replace hT1 := hT1.below hbb
      replace hbr1 := hbr1.trans (hbb.mono hbr1.size)
      clear hbb f0 hT htl hB HF hbr
      unfold vBox
      obtain ⟨g1, g2, _, _, g5, g6, _, _⟩ := bB
      obtain ⟨i1, i2, _, _, i5, i6, _, _⟩ := bD
      obtain ⟨mn, hmn⟩ : ∃ mn, mn = min B.x2 (D.x2 + 40) := ⟨_, rfl⟩
      obtain ⟨mx, hmx⟩ : ∃ mx, mx = max B.x1 (D.x1 - 40) := ⟨_, rfl⟩
      have HC : Hid (comW D B = mn - mx + 1) := by show _ = _; unfold comW; omega
      have k1 : -10000 ≤ mn - mx ∧ mn - mx ≤ 10000 := by omega
      have k2 : 0 ≤ mn := by omega
      have k3 : mx ≤ 5000 := by omega
      have k4 : -50 ≤ mx := by omega
      have k5 : mn ≤ 5000 := by omega
      obtain ⟨k1, k1'⟩ := k1
      have hmn' := hmn.symm
      have hmx' := hmx.symm
      clear hmn hmx
      replace e0 := cell_alloc e0 (.cells #[.int .i64 B.x1, .int .i64 B.y1, .int .i64 B.x2, .int .i64 B.y2] 86)
      replace e2 := cell_alloc e2 (.cells #[.int .i64 B.x1, .int .i64 B.y1, .int .i64 B.x2, .int .i64 B.y2] 86)
      replace r0 := cell_alloc r0 (.cells #[.int .i64 B.x1, .int .i64 B.y1, .int .i64 B.x2, .int .i64 B.y2] 86)
      have hT2 := hT1.alloc (.cells #[.int .i64 B.x1, .int .i64 B.y1, .int .i64 B.x2, .int .i64 B.y2] 86)
      have hbr2 := hbr1.alloc hbr1.size (.cells #[.int .i64 B.x1, .int .i64 B.y1, .int .i64 B.x2, .int .i64 B.y2] 86)
      have comV : ∀ n : Int, n = min B.x2 (D.x2 + 40) - max B.x1 (D.x1 - 40) + 1 → comW D B = n := fun n hn => by rw [hn, HC.out, hmn', hmx']
      go_wp2_with fail
      all_goals
        refine (isDot_any _ t _ hT2 okt hvt).mono ?_
        rintro e wc ⟨rfl, hbc⟩
        have hbr3 := hbr2.trans (hbc.mono hbr2.size)
        clear hT1 hT2 okt hvt e0 e2 r0 hbr2 hbc
        cases hd : isDotB t
        · go_wp2
          all_goals
            go_roundw
            case rel => first
              | exact ⟨j + 1, by omega, by go_num, by rw [HFS.out, hd, if_neg (by simp), if_pos (by rw [HC.out]; omega)], by rw [HFS.out, hd, if_neg (by simp), if_pos (by rw [HC.out]; omega)]; show _ = Value.int .i64 (comW D B); congr 1; exact (comV _ (by omega)).symm, hbr3⟩
              | exact ⟨j + 1, by omega, by go_num, by rw [HFS.out, hd, if_neg (by simp), if_neg (by rw [HC.out]; omega)], by rw [HFS.out, hd, if_neg (by simp), if_neg (by rw [HC.out]; omega)], hbr3⟩
            case measure => simp [intOf]; omega
        · go_wp2
          go_roundw
          case rel => exact ⟨j + 1, by omega, by go_num, by rw [HFS.out, hd, if_pos rfl], by rw [HFS.out, hd, if_pos rfl], hbr3⟩
          case measure => simp [intOf]; omega
    · obtain rfl : j = k := by omega
      go_wp2
      go_ret
      exact ret_int HH.out.symm (hb.trans (hbr.mono hb.size))
end Go.Proofs.Ytdadmphmpojjhaa
