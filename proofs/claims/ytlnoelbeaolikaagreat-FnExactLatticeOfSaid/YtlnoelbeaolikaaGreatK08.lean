/- The home of a stroke. -/
import Derived.Test.YtlnoelbeaolikaaGreatK07
import Derived.Test.YtlnoelbeaolikaaGreatK03
import Derived.Deep.RegionHeld3
import Derived.Test.YtlnoelbeaolikaaGreatK00
import Derived.Test.YtlnoelbeaolikaaGreatK02
namespace Go.Proofs.YtlnoelbeaolikaaGreat
open Go.RowKit
def comW (d b : DBox) : Int := min (d.x2 + 40) b.x2 - max (d.x1 - 40) b.x1 + 1
def stepH (d : DBox) (s : XStroke) (k : Nat) (acc : Int × Int) : Int × Int := if isDotB s then acc else if acc.2 ≤ comW d (boxSt s) then ((k : Int), comW d (boxSt s)) else acc
def homeF (X : XInk) (d : DBox) : Nat → Int × Int
 | 0 => (-1, 1)
 | k + 1 => match X[k]? with
  | some s => stepH d s k (homeF X d k)
  | none => homeF X d k
def homeI (X : XInk) (k : Nat) : Int := match X[k]? with
 | some s => if isDotB s then (homeF X (boxSt s) k).1 else -1
 | none => -1
theorem homeF_succ {X : XInk} {d : DBox} {k : Nat} {s : XStroke} (h : X[k]? = some s) : homeF X d (k + 1) = stepH d s k (homeF X d k) := by simp [homeF, h]
theorem homeI_t {X : XInk} {k : Nat} {s : XStroke} (h : X[k]? = some s) (hd : isDotB s = true) : homeI X k = (homeF X (boxSt s) k).1 := by simp [homeI, h, hd]
theorem homeI_f {X : XInk} {k : Nat} {s : XStroke} (h : X[k]? = some s) (hd : isDotB s = false) : homeI X k = -1 := by simp [homeI, h, hd]
set_option maxHeartbeats 4000000 in
set_option maxRecDepth 100000 in
theorem l14Home_any (p o : Nat) (v : Value) (X : XInk) (k : Nat) (w : World) (hp : w.cell? ⟨p, o, none⟩ = some v) (h : Strokes w v X) (ok : okInk X) (hv : validInk X = true) (hk : k < X.length) :
  Calls Tryz.prog 162 #[.pointer (some ⟨p, o, none⟩), .int .i64 k] w (Ret (.int .i64 (homeI X k)) w) := by
 obtain ⟨b, off, ao, cap, us, rfl, hnc, hcm, hao, hc, hul, hin⟩ := h.slice
 obtain ⟨hao', hbw⟩ := hao (by omega)
 subst hao'
 unfold maxLen at hcm
 have hX : X.length ≤ 1048576 := by unfold okInk at ok; omega
 obtain ⟨s, hs⟩ : ∃ s, X[k]? = some s := ⟨_, List.getElem?_eq_getElem hk⟩
 obtain ⟨u, hu⟩ : ∃ u, us[k]? = some u := ⟨_, List.getElem?_eq_getElem (by omega)⟩
 have c0 := eS1_cell hc hu
 have hA := hin k u s hu hs
 have oks := okInk_st ok hs
 have hvs := validInk_st hv hs
 have hsl := validSt_len hvs
 have hli : (k : Int) < (X.length : Int) := by omega
 cases hd : isDotB s
 ·have HH := hid (homeI_f hs hd)
  clear hao hs h hin
  go_enter Tryz.func162, Tryz.ntmps162
  go_wp2_with fail
  refine (l14Dot_any _ _ _ s _ c0 hA oks hvs).mono ?_
  rintro e w2 ⟨rfl, hb⟩
  rw [hd]
  go_wp2
  go_ret
  exact ret_int (by rw [HH.out]) hb
 obtain ⟨D, hD⟩ : ∃ D, D = boxSt s := ⟨_, rfl⟩
 have HH : Hid (homeI X k = (homeF X D k).1) := hid (by rw [hD]; exact homeI_t hs hd)
 have bD := okBox_st hvs
 have HS := hid hs
 have HIN := hid hin
 clear hao hs h hin
 go_enter Tryz.func162, Tryz.ntmps162
 go_wp2_with fail
 refine (l14Dot_any _ _ _ s _ c0 hA oks hvs).mono ?_
 rintro e w2 ⟨rfl, hb⟩
 rw [hd]
 replace hp := cell_later hb hp
 replace c0 := cell_later hb c0
 replace hA := hA.below hb
 go_wp2_with fail
 refine (l02BoxOf_any _ _ _ s _ c0 hA oks (by omega)).mono ?_
 rintro e w3 ⟨rfl, hb3⟩
 rw [← hD] at bD ⊢
 replace hp := cell_later hb3 hp
 replace hb := hb.trans (hb3.mono hb.size)
 clear c0 hA oks hd hvs hb3 hD hu
 unfold vBox
 go_wp2
 have e0 : (w3.alloc (.cells #[.int .i64 D.x1, .int .i64 D.y1, .int .i64 D.x2, .int .i64 D.y2] 158)).cell? ⟨w3.heap.size, 0, none⟩ = some (.int .i64 D.x1) := by simp
 have e2 : (w3.alloc (.cells #[.int .i64 D.x1, .int .i64 D.y1, .int .i64 D.x2, .int .i64 D.y2] 158)).cell? ⟨w3.heap.size, 2, none⟩ = some (.int .i64 D.x2) := by simp
 replace hp := cell_alloc hp (.cells #[.int .i64 D.x1, .int .i64 D.y1, .int .i64 D.x2, .int .i64 D.y2] 158)
 replace hb := hb.alloc hb.size (.cells #[.int .i64 D.x1, .int .i64 D.y1, .int .i64 D.x2, .int .i64 D.y2] 158)
 obtain ⟨W0, hW0⟩ : ∃ W0, W0 = w3.alloc (.cells #[.int .i64 D.x1, .int .i64 D.y1, .int .i64 D.x2, .int .i64 D.y2] 158) := ⟨_, rfl⟩
 rw [← hW0] at e0 e2 hp hb ⊢
 clear hW0
 obtain ⟨pd, hpd⟩ : ∃ pd, pd = w3.heap.size := ⟨_, rfl⟩
 rw [← hpd] at e0 e2 ⊢
 clear hpd w3
 go_loopw [6, 7, 8] (fun h m i wr => ∃ (j : Nat) (mm : Int), j ≤ k ∧ i = .int .i64 j ∧ h = .int .i64 (homeF X D j).1 ∧ m = .int .i64 mm ∧ max 1 mm = (homeF X D j).2 ∧ Below W0.heap.size W0 wr) (fun _ _ i _ => k - (intOf i).toNat)
 case atStart => exact ⟨0, 0, Nat.zero_le _, rfl, rfl, rfl, rfl, Below.refl _ _⟩
 case round =>
  obtain ⟨j, mm, hj, rfl, rfl, rfl, hmm, hbr⟩ := hrel
  by_cases hlt : j < k
  ·have hji : (j : Int) < (k : Int) := by omega
   have hjx : (j : Int) < (X.length : Int) := by omega
   obtain ⟨t, ht⟩ : ∃ t, X[j]? = some t := ⟨_, List.getElem?_eq_getElem (by omega)⟩
   obtain ⟨ut, hut⟩ : ∃ u, us[j]? = some u := ⟨_, List.getElem?_eq_getElem (by omega)⟩
   have hwr : Below w.heap.size w wr := hb.trans (hbr.mono hb.size)
   have f0 := eS1_cell (hc.below hwr hbw) hut
   have hT := (HIN.out j ut t hut ht).below hwr
   have okt := okInk_st ok ht
   have hvt := validInk_st hv ht
   have htl := validSt_len hvt
   have HF := hid (homeF_succ (d := D) ht)
   have q1 := cell_later hbr hp
   replace e0 := cell_later hbr e0
   replace e2 := cell_later hbr e2
   clear ht hut
   cases hd : isDotB t
   ·go_wp2_with fail
    refine (l14Dot_any _ _ _ t _ f0 hT okt hvt).mono ?_
    rintro e wa ⟨rfl, hba⟩
    rw [hd]
    replace f0 := cell_later hba f0
    replace hT := hT.below hba
    replace q1 := cell_later hba q1
    replace e0 := cell_later hba e0
    replace e2 := cell_later hba e2
    replace hbr := hbr.trans (hba.mono hbr.size)
    clear hba hwr
    have bB := okBox_st hvt
    obtain ⟨B, hB⟩ : ∃ B, B = boxSt t := ⟨_, rfl⟩
    go_wp2_with fail
    refine (l02BoxOf_any _ _ _ t _ f0 hT okt (by omega)).mono ?_
    rintro e wb ⟨rfl, hbb⟩
    rw [← hB] at bB ⊢
    replace e0 := cell_later hbb e0
    replace e2 := cell_later hbb e2
    replace hbr := hbr.trans (hbb.mono hbr.size)
    have HFS : Hid (homeF X D (j + 1) = if (homeF X D j).2 ≤ comW D B then ((j : Int), comW D B) else homeF X D j) := by rw [HF.out, stepH, hd, hB]; exact hid rfl
    clear hbb f0 hT okt hvt htl hB HF q1 hd
    unfold vBox
    obtain ⟨g1, g2, _, _, g5, g6, _, _⟩ := bB
    obtain ⟨i1, i2, _, _, i5, i6, _, _⟩ := bD
    obtain ⟨mn, hmn⟩ : ∃ mn, mn = min (D.x2 + 40) B.x2 := ⟨_, rfl⟩
    obtain ⟨mx, hmx⟩ : ∃ mx, mx = max (D.x1 - 40) B.x1 := ⟨_, rfl⟩
    have HMN : ∀ w', Calls Tryz.prog 98 #[.int .i64 (D.x2 + 40), .int .i64 B.x2] w' fun e w'' => e = .returned (.int .i64 mn) ∧ w' = w'' := fun w' => hmn ▸ l00Min_any _ _ w'
    have HMX : ∀ w', Calls Tryz.prog 182 #[.int .i64 (D.x1 - 40), .int .i64 B.x1] w' fun e w'' => e = .returned (.int .i64 mx) ∧ w' = w'' := fun w' => hmx ▸ l00Max_any _ _ w'
    have HC : Hid (comW D B = mn - mx + 1) := by show _ = _; rw [hmn, hmx]; rfl
    have k1 : -10000 ≤ mn - mx ∧ mn - mx ≤ 10000 := by omega
    have k2 : 0 ≤ mn := by omega
    have k3 : mx ≤ 5000 := by omega
    have k4 : -50 ≤ mx := by omega
    have k5 : mn ≤ 5000 := by omega
    obtain ⟨k1, k1'⟩ := k1
    clear hmn hmx
    go_wp2
    replace e0 := cell_alloc e0 (.cells #[.int .i64 B.x1, .int .i64 B.y1, .int .i64 B.x2, .int .i64 B.y2] 158)
    replace e2 := cell_alloc e2 (.cells #[.int .i64 B.x1, .int .i64 B.y1, .int .i64 B.x2, .int .i64 B.y2] 158)
    have h0 : (wb.alloc (.cells #[.int .i64 B.x1, .int .i64 B.y1, .int .i64 B.x2, .int .i64 B.y2] 158)).cell? ⟨wb.heap.size, 0, none⟩ = some (.int .i64 B.x1) := by simp
    have h2 : (wb.alloc (.cells #[.int .i64 B.x1, .int .i64 B.y1, .int .i64 B.x2, .int .i64 B.y2] 158)).cell? ⟨wb.heap.size, 2, none⟩ = some (.int .i64 B.x2) := by simp
    replace hbr := hbr.alloc hbr.size (.cells #[.int .i64 B.x1, .int .i64 B.y1, .int .i64 B.x2, .int .i64 B.y2] 158)
    obtain ⟨W1, hW1⟩ : ∃ W1, W1 = wb.alloc (.cells #[.int .i64 B.x1, .int .i64 B.y1, .int .i64 B.x2, .int .i64 B.y2] 158) := ⟨_, rfl⟩
    rw [← hW1] at e0 e2 h0 h2 hbr ⊢
    clear hW1
    have x_e0 := ext_cell e0
    have x_e2 := ext_cell e2
    have x_h0 := ext_cell h0
    have x_h2 := ext_cell h2
    refine wp_region_ext (by kernel_rfl) (by kernel_rfl) ?_
    repeat (go_big_quiet_step ((first | (go_at_call 98; exact same_ext (HMN _)) | (go_at_call 182; exact same_ext (HMX _)))))
    refine wpQuiet_nil ?_
    intro _ hw'
    obtain ⟨nq, hw''⟩ := hw'
    subst hw''
    replace e0 := x_e0 nq
    replace e2 := x_e2 nq
    replace h0 := x_h0 nq
    replace h2 := x_h2 nq
    clear x_e0 x_e2 x_h0 x_h2
    replace hbr := hbr.trans ((ext_below _ nq).mono hbr.size)
    by_cases hn0 : 0 < mn - mx + 1
    ·by_cases hn1 : mm ≤ mn - mx + 1
     ·go_wp2
      go_roundw
      case rel =>
       refine ⟨j + 1, mn - mx + 1, by omega, by go_num, ?_, rfl, ?_, hbr⟩
       ·rw [HFS.out, if_pos (by rw [HC.out]; omega)]
       ·rw [HFS.out, if_pos (by rw [HC.out]; omega), HC.out]; show _ = mn - mx + 1; omega
      case measure => simp [intOf]; omega
     ·go_wp2
      go_roundw
      case rel => exact ⟨j + 1, mm, by omega, by go_num, by rw [HFS.out, if_neg (by rw [HC.out]; omega)], rfl, by rw [HFS.out, if_neg (by rw [HC.out]; omega)]; exact hmm, hbr⟩
      case measure => simp [intOf]; omega
    ·go_wp2
     go_roundw
     case rel => exact ⟨j + 1, mm, by omega, by go_num, by rw [HFS.out, if_neg (by rw [HC.out]; omega)], rfl, by rw [HFS.out, if_neg (by rw [HC.out]; omega)]; exact hmm, hbr⟩
     case measure => simp [intOf]; omega
   ·have HFS : Hid (homeF X D (j + 1) = homeF X D j) := by rw [HF.out, stepH, hd]; exact hid rfl
    go_wp2_with fail
    refine (l14Dot_any _ _ _ t _ f0 hT okt hvt).mono ?_
    rintro e wa ⟨rfl, hba⟩
    rw [hd]
    clear f0 hT okt hvt htl hd
    go_wp2
    go_roundw
    case rel => exact ⟨j + 1, mm, by omega, by go_num, by rw [HFS.out], rfl, by rw [HFS.out]; exact hmm, hbr.trans (hba.mono hbr.size)⟩
    case measure => simp [intOf]; omega
  ·obtain rfl : j = k := by omega
   go_wp2
   go_ret
   exact ret_int HH.out.symm (hb.trans (hbr.mono hb.size))
set_option maxHeartbeats 4000000 in
set_option maxRecDepth 100000 in
theorem homeOf_any (v : Value) (X : XInk) (k : Nat) (w : World) (h : Strokes w v X) (ok : okInk X) (hv : validInk X = true) (hk : k < X.length) :
  Calls Tryz.prog 120 #[.agg #[v], .int .i64 k] w (Ret (.int .i64 (homeI X k)) w) := by
 obtain ⟨b, off, ao, cap, us, rfl, hnc, hcm, hao, hc, hul, hin⟩ := h.slice
 obtain ⟨hao', hbw⟩ := hao (by omega)
 subst hao'
 unfold maxLen at hcm
 have hX : X.length ≤ 1048576 := by unfold okInk at ok; omega
 obtain ⟨s, hs⟩ : ∃ s, X[k]? = some s := ⟨_, List.getElem?_eq_getElem hk⟩
 obtain ⟨u, hu⟩ : ∃ u, us[k]? = some u := ⟨_, List.getElem?_eq_getElem (by omega)⟩
 have c0 := cell_alloc (eS1_cell hc hu) (.cells #[.slice (some ⟨b, off, none⟩) X.length cap] 41)
 have hA := (hin k u s hu hs).alloc (.cells #[.slice (some ⟨b, off, none⟩) X.length cap] 41)
 obtain ⟨ua, uc, hsu⟩ := hA.isSlice
 rw [hsu] at c0 hA
 have oks := okInk_st ok hs
 have hvs := validInk_st hv hs
 have hsl := validSt_len hvs
 have hli : (k : Int) < (X.length : Int) := by omega
 have hp : (w.alloc (.cells #[.slice (some ⟨b, off, none⟩) X.length cap] 41)).cell? ⟨w.heap.size, 0, none⟩ = some (.slice (some ⟨b, off, none⟩) X.length cap) := by simp
 have hb0 : Below w.heap.size w (w.alloc (.cells #[.slice (some ⟨b, off, none⟩) X.length cap] 41)) := below_alloc _ _
 cases hd : isDotB s
 ·have HH := hid (homeI_f hs hd)
  clear hao hs h hin
  go_enter Tryz.func120, Tryz.ntmps120
  go_wp2_with fail
  refine (isDot_any _ s _ hA oks hvs).mono ?_
  rintro e w2 ⟨rfl, hb⟩
  rw [hd]
  go_wp2
  go_ret
  exact ret_int (by rw [HH.out]) (hb0.trans (hb.mono hb0.size))
 obtain ⟨D, hD⟩ : ∃ D, D = boxSt s := ⟨_, rfl⟩
 have HH : Hid (homeI X k = (homeF X D k).1) := hid (by rw [hD]; exact homeI_t hs hd)
 have bD := okBox_st hvs
 have HS := hid hs
 have HIN := hid hin
 clear hao hs h hin
 go_enter Tryz.func120, Tryz.ntmps120
 go_wp2_with fail
 refine (isDot_any _ s _ hA oks hvs).mono ?_
 rintro e w2 ⟨rfl, hb2⟩
 rw [hd]
 replace hp := cell_later hb2 hp
 replace c0 := cell_later hb2 c0
 replace hA := hA.below hb2
 have hb := hb0.trans (hb2.mono hb0.size)
 go_wp2_with fail
 refine (boxOfStroke_any _ s _ hA oks (by omega)).mono ?_
 rintro e w3 ⟨rfl, hb3⟩
 rw [← hD] at bD ⊢
 replace hp := cell_later hb3 hp
 replace hb := hb.trans (hb3.mono hb.size)
 clear c0 hA oks hd hvs hb3 hD hu hb2 hb0
 unfold vBox
 have hkc : k ≤ cap := by omega
 replace hp := cell_alloc hp (.cells #[.int .i64 D.x1, .int .i64 D.y1, .int .i64 D.x2, .int .i64 D.y2] 158)
 go_wp2
 have e0 : (w3.alloc (.cells #[.int .i64 D.x1, .int .i64 D.y1, .int .i64 D.x2, .int .i64 D.y2] 158)).cell? ⟨w3.heap.size, 0, none⟩ = some (.int .i64 D.x1) := by simp
 have e2 : (w3.alloc (.cells #[.int .i64 D.x1, .int .i64 D.y1, .int .i64 D.x2, .int .i64 D.y2] 158)).cell? ⟨w3.heap.size, 2, none⟩ = some (.int .i64 D.x2) := by simp
 replace hb := hb.alloc hb.size (.cells #[.int .i64 D.x1, .int .i64 D.y1, .int .i64 D.x2, .int .i64 D.y2] 158)
 obtain ⟨W0, hW0⟩ : ∃ W0, W0 = w3.alloc (.cells #[.int .i64 D.x1, .int .i64 D.y1, .int .i64 D.x2, .int .i64 D.y2] 158) := ⟨_, rfl⟩
 rw [← hW0] at e0 e2 hp hb ⊢
 clear hW0
 obtain ⟨pd, hpd⟩ : ∃ pd, pd = w3.heap.size := ⟨_, rfl⟩
 rw [← hpd] at e0 e2 ⊢
 clear hpd w3
 go_loopw [6, 7, 30] (fun h m i wr => ∃ (j : Nat), j ≤ k ∧ i = .int .i64 j ∧ h = .int .i64 (homeF X D j).1 ∧ m = .int .i64 (homeF X D j).2 ∧ Below W0.heap.size W0 wr) (fun _ _ i _ => k - (intOf i).toNat)
 case atStart => exact ⟨0, Nat.zero_le _, rfl, rfl, rfl, Below.refl _ _⟩
 case round =>
  obtain ⟨j, hj, rfl, rfl, rfl, hbr⟩ := hrel
  by_cases hlt : j < k
  ·have hji : (j : Int) < (k : Int) := by omega
   have hjx : (j : Int) < (X.length : Int) := by omega
   obtain ⟨t, ht⟩ : ∃ t, X[j]? = some t := ⟨_, List.getElem?_eq_getElem (by omega)⟩
   obtain ⟨ut, hut⟩ : ∃ u, us[j]? = some u := ⟨_, List.getElem?_eq_getElem (by omega)⟩
   have hwr : Below w.heap.size w wr := hb.trans (hbr.mono hb.size)
   have f0 := eS1_cell (hc.below hwr hbw) hut
   have hT := (HIN.out j ut t hut ht).below hwr
   obtain ⟨ta, tc, htu⟩ := hT.isSlice
   rw [htu] at f0 hT
   have okt := okInk_st ok ht
   have hvt := validInk_st hv ht
   have htl := validSt_len hvt
   have HF := hid (homeF_succ (d := D) ht)
   have bB := okBox_st hvt
   obtain ⟨B, hB⟩ : ∃ B, B = boxSt t := ⟨_, rfl⟩
   have HFS : Hid (homeF X D (j + 1) = if isDotB t then homeF X D j else if (homeF X D j).2 ≤ comW D B then ((j : Int), comW D B) else homeF X D j) := by rw [HF.out, stepH, hB]; exact hid rfl
   have r0 : (wr.alloc (.cells #[.slice ta t.length tc] 112)).cell? ⟨wr.heap.size, 0, none⟩ = some (.slice ta t.length tc) := by simp
   replace e0 := cell_alloc (cell_later hbr e0) (.cells #[.slice ta t.length tc] 112)
   replace e2 := cell_alloc (cell_later hbr e2) (.cells #[.slice ta t.length tc] 112)
   have hT1 := hT.alloc (.cells #[.slice ta t.length tc] 112)
   have hbr1 := hbr.alloc hbr.size (.cells #[.slice ta t.length tc] 112)
   clear ht hut
   go_wp2_with fail
   refine (boxOfStroke_any _ t _ hT1 okt (by omega)).mono ?_
   rintro e wb ⟨rfl, hbb⟩
   rw [← hB] at bB ⊢
   replace e0 := cell_later hbb e0
   replace e2 := cell_later hbb e2
   replace r0 := cell_later hbb r0
   replace hT1 := hT1.below hbb
   replace hbr1 := hbr1.trans (hbb.mono hbr1.size)
   clear hbb f0 hT htl hB HF hbr
   unfold vBox
   obtain ⟨g1, g2, _, _, g5, g6, _, _⟩ := bB
   obtain ⟨i1, i2, _, _, i5, i6, _, _⟩ := bD
   obtain ⟨mn, hmn⟩ : ∃ mn, mn = min B.x2 (D.x2 + 40) := ⟨_, rfl⟩
   obtain ⟨mx, hmx⟩ : ∃ mx, mx = max B.x1 (D.x1 - 40) := ⟨_, rfl⟩
   have HC : Hid (comW D B = mn - mx + 1) := by show _ = _; unfold comW; omega
   have k1 : -10000 ≤ mn - mx ∧ mn - mx ≤ 10000 := by omega
   have k2 : 0 ≤ mn := by omega
   have k3 : mx ≤ 5000 := by omega
   have k4 : -50 ≤ mx := by omega
   have k5 : mn ≤ 5000 := by omega
   obtain ⟨k1, k1'⟩ := k1
   have hmn' := hmn.symm
   have hmx' := hmx.symm
   clear hmn hmx
   replace e0 := cell_alloc e0 (.cells #[.int .i64 B.x1, .int .i64 B.y1, .int .i64 B.x2, .int .i64 B.y2] 158)
   replace e2 := cell_alloc e2 (.cells #[.int .i64 B.x1, .int .i64 B.y1, .int .i64 B.x2, .int .i64 B.y2] 158)
   replace r0 := cell_alloc r0 (.cells #[.int .i64 B.x1, .int .i64 B.y1, .int .i64 B.x2, .int .i64 B.y2] 158)
   have hT2 := hT1.alloc (.cells #[.int .i64 B.x1, .int .i64 B.y1, .int .i64 B.x2, .int .i64 B.y2] 158)
   have hbr2 := hbr1.alloc hbr1.size (.cells #[.int .i64 B.x1, .int .i64 B.y1, .int .i64 B.x2, .int .i64 B.y2] 158)
   have comV : ∀ n : Int, n = min B.x2 (D.x2 + 40) - max B.x1 (D.x1 - 40) + 1 → comW D B = n := fun n hn => by rw [hn, HC.out, hmn', hmx']
   go_wp2_with fail
   all_goals
    refine (isDot_any _ t _ hT2 okt hvt).mono ?_
    rintro e wc ⟨rfl, hbc⟩
    have hbr3 := hbr2.trans (hbc.mono hbr2.size)
    clear hT1 hT2 okt hvt e0 e2 r0 hbr2 hbc
    cases hd : isDotB t
    ·go_wp2
     all_goals
      go_roundw
      case rel => first
       | exact ⟨j + 1, by omega, by go_num, by rw [HFS.out, hd, if_neg (by simp), if_pos (by rw [HC.out]; omega)], by rw [HFS.out, hd, if_neg (by simp), if_pos (by rw [HC.out]; omega)]; show _ = Value.int .i64 (comW D B); congr 1; exact (comV _ (by omega)).symm, hbr3⟩
       | exact ⟨j + 1, by omega, by go_num, by rw [HFS.out, hd, if_neg (by simp), if_neg (by rw [HC.out]; omega)], by rw [HFS.out, hd, if_neg (by simp), if_neg (by rw [HC.out]; omega)], hbr3⟩
      case measure => simp [intOf]; omega
    ·go_wp2
     go_roundw
     case rel => exact ⟨j + 1, by omega, by go_num, by rw [HFS.out, hd, if_pos rfl], by rw [HFS.out, hd, if_pos rfl], hbr3⟩
     case measure => simp [intOf]; omega
  ·obtain rfl : j = k := by omega
   go_wp2
   go_ret
   exact ret_int HH.out.symm (hb.trans (hbr.mono hb.size))
end Go.Proofs.YtlnoelbeaolikaaGreat
namespace Go.Proofs.YtlnoelbeaolikaaGreat
open Go.RowKit
theorem strokes_shape {w : World} {u : Value} {x : XInk} (h : Strokes w u x) : ∃ sa sc, u = .slice sa x.length sc := by obtain ⟨_, _, ao, cap, _, rfl, _⟩ := h.slice; exact ⟨_, _, rfl⟩
end Go.Proofs.YtlnoelbeaolikaaGreat
namespace Go.Proofs.YtlnoelbeaolikaaGreat
open Go.ChangeShapes Go.WideShapes Go.ChangeAt Go.RowKit Go.Deep
end Go.Proofs.YtlnoelbeaolikaaGreat
namespace Go.Proofs.YtlnoelbeaolikaaGreat
open Go.RowKit
theorem maxLen_1 : 1 ≤ maxLen := by unfold maxLen; omega
def grpN (n f : Nat) : Nat := min n (f + 3) - f
def grpRow (f m : Nat) : List DGroup := (List.range m).map fun (j : Nat) => ⟨f, f + 1 + j⟩
def grpTo (n f : Nat) : List DGroup := (List.range f).flatMap fun i => grpRow i (grpN n i)
theorem grpRow_succ (f m : Nat) : grpRow f (m + 1) = grpRow f m ++ [⟨f, f + 1 + m⟩] := by simp [grpRow, List.range_succ]
theorem grpTo_succ (n f : Nat) : grpTo n (f + 1) = grpTo n f ++ grpRow f (grpN n f) := by simp [grpTo, List.range_succ]
theorem grpRow_len (f m : Nat) : (grpRow f m).length = m := by simp [grpRow]
theorem grpTo_len (n f : Nat) : (grpTo n f).length ≤ 3 * f := by
 induction f with
 | zero => simp [grpTo]
 | succ f ih => rw [grpTo_succ, List.length_append, grpRow_len]; have : grpN n f ≤ 3 := by unfold grpN; omega
                omega
theorem infGroup : (Tryz.prog.info? 86).map (fun i => (i.zero, i.size, i.bytes)) = some (some (.agg #[.int .i64 0, .int .i64 0]), 2, 16) := by kernel_rfl
set_option maxHeartbeats 4000000 in
set_option maxRecDepth 100000 in
theorem l14Groups_any (n : Nat) (w : World) (hn : n ≤ 1000) : Calls Tryz.prog 76 #[.int .i64 n] w (RetOwn eGroup 86 (grpTo n n) w) := by
 go_enter Tryz.func76, Tryz.ntmps76
 go_wp2
 go_loopw [3, 4] (fun u i wr => ∃ f : Nat, f ≤ n ∧ i = .int .i64 f ∧ Own eGroup 86 w.heap.size wr u (grpTo n f) ∧ Below w.heap.size w wr) (fun _ i _ => n - (intOf i).toNat)
 case atStart => exact ⟨0, Nat.zero_le _, rfl, Own.empty _ _ (Nat.le_refl _), below_alloc _ _⟩
 case round =>
  obtain ⟨f, hf, rfl, ho, hb⟩ := hrel
  by_cases hlt : f < n
  ·have hli : (f : Int) < (n : Int) := by omega
   go_wp2
   go_loopw [3, 5] (fun u i wq => ∃ j : Nat, j ≤ grpN n f ∧ i = .int .i64 (f + 1 + j) ∧ Own eGroup 86 w.heap.size wq u (grpTo n f ++ grpRow f j) ∧ Below w.heap.size w wq) (fun _ i _ => n + 1 - (intOf i).toNat)
   case atStart => exact ⟨0, Nat.zero_le _, by simp, by simpa [grpRow] using ho, hb⟩
   case round =>
    clear ho hb
    obtain ⟨j, hj, rfl, ho, hb⟩ := hrel
    have hbs := hb.size
    have hl1 := grpTo_len n f
    have hl2 := grpRow_len f j
    have hgn : grpN n f = min n (f + 3) - f := rfl
    have hlk : (grpTo n f ++ grpRow f j).length ≤ 1048576 := by rw [List.length_append]; omega
    clear hl1 hl2
    by_cases hjl : j < grpN n f
    ·have h1 : (f : Int) + 1 + j ≤ (n : Int) := by omega
     have h2 : (f : Int) + 1 + j ≤ (f : Int) + 3 := by omega
     have HT := hid (grpRow_succ f j)
     go_wp2_with (at_builtin; (refine wpList_appA rfl _ _ 83 rfl w.heap.size 86 _ 16 infGroup Tryz.underlying83 rfl _ _ rfl (ho.alloc _) _ [⟨(f : Int), (f : Int) + 1 + j⟩] rfl (by exact arr_block1 (E := eGroup) (n := 1) [⟨(f : Int), (f : Int) + 1 + j⟩] #[.int .i64 f, .int .i64 (f + 1 + j)] rfl rfl maxLen_1 (by simp)) (by unfold maxLen; simp at hlk ⊢; omega) (by simp at hlk ⊢; omega) (by simp; omega) ?_; intro v' wA hoA hbA htA))
     have hbA' : Below w.heap.size w wA := (hb.alloc hbs _).trans hbA
     go_roundw
     case rel => exact ⟨j + 1, by omega, by go_num, by rw [HT.out, ← List.append_assoc]; exact hoA, hbA'⟩
     case measure => simp [intOf]; omega
    ·obtain rfl : j = grpN n f := by omega
     have HT := hid (grpTo_succ n f)
     rw [← HT.out] at ho
     by_cases h1 : (f : Int) + 1 + (grpN n f : Nat) ≤ (n : Int)
     ·have h2 : (f : Int) + 3 < (f : Int) + 1 + (grpN n f : Nat) := by omega
      go_wp2
      go_roundw
      case rel => exact ⟨f + 1, by omega, by go_num, ho, hb⟩
      case measure => simp [intOf]; omega
     ·have h2 : (n : Int) < (f : Int) + 1 + (grpN n f : Nat) := by omega
      go_wp2
      go_roundw
      case rel => exact ⟨f + 1, by omega, by go_num, ho, hb⟩
      case measure => simp [intOf]; omega
  ·obtain rfl : f = n := by omega
   go_wp2
   go_ret
   exact ⟨_, rfl, ho, hb⟩
set_option maxHeartbeats 4000000 in
set_option maxRecDepth 100000 in
theorem groupsOf_any (n : Nat) (w : World) (hn : n ≤ 1000) : Calls Tryz.prog 43 #[.int .i64 n] w (RetOwn eGroup 86 (grpTo n n) w) := by
 go_enter Tryz.func43, Tryz.ntmps43
 go_wp2
 go_loopw [3, 4] (fun u i wr => ∃ f : Nat, f ≤ n ∧ i = .int .i64 f ∧ Own eGroup 86 w.heap.size wr u (grpTo n f) ∧ Below w.heap.size w wr) (fun _ i _ => n - (intOf i).toNat)
 case atStart => exact ⟨0, Nat.zero_le _, rfl, Own.nil _ _ _, Below.refl _ _⟩
 case round =>
  obtain ⟨f, hf, rfl, ho, hb⟩ := hrel
  by_cases hlt : f < n
  ·have hli : (f : Int) < (n : Int) := by omega
   go_wp2
   go_loopw [3, 5] (fun u i wq => ∃ j : Nat, j ≤ grpN n f ∧ i = .int .i64 (f + 1 + j) ∧ Own eGroup 86 w.heap.size wq u (grpTo n f ++ grpRow f j) ∧ Below w.heap.size w wq) (fun _ i _ => n + 1 - (intOf i).toNat)
   case atStart => exact ⟨0, Nat.zero_le _, by simp, by simpa [grpRow] using ho, hb⟩
   case round =>
    clear ho hb
    obtain ⟨j, hj, rfl, ho, hb⟩ := hrel
    have hbs := hb.size
    have hl1 := grpTo_len n f
    have hl2 := grpRow_len f j
    have hgn : grpN n f = min n (f + 3) - f := rfl
    have hlk : (grpTo n f ++ grpRow f j).length ≤ 1048576 := by rw [List.length_append]; omega
    clear hl1 hl2
    have hmin : min ((f : Int) + 3) (n : Int) = ((f + grpN n f : Nat) : Int) := by omega
    by_cases hjl : j < grpN n f
    ·have h1 : (f : Int) + 1 + j ≤ ((f + grpN n f : Nat) : Int) := by omega
     have HT := hid (grpRow_succ f j)
     go_wp2_with (at_builtin; (refine wpList_appA rfl _ _ 83 rfl w.heap.size 86 _ 16 infGroup Tryz.underlying83 rfl _ _ rfl (ho.alloc _) _ [⟨(f : Int), (f : Int) + 1 + j⟩] rfl (by exact arr_block1 (E := eGroup) (n := 1) [⟨(f : Int), (f : Int) + 1 + j⟩] #[.int .i64 f, .int .i64 (f + 1 + j)] rfl rfl maxLen_1 (by simp)) (by unfold maxLen; simp at hlk ⊢; omega) (by simp at hlk ⊢; omega) (by simp; omega) ?_; intro v' wA hoA hbA htA))
     have hbA' : Below w.heap.size w wA := (hb.alloc hbs _).trans hbA
     go_roundw
     case rel => exact ⟨j + 1, by omega, by go_num, by rw [HT.out, ← List.append_assoc]; exact hoA, hbA'⟩
     case measure => simp [intOf]; omega
    ·obtain rfl : j = grpN n f := by omega
     have HT := hid (grpTo_succ n f)
     rw [← HT.out] at ho
     have h2 : ((f + grpN n f : Nat) : Int) < (f : Int) + 1 + (grpN n f : Nat) := by omega
     go_wp2
     go_roundw
     case rel => exact ⟨f + 1, by omega, by go_num, ho, hb⟩
     case measure => simp [intOf]; omega
  ·obtain rfl : f = n := by omega
   go_wp2
   go_ret
   exact ⟨_, rfl, ho, hb⟩
end Go.Proofs.YtlnoelbeaolikaaGreat
namespace Go.Proofs.YtlnoelbeaolikaaGreat
open Go.RowKit
def homesTo (X : XInk) (k : Nat) : List Int := (List.range k).map fun i => homeI X i
def ordRow (H : List Int) (k m : Nat) : List Int := ((List.range m).filter fun d => H[d]? == some (k : Int)).map fun (d : Nat) => (d : Int)
def ordAt (H : List Int) (k : Nat) : List Int := match H[k]? with
 | some h => if 0 ≤ h then [] else (k : Int) :: ordRow H k H.length
 | none => []
def ordTo (H : List Int) (k : Nat) : List Int := (List.range k).flatMap fun i => ordAt H i
def orderI (X : XInk) : List Int := ordTo (homesTo X X.length) X.length
theorem homesTo_succ (X : XInk) (k : Nat) : homesTo X (k + 1) = homesTo X k ++ [homeI X k] := by simp [homesTo, List.range_succ]
theorem homesTo_len (X : XInk) (k : Nat) : (homesTo X k).length = k := by simp [homesTo]
theorem homesTo_get {X : XInk} {n k : Nat} (h : k < n) : (homesTo X n)[k]? = some (homeI X k) := by simp [homesTo, h]
theorem ordRow_zero (H : List Int) (k : Nat) : ordRow H k 0 = [] := rfl
theorem ordRow_t {H : List Int} {k m : Nat} (h : H[m]? = some (k : Int)) : ordRow H k (m + 1) = ordRow H k m ++ [(m : Int)] := by simp [ordRow, List.range_succ, h]
theorem ordRow_f {H : List Int} {k m : Nat} {x : Int} (h : H[m]? = some x) (hne : x ≠ k) : ordRow H k (m + 1) = ordRow H k m := by simp [ordRow, List.range_succ, h, hne]
theorem ordRow_len (H : List Int) (k m : Nat) : (ordRow H k m).length ≤ m := by
 unfold ordRow
 rw [List.length_map]
 exact Nat.le_trans (List.length_filter_le _ _) (by simp)
theorem ordTo_succ (H : List Int) (k : Nat) : ordTo H (k + 1) = ordTo H k ++ ordAt H k := by simp [ordTo, List.range_succ]
theorem ordAt_len (H : List Int) (k : Nat) : (ordAt H k).length ≤ H.length + 1 := by
 unfold ordAt
 split
 ·split
  ·simp
  ·simp only [List.length_cons]; have := ordRow_len H k H.length; omega
 ·simp
theorem ordTo_len (H : List Int) (k : Nat) : (ordTo H k).length ≤ k * (H.length + 1) := by
 induction k with
 | zero => simp [ordTo]
 | succ k ih => rw [ordTo_succ, List.length_append, Nat.add_mul, Nat.one_mul]; exact Nat.add_le_add ih (ordAt_len H k)
theorem ordTo_bd {H : List Int} {k : Nat} (hk : k ≤ 16) (hH : H.length ≤ 16) : (ordTo H k).length ≤ 272 := Nat.le_trans (ordTo_len H k) (Nat.mul_le_mul hk (by omega : H.length + 1 ≤ 17))
theorem ordAt_t {H : List Int} {k : Nat} {x : Int} (h : H[k]? = some x) (hx : 0 ≤ x) : ordAt H k = [] := by simp [ordAt, h, hx]
theorem ordAt_f {H : List Int} {k : Nat} {x : Int} (h : H[k]? = some x) (hx : x < 0) : ordAt H k = (k : Int) :: ordRow H k H.length := by simp [ordAt, h]; omega
set_option maxHeartbeats 4000000 in
set_option maxRecDepth 100000 in
theorem l14Order_any (p o : Nat) (v : Value) (X : XInk) (w : World) (hp : w.cell? ⟨p, o, none⟩ = some v) (h : Strokes w v X) (ok : okInk X) (hv : validInk X = true) :
  Calls Tryz.prog 116 #[.pointer (some ⟨p, o, none⟩)] w (RetOwn eI 2 (orderI X) w) := by
 obtain ⟨sa, sc, rfl⟩ := strokes_shape h
 have hn := validInk_len hv
 go_enter Tryz.func116, Tryz.ntmps116
 go_wp2
 go_loopw [3, 4] (fun u i wr => ∃ k : Nat, k ≤ X.length ∧ i = .int .i64 k ∧ Own eI 2 w.heap.size wr u (homesTo X k) ∧ Below w.heap.size w wr) (fun _ i _ => X.length - (intOf i).toNat)
 case atStart => exact ⟨0, Nat.zero_le _, rfl, Own.empty _ _ (Nat.le_refl _), below_alloc _ _⟩
 case round =>
  obtain ⟨k, hk, rfl, ho, hb⟩ := hrel
  have q1 := cell_later hb hp
  by_cases hlt : k < X.length
  ·have hli : (k : Int) < (X.length : Int) := by omega
   have HT := hid (homesTo_succ X k)
   have hlk := homesTo_len X k
   go_wp2_with fail
   refine (l14Home_any _ _ _ X k _ q1 (h.below hb) ok hv hlt).mono ?_
   rintro e w2 ⟨rfl, hb2⟩
   replace ho := ho.below hb2
   have hb' := hb.trans (hb2.mono hb.size)
   have hbs := hb'.size
   clear hb hb2 q1
   go_wp2_with (at_builtin; (refine wpList_appA rfl _ _ 139 rfl w.heap.size 2 _ 8 infoI Tryz.underlying139 rfl _ _ rfl (ho.alloc _) _ [homeI X k] rfl (by exact arr_block1 (E := eI) (n := 1) [homeI X k] #[.int .i64 (homeI X k)] rfl rfl maxLen_1 (by simp)) (by unfold maxLen; simp <;> omega) (by simp <;> omega) (by simp <;> omega) ?_; intro v' wA hoA hbA htA))
   have hbA' : Below w.heap.size w wA := (hb'.alloc hbs _).trans hbA
   go_roundw
   case rel => exact ⟨k + 1, by omega, by go_num, by rw [HT.out]; exact hoA, hbA'⟩
   case measure => simp [intOf]; omega
  ·obtain rfl : k = X.length := by omega
   obtain ⟨w1, rfl⟩ : ∃ w1, w1 = wr := ⟨wr, rfl⟩
   have HO : Hid (orderI X = ordTo (homesTo X X.length) X.length) := hid rfl
   have hlen := homesTo_len X X.length
   obtain ⟨H, hH⟩ : ∃ H, H = homesTo X X.length := ⟨_, rfl⟩
   rw [← hH] at HO ho hlen
   clear hH
   obtain ⟨hb0, hoff, hao, hcap, rfl, hnc, hcm, hao', hc⟩ := ho.arr
   clear ho
   unfold maxLen at hcm
   have hbs := hb.size
   have HN : Hid (H.length = X.length) := hlen
   have hH16 : H.length ≤ 16 := by omega
   clear hlen
   go_wp2
   go_loopw [5, 6] (fun u i wq => ∃ k : Nat, k ≤ H.length ∧ i = .int .i64 k ∧ Own eI 2 w1.heap.size wq u (ordTo H k) ∧ Below w1.heap.size w1 wq) (fun _ i _ => H.length - (intOf i).toNat)
   case atStart => exact ⟨0, Nat.zero_le _, rfl, Own.empty _ _ (Nat.le_refl _), below_alloc _ _⟩
   case round =>
    clear q1
    obtain ⟨k, hk, rfl, ho, hbq⟩ := hrel
    have hqs := hbq.size
    have hlk := ordTo_bd (H := H) (k := k) (by omega) (by omega)
    by_cases hlt : k < H.length
    ·obtain ⟨hao0, hbw⟩ := hao' (by omega)
     subst hao0
     obtain ⟨x, hx⟩ : ∃ x, H[k]? = some x := ⟨_, List.getElem?_eq_getElem hlt⟩
     have c0 := eI_cell (hc.below hbq hbw) hx
     have hli : (k : Int) < (H.length : Int) := by omega
     have HS := hid (ordTo_succ H k)
     by_cases hx0 : 0 ≤ x
     ·have HA := hid (ordAt_t hx hx0)
      clear hx
      go_wp2
      go_roundw
      case rel => exact ⟨k + 1, by omega, by go_num, by rw [HS.out, HA.out, List.append_nil]; exact ho, hbq⟩
      case measure => simp [intOf]; omega
     ·have HA := hid (ordAt_f hx (by omega))
      clear hx
      go_wp2_with (at_builtin; (refine wpList_appA rfl _ _ 139 rfl w1.heap.size 2 _ 8 infoI Tryz.underlying139 rfl _ (ordTo H k) rfl (ho.alloc _) _ [(k : Int)] rfl (by exact arr_block1 (E := eI) (n := 1) [(k : Int)] #[.int .i64 k] rfl rfl maxLen_1 (by simp)) (by unfold maxLen; simp <;> omega) (by simp <;> omega) (by simp <;> omega) ?_; intro v' wA hoA hbA htA))
      have hbA' : Below w1.heap.size w1 wA := (hbq.alloc hqs _).trans hbA
      clear c0 ho hbq hqs htA hbA
      go_loopw [5, 7] (fun u i wz => ∃ d : Nat, d ≤ H.length ∧ i = .int .i64 d ∧ Own eI 2 w1.heap.size wz u (ordTo H k ++ ((k : Int) :: ordRow H k d)) ∧ Below w1.heap.size w1 wz) (fun _ i _ => H.length - (intOf i).toNat)
      case atStart => exact ⟨0, Nat.zero_le _, rfl, by rw [ordRow_zero]; exact hoA, hbA'⟩
      case round =>
       clear hoA hbA'
       obtain ⟨d, hd, rfl, ho, hbq⟩ := hrel
       have hqs := hbq.size
       have hlr := ordRow_len H k d
       by_cases hdl : d < H.length
       ·obtain ⟨y, hy⟩ : ∃ y, H[d]? = some y := ⟨_, List.getElem?_eq_getElem hdl⟩
        have d0 := eI_cell (hc.below hbq hbw) hy
        have hdi : (d : Int) < (H.length : Int) := by omega
        by_cases hyk : y = (k : Int)
        ·subst hyk
         have HR := hid (ordRow_t hy)
         clear hy
         go_wp2_with (at_builtin; (refine wpList_appA rfl _ _ 139 rfl w1.heap.size 2 _ 8 infoI Tryz.underlying139 rfl _ (ordTo H k ++ ((k : Int) :: ordRow H k d)) rfl (ho.alloc _) _ [(d : Int)] rfl (by exact arr_block1 (E := eI) (n := 1) [(d : Int)] #[.int .i64 d] rfl rfl maxLen_1 (by simp)) (by unfold maxLen; simp <;> omega) (by simp <;> omega) (by simp <;> omega) ?_; intro v2 wB hoB hbB htB))
         have hbB' : Below w1.heap.size w1 wB := (hbq.alloc hqs _).trans hbB
         go_roundw
         case rel => exact ⟨d + 1, by omega, by go_num, by rw [HR.out, ← List.cons_append, ← List.append_assoc]; exact hoB, hbB'⟩
         case measure => simp [intOf]; omega
        ·have HR := hid (ordRow_f hy hyk)
         have hq : (y == (k : Int)) = false := by rw [beq_eq_false_iff_ne]; exact hyk
         clear hy
         go_wp2
         go_roundw
         case rel => exact ⟨d + 1, by omega, by go_num, by rw [HR.out]; exact ho, hbq⟩
         case measure => simp [intOf]; omega
       ·obtain rfl : d = H.length := by omega
        rw [← HA.out, ← HS.out] at ho
        go_wp2
        go_roundw
        case rel => exact ⟨k + 1, by omega, by go_num, ho, hbq⟩
        case measure => simp [intOf]; omega
    ·obtain rfl : k = H.length := by omega
     go_wp2
     go_ret
     refine ⟨_, rfl, ?_, hb.trans (hbq.mono hbs)⟩
     rw [HO.out, ← HN.out]
     exact ho.mono hbs
theorem infoI2 : (Tryz.prog.info? 3).map (fun i => (i.zero, i.size, i.bytes)) = some (some (.int .i64 0), 1, 8) := by kernel_rfl
set_option maxHeartbeats 4000000 in
set_option maxRecDepth 100000 in
theorem orderOf_any (v : Value) (X : XInk) (w : World) (h : Strokes w v X) (ok : okInk X) (hv : validInk X = true) :
  Calls Tryz.prog 79 #[.agg #[v]] w (RetOwn eI 2 (orderI X) w) := by
 obtain ⟨sa, sc, rfl⟩ := strokes_shape h
 have hn := validInk_len hv
 obtain ⟨i0, hi, hz0, hz1, hz2⟩ := info_parts infoI2
 have q0 : (w.alloc (.cells #[.slice sa X.length sc] 41)).cell? ⟨w.heap.size, 0, none⟩ = some (.slice sa X.length sc) := by simp
 have hA := h.alloc (.cells #[.slice sa X.length sc] 41)
 have hbA : Below w.heap.size w (w.alloc (.cells #[.slice sa X.length sc] 41)) := below_alloc _ _
 obtain ⟨Wb, hWb⟩ : ∃ Wb, Wb = w.alloc (.cells #[.slice sa X.length sc] 41) := ⟨_, rfl⟩
 rw [← hWb] at q0 hA hbA
 have HWB := hid hWb
 clear hWb
 go_enter Tryz.func79, Tryz.ntmps79
 go_wp2_with (at_make; rw [← HWB.out]; refine wpList_make_full _ rfl _ _ 182 rfl Wb.heap.size 3 i0 _ 1 Tryz.underlying182 hi hz0 hz1 _ _ _ _ X.length rfl rfl rfl rfl (by rw [hz2]; omega) (by unfold maxLen; omega) (Nat.le_refl _) ?_; intro w1 hown hgr; have q1 := cell_later ((Below.refl _ _).grown hgr (Nat.le_refl _) (by simp) : Below Wb.heap.size Wb w1) q0)
 have hown := Own.made (E := eI) (z := (0 : Int)) hown rfl
 obtain ⟨g, hg⟩ : ∃ g, g = Wb.heap.size := ⟨_, rfl⟩
 rw [← hg] at hown ⊢
 have hw1 : Below Wb.heap.size Wb w1 := (Below.refl _ _).grown hgr (Nat.le_refl _) (by simp)
 have hg1 : g < w1.heap.size := hown.lt.2
 have Hg := hid hg
 clear hg hi hz0 hz1 hz2 hgr
 clear q1
 go_loopw [16] (fun i wr => ∃ (k : Nat) (ys : List Int), k ≤ X.length ∧ i = .int .i64 k ∧ ys.length = X.length ∧ (∀ j, j < k → ys[j]? = (homesTo X X.length)[j]?) ∧ Own eI 3 g wr (.slice (some ⟨g, 0, none⟩) X.length X.length) ys ∧ Below Wb.heap.size Wb wr ∧ g < wr.heap.size) (fun i _ => X.length - (intOf i).toNat)
 case atStart => exact ⟨0, _, Nat.zero_le _, rfl, by simp, by simp, hown, hw1, hg1⟩
 case round =>
  clear hown hw1 hg1
  obtain ⟨k, ys, hk, rfl, hyl, hys, ho, hb, hgw⟩ := hrel
  have HY := hid hyl
  have HYS := hid hys
  clear hyl hys
  have q1 := cell_later hb q0
  by_cases hlt : k < X.length
  ·have hli : (k : Int) < (X.length : Int) := by omega
   go_wp2_with fail
   refine (homeOf_any _ X k _ (hA.below hb) ok hv hlt).mono ?_
   rintro e w2 ⟨rfl, hb2⟩
   replace ho := ho.below hb2
   have hb' := hb.trans (hb2.mono hb.size)
   have hbs := hb2.size
   clear hb hb2 q1
   obtain ⟨y, hy⟩ : ∃ y, ys[k]? = some y := ⟨_, List.getElem?_eq_getElem (by rw [HY.out]; exact hlt)⟩
   have Y0 := hid hy
   clear hy
   obtain ⟨u0, hv0⟩ := ownN_slot ho (by simp [HY.out]) rfl hlt
   have hf := ho.free (by simp [HY.out])
   go_wp2
   have S0 := ho.set1 (by simp [HY.out]) Y0.out (j := 0) (x' := homeI X k) (u := .int .i64 (homeI X k)) (by decide) rfl
   rw [show k * eI.sz + 0 = k by show k * 1 + 0 = k; omega] at S0
   go_roundw
   case rel =>
    have h1 := fill_step (xs := homesTo X X.length) (by rw [homesTo_len]; exact HY.out) HYS.out (homesTo_get hlt)
    exact ⟨k + 1, ys.set k (homeI X k), by omega, by go_num, by rw [h1.1, homesTo_len], h1.2, S0.1, hb'.grown S0.2 hb'.size (by have := Hg.out; simp; omega), Nat.lt_of_lt_of_le (Nat.lt_of_lt_of_le hgw hbs) S0.2.size⟩
   case measure => simp [intOf]; omega
  ·obtain rfl : k = X.length := by omega
   obtain ⟨w1, rfl⟩ : ∃ w1, w1 = wr := ⟨wr, rfl⟩
   have hdone := fill_done (xs := homesTo X X.length) (by rw [homesTo_len]; exact HY.out) HYS.out (by rw [homesTo_len]; exact Nat.le_refl _)
   have HO : Hid (orderI X = ordTo (homesTo X X.length) X.length) := hid rfl
   have hlen := homesTo_len X X.length
   rw [← hdone] at HO hlen
   obtain ⟨H, hH⟩ : ∃ H, H = ys := ⟨_, rfl⟩
   rw [← hH] at HO ho hlen
   clear hH hdone HY HYS ys
   have HN : Hid (H.length = X.length) := hlen
   have ho2 : Own eI 3 g w1 (.slice (some ⟨g, 0, none⟩) X.length X.length) H := ho
   obtain ⟨hb0, hoff, hao, hcap, hsl, hnc, hcm, hao', hc⟩ := ho.arr
   simp only [Value.slice.injEq] at hsl
   obtain ⟨rfl, -, rfl⟩ := hsl
   clear ho ho2
   unfold maxLen at hcm
   have hbs : w.heap.size ≤ w1.heap.size := Nat.le_trans hbA.size hb.size
   have hbw1 := hbA.trans (hb.mono hbA.size)
   have hH16 : H.length ≤ 16 := by omega
   have hgX : 0 < X.length → hb0 = g ∧ hoff = 0 := by
    intro h0
    have := (hao' (by omega)).1
    simp at this
    exact ⟨this.1.symm, this.2.symm⟩
   clear hlen
   go_wp2
   go_loopw [5, 29] (fun u i wq => ∃ k : Nat, k ≤ X.length ∧ i = .int .i64 k ∧ Own eI 2 w1.heap.size wq u (ordTo H k) ∧ Below w1.heap.size w1 wq) (fun _ i _ => X.length - (intOf i).toNat)
   case atStart => exact ⟨0, Nat.zero_le _, rfl, Own.nil _ _ _, Below.refl _ _⟩
   case round =>
    clear q1
    obtain ⟨k, hk, rfl, ho, hbq⟩ := hrel
    have hqs := hbq.size
    have hlk := ordTo_bd (H := H) (k := k) (by omega) hH16
    by_cases hlt : k < X.length
    ·obtain ⟨hao0, hbw⟩ := hao' (by rw [HN.out]; omega)
     clear hao0
     obtain ⟨rfl, rfl⟩ := hgX (by omega)
     obtain ⟨x, hx⟩ : ∃ x, H[k]? = some x := ⟨_, List.getElem?_eq_getElem (by rw [HN.out]; exact hlt)⟩
     have c0 := eI_cell (hc.below hbq hbw) hx
     rw [Nat.zero_add] at c0
     have hli : (k : Int) < (X.length : Int) := by omega
     have HS := hid (ordTo_succ H k)
     by_cases hx0 : 0 ≤ x
     ·have HA := hid (ordAt_t hx hx0)
      clear hx
      go_wp2
      go_roundw
      case rel => exact ⟨k + 1, by omega, by go_num, by rw [HS.out, HA.out, List.append_nil]; exact ho, hbq⟩
      case measure => simp [intOf]; omega
     ·have HA := hid (ordAt_f hx (by omega))
      rw [HN.out] at HA
      clear hx
      go_wp2_with (at_builtin; (refine wpList_appA rfl _ _ 139 rfl w1.heap.size 2 _ 8 infoI Tryz.underlying139 rfl _ (ordTo H k) rfl (ho.alloc _) _ [(k : Int)] rfl (by exact arr_block1 (E := eI) (n := 1) [(k : Int)] #[.int .i64 k] rfl rfl maxLen_1 (by simp)) (by unfold maxLen; simp <;> omega) (by simp <;> omega) (by simp <;> omega) ?_; intro v' wA hoA hbA htA))
      have hbA' : Below w1.heap.size w1 wA := (hbq.alloc hqs _).trans hbA
      clear c0 ho hbq hqs htA hbA
      go_loopw [5, 43] (fun u i wz => ∃ d : Nat, d ≤ X.length ∧ i = .int .i64 d ∧ Own eI 2 w1.heap.size wz u (ordTo H k ++ ((k : Int) :: ordRow H k d)) ∧ Below w1.heap.size w1 wz) (fun _ i _ => X.length - (intOf i).toNat)
      case atStart => exact ⟨0, Nat.zero_le _, rfl, by rw [ordRow_zero]; exact hoA, hbA'⟩
      case round =>
       clear hoA hbA'
       obtain ⟨d, hd, rfl, ho, hbq⟩ := hrel
       have hqs := hbq.size
       have hlr := ordRow_len H k d
       by_cases hdl : d < X.length
       ·obtain ⟨y, hy⟩ : ∃ y, H[d]? = some y := ⟨_, List.getElem?_eq_getElem (by rw [HN.out]; exact hdl)⟩
        have d0 := eI_cell (hc.below hbq hbw) hy
        rw [Nat.zero_add] at d0
        have hdi : (d : Int) < (X.length : Int) := by omega
        by_cases hyk : y = (k : Int)
        ·subst hyk
         have HR := hid (ordRow_t hy)
         clear hy
         go_wp2_with (at_builtin; (refine wpList_appA rfl _ _ 139 rfl w1.heap.size 2 _ 8 infoI Tryz.underlying139 rfl _ (ordTo H k ++ ((k : Int) :: ordRow H k d)) rfl (ho.alloc _) _ [(d : Int)] rfl (by exact arr_block1 (E := eI) (n := 1) [(d : Int)] #[.int .i64 d] rfl rfl maxLen_1 (by simp)) (by unfold maxLen; simp <;> omega) (by simp <;> omega) (by simp <;> omega) ?_; intro v2 wB hoB hbB htB))
         have hbB' : Below w1.heap.size w1 wB := (hbq.alloc hqs _).trans hbB
         go_roundw
         case rel => exact ⟨d + 1, by omega, by go_num, by rw [HR.out, ← List.cons_append, ← List.append_assoc]; exact hoB, hbB'⟩
         case measure => simp [intOf]; omega
        ·have HR := hid (ordRow_f hy hyk)
         have hq : (y == (k : Int)) = false := by rw [beq_eq_false_iff_ne]; exact hyk
         clear hy
         go_wp2
         go_roundw
         case rel => exact ⟨d + 1, by omega, by go_num, by rw [HR.out]; exact ho, hbq⟩
         case measure => simp [intOf]; omega
       ·obtain rfl : d = X.length := by omega
        rw [← HA.out, ← HS.out] at ho
        go_wp2
        go_roundw
        case rel => exact ⟨k + 1, by omega, by go_num, ho, hbq⟩
        case measure => simp [intOf]; omega
    ·obtain rfl : k = X.length := by omega
     go_wp2
     go_ret
     refine ⟨_, rfl, ?_, hbw1.trans (hbq.mono hbs)⟩
     rw [HO.out]
     exact ho.mono hbs
end Go.Proofs.YtlnoelbeaolikaaGreat
namespace Go.Proofs.YtlnoelbeaolikaaGreat
open Go.RowKit
end Go.Proofs.YtlnoelbeaolikaaGreat
namespace Go.Proofs.YtlnoelbeaolikaaGreat
open Go.RowKit
-- the order holds each stroke once
def sumR : Nat → (Nat → Nat) → Nat
 | 0, _ => 0
 | n + 1, f => sumR n f + f n
theorem sumR_add (n : Nat) (f g : Nat → Nat) : sumR n (fun k => f k + g k) = sumR n f + sumR n g := by
 induction n with
 | zero => rfl
 | succ n ih => simp only [sumR, ih]; omega
theorem sumR_congr {n : Nat} {f g : Nat → Nat} (h : ∀ k, k < n → f k = g k) : sumR n f = sumR n g := by
 induction n with
 | zero => rfl
 | succ n ih => simp only [sumR]; rw [ih fun k hk => h k (by omega), h n (by omega)]
theorem sumR_delta (n j : Nat) : sumR n (fun k => if j = k then 1 else 0) = if j < n then 1 else 0 := by
 induction n with
 | zero => simp [sumR]
 | succ n ih =>
  simp only [sumR, ih]
  by_cases h1 : j < n
  ·rw [if_pos h1, if_neg (by omega), if_pos (by omega)]
  ·rw [if_neg h1]
   by_cases h2 : j = n
   ·rw [if_pos h2, if_pos (by omega)]
   ·rw [if_neg h2, if_neg (by omega)]
theorem sumR_zero (n : Nat) : sumR n (fun _ => 0) = 0 := by
 induction n with
 | zero => rfl
 | succ n ih => simp only [sumR, ih]
theorem sumR_one (n : Nat) : sumR n (fun _ => 1) = n := by
 induction n with
 | zero => rfl
 | succ n ih => simp only [sumR, ih]
theorem flat_len_sum (n : Nat) (F : Nat → List Int) : ((List.range n).flatMap F).length = sumR n fun k => (F k).length := by
 induction n with
 | zero => rfl
 | succ n ih => rw [List.range_succ, List.flatMap_append, List.length_append, ih]; simp [sumR]
def hAt (H : List Int) (k : Nat) : Int := (H[k]?).getD 0
theorem ordRow_one (H : List Int) (k m : Nat) (hm : m < H.length) : (ordRow H k (m + 1)).length = (ordRow H k m).length + if hAt H m = (k : Int) then 1 else 0 := by
 have hx : H[m]? = some (hAt H m) := by simp [hAt, hm]
 by_cases h : hAt H m = (k : Int)
 ·rw [ordRow_t (by rw [hx, h]), if_pos h]; simp
 ·rw [ordRow_f hx h, if_neg h]; rfl
theorem ord_count {H : List Int} (hP : ∀ d, d < H.length → hAt H d < 0 ∨ ∃ j, j < H.length ∧ hAt H d = (j : Int) ∧ hAt H j < 0) : ∀ m, m ≤ H.length →
  sumR H.length (fun k => if hAt H k < 0 then 1 + (ordRow H k m).length else 0) = sumR H.length (fun k => if hAt H k < 0 then 1 else 0) + sumR m (fun d => if hAt H d < 0 then 0 else 1)
 | 0, _ => by simp [ordRow_zero, sumR]
 | m + 1, hm => by
  have ih := ord_count hP m (by omega)
  have e : sumR H.length (fun k => if hAt H k < 0 then 1 + (ordRow H k (m + 1)).length else 0) = sumR H.length (fun k => if hAt H k < 0 then 1 + (ordRow H k m).length else 0) + sumR H.length (fun k => if hAt H k < 0 then (if hAt H m = (k : Int) then 1 else 0) else 0) := by
   rw [← sumR_add]
   refine sumR_congr fun k _ => ?_
   by_cases hk : hAt H k < 0
   ·rw [if_pos hk, if_pos hk, if_pos hk, ordRow_one H k m (by omega)]; omega
   ·rw [if_neg hk, if_neg hk, if_neg hk]
  rw [e, ih]
  simp only [sumR]
  have e2 : sumR H.length (fun k => if hAt H k < 0 then (if hAt H m = (k : Int) then 1 else 0) else 0) = if hAt H m < 0 then 0 else 1 := by
   rcases hP m (by omega) with h | ⟨j, hj, h1, h2⟩
   ·rw [if_pos h]
    refine Eq.trans (sumR_congr (g := fun _ => 0) fun k _ => ?_) (sumR_zero H.length)
    split
    ·rw [if_neg (by omega)]
    ·rfl
   ·rw [if_neg (by omega)]
    have := sumR_delta H.length j
    rw [if_pos hj] at this
    refine Eq.trans (sumR_congr (g := fun k => if j = k then 1 else 0) fun k _ => ?_) this
    by_cases hk : j = k
    ·subst hk; rw [if_pos h2, if_pos h1, if_pos rfl]
    ·rw [if_neg hk]
     split
     ·rw [if_neg (by omega)]
     ·rfl
  rw [e2]
  omega
theorem ord_len {H : List Int} (hP : ∀ d, d < H.length → hAt H d < 0 ∨ ∃ j, j < H.length ∧ hAt H d = (j : Int) ∧ hAt H j < 0) : (ordTo H H.length).length = H.length := by
 unfold ordTo
 rw [flat_len_sum]
 have e : sumR H.length (fun k => (ordAt H k).length) = sumR H.length (fun k => if hAt H k < 0 then 1 + (ordRow H k H.length).length else 0) := by
  refine sumR_congr fun k hk => ?_
  have hx : H[k]? = some (hAt H k) := by simp [hAt, hk]
  by_cases h : hAt H k < 0
  ·rw [if_pos h, ordAt_f hx h, List.length_cons]; omega
  ·rw [if_neg h, ordAt_t hx (by omega)]; rfl
 rw [e, ord_count hP H.length (Nat.le_refl _), ← sumR_add]
 refine Eq.trans (sumR_congr (g := fun _ => 1) fun k _ => ?_) (sumR_one H.length)
 split <;> rfl
theorem homeF_home (X : XInk) (d : DBox) : ∀ k, k ≤ X.length → (homeF X d k).1 = -1 ∨ ∃ j s, j < k ∧ (homeF X d k).1 = (j : Int) ∧ X[j]? = some s ∧ isDotB s = false
 | 0, _ => .inl rfl
 | k + 1, hk => by
  obtain ⟨s, hs⟩ : ∃ s, X[k]? = some s := ⟨_, List.getElem?_eq_getElem (by omega)⟩
  rw [homeF_succ hs]
  have ih : (homeF X d k).1 = -1 ∨ ∃ j s, j < k + 1 ∧ (homeF X d k).1 = (j : Int) ∧ X[j]? = some s ∧ isDotB s = false := by
   rcases homeF_home X d k (by omega) with h | ⟨j, t, h1, h2⟩
   ·exact .inl h
   ·exact .inr ⟨j, t, by omega, h2⟩
  unfold stepH
  cases hd : isDotB s
  ·rw [if_neg (by simp)]
   split
   ·exact .inr ⟨k, s, by omega, rfl, hs, hd⟩
   ·exact ih
  ·rw [if_pos rfl]; exact ih
theorem homes_ok (X : XInk) : ∀ d, d < (homesTo X X.length).length → hAt (homesTo X X.length) d < 0 ∨ ∃ j, j < (homesTo X X.length).length ∧ hAt (homesTo X X.length) d = (j : Int) ∧ hAt (homesTo X X.length) j < 0 := by
 intro d hd
 rw [homesTo_len] at hd ⊢
 have e : ∀ k, k < X.length → hAt (homesTo X X.length) k = homeI X k := fun k hk => by unfold hAt; rw [homesTo_get hk]; rfl
 rw [e d hd]
 obtain ⟨s, hs⟩ : ∃ s, X[d]? = some s := ⟨_, List.getElem?_eq_getElem hd⟩
 cases hdot : isDotB s
 ·left; rw [homeI_f hs hdot]; omega
 ·rw [homeI_t hs hdot]
  rcases homeF_home X (boxSt s) d (by omega) with h | ⟨j, t, h1, h2, h3, h4⟩
  ·left; omega
  ·right
   refine ⟨j, by omega, h2, ?_⟩
   rw [e j (by omega), homeI_f h3 h4]; omega
theorem orderI_len (X : XInk) : (orderI X).length = X.length := by
 have := ord_len (homes_ok X)
 rw [homesTo_len] at this
 exact this
end Go.Proofs.YtlnoelbeaolikaaGreat
namespace Go.Proofs.YtlnoelbeaolikaaGreat
open Go.RowKit
end Go.Proofs.YtlnoelbeaolikaaGreat
namespace Go.Proofs.YtlnoelbeaolikaaGreat
open Go.RowKit
/-! ### lists of numbers -/
def gI (d : List Int) (k : Nat) : Int := d.getD k 0
theorem gI_some {d : List Int} {k : Nat} (h : k < d.length) : d[k]? = some (gI d k) := by
 unfold gI
 rw [List.getD_eq_getElem?_getD, List.getElem?_eq_getElem h]; rfl
def swL (d : List Int) (i j : Nat) : List Int := (d.set i (gI d j)).set j (gI d i)
theorem swL_len (d : List Int) (i j : Nat) : (swL d i j).length = d.length := by unfold swL; rw [List.length_set, List.length_set]
theorem gI_set {d : List Int} {i k : Nat} (h : i < d.length) (c : Int) : gI (d.set i c) k = if k = i then c else gI d k := by
 unfold gI
 rw [List.getD_eq_getElem?_getD, List.getD_eq_getElem?_getD]
 by_cases e : k = i
 ·subst e; rw [List.getElem?_set_self h, if_pos rfl]; rfl
 ·rw [List.getElem?_set_ne (fun h => e h.symm), if_neg e]
theorem gI_sw {d : List Int} {i j : Nat} (hi : i < d.length) (hj : j < d.length) (k : Nat) : gI (swL d i j) k = if k = j then gI d i else if k = i then gI d j else gI d k := by
 unfold swL
 rw [gI_set (by rw [List.length_set]; exact hj), gI_set hi]
/-- the list turns within a..b, by exchanges alone -/
structure POn (a b : Nat) (d d' : List Int) : Prop where
 len : d'.length = d.length
 out : ∀ i, (i < a ∨ b ≤ i) → gI d' i = gI d i
 all : ∀ P : Int → Prop, (∀ i, a ≤ i → i < b → P (gI d i)) → ∀ i, a ≤ i → i < b → P (gI d' i)
 perm : d'.Perm d
theorem POn.refl (a b : Nat) (d : List Int) : POn a b d d := ⟨rfl, fun _ _ => rfl, fun _ h => h, List.Perm.refl _⟩
theorem POn.trans {a b : Nat} {x y z : List Int} (h : POn a b x y) (k : POn a b y z) : POn a b x z :=
 ⟨k.len.trans h.len, fun i hi => (k.out i hi).trans (h.out i hi), fun P hP => k.all P (h.all P hP), k.perm.trans h.perm⟩
theorem POn.wide {a b a' b' : Nat} {x y : List Int} (h : POn a b x y) (ha : a' ≤ a) (hb : b ≤ b') : POn a' b' x y :=
 ⟨h.len, fun i hi => h.out i (by omega), fun P hP i h1 h2 => by
  by_cases hi : a ≤ i ∧ i < b
  ·exact h.all P (fun j j1 j2 => hP j (by omega) (by omega)) i hi.1 hi.2
  ·rw [h.out i (by omega)]; exact hP i h1 h2, h.perm⟩
theorem POn.sw {a b i j : Nat} {d : List Int} (hb : b ≤ d.length) (hi : a ≤ i) (hi2 : i < b) (hj : a ≤ j) (hj2 : j < b) : POn a b d (swL d i j) := by
 have h1 : i < d.length := by omega
 have h2 : j < d.length := by omega
 refine ⟨swL_len d i j, fun k hk => ?_, fun P hP k k1 k2 => ?_, ?_⟩
 ·rw [gI_sw h1 h2, if_neg (by omega), if_neg (by omega)]
 ·rw [gI_sw h1 h2]
  split
  ·exact hP i hi hi2
  ·split
   ·exact hP j hj hj2
   ·exact hP k k1 k2
 ·unfold swL
  have e1 : gI d j = d[j] := by have := gI_some h2; rw [List.getElem?_eq_getElem h2] at this; exact (Option.some.inj this).symm
  have e2 : gI d i = d[i] := by have := gI_some h1; rw [List.getElem?_eq_getElem h1] at this; exact (Option.some.inj this).symm
  rw [e1, e2]
  exact List.set_set_perm h1 h2
def SortOn (a b : Nat) (d : List Int) : Prop := ∀ p q, a ≤ p → p < q → q < b → gI d p ≤ gI d q
theorem SortOn.short {a b : Nat} (d : List Int) (h : b ≤ a + 1) : SortOn a b d := fun p q h1 h2 h3 => by omega
/-- the inner loop of the insertion: all but the place j is in order -/
def InsInv (a i j : Nat) (d : List Int) : Prop := ∀ p q, a ≤ p → p < q → q ≤ i → q ≠ j → gI d p ≤ gI d q
theorem InsInv.start {a i : Nat} {d : List Int} (h : SortOn a i d) : InsInv a i i d := fun p q h1 h2 h3 h4 => h p q h1 h2 (by omega)
theorem InsInv.step {a i j : Nat} {d : List Int} (h : InsInv a i j d) (hj : a < j) (hji : j ≤ i) (hi : i < d.length) (hl : gI d j < gI d (j - 1)) : InsInv a i (j - 1) (swL d j (j - 1)) := by
 intro p q h1 h2 h3 h4
 have e1 : j < d.length := by omega
 have e2 : j - 1 < d.length := by omega
 rw [gI_sw e1 e2, gI_sw e1 e2]
 rw [if_neg h4]
 by_cases hq : q = j
 ·subst hq
  rw [if_pos rfl]
  by_cases hp : p = q - 1
  ·rw [if_pos hp]; omega
  ·rw [if_neg hp, if_neg (by omega)]
   exact h p (q - 1) h1 (by omega) (by omega) (by omega)
 ·rw [if_neg hq]
  by_cases hp : p = j - 1
  ·rw [if_pos hp]
   by_cases hjq : j < q
   ·exact h j q (by omega) hjq h3 hq
   ·omega
  ·rw [if_neg hp]
   by_cases hp2 : p = j
   ·rw [if_pos hp2]
    exact h (j - 1) q (by omega) (by omega) h3 hq
   ·rw [if_neg hp2]
    exact h p q h1 h2 h3 hq
theorem InsInv.stop {a i j : Nat} {d : List Int} (h : InsInv a i j d) (hs : j ≤ a ∨ gI d (j - 1) ≤ gI d j) : SortOn a (i + 1) d := by
 intro p q h1 h2 h3
 by_cases hq : q = j
 ·subst hq
  rcases hs with hs | hs
  ·omega
  ·by_cases hp : p = q - 1
   ·rw [hp]; exact hs
   ·exact Int.le_trans (h p (q - 1) h1 (by omega) (by omega) (by omega)) hs
 ·exact h p q h1 h2 (by omega) hq
/-- while the block is parted by the number at a -/
structure PInv (a b i j : Nat) (d : List Int) : Prop where
 ai : a < i
 ij : i ≤ j + 1
 jb : j < b
 lo : ∀ p, a < p → p < i → gI d p ≤ gI d a
 hi : ∀ q, j < q → q < b → gI d a ≤ gI d q
theorem PInv.start {a b : Nat} {d : List Int} (h : a < b) : PInv a b (a + 1) (b - 1) d := ⟨by omega, by omega, by omega, fun p h1 h2 => by omega, fun q h1 h2 => by omega⟩
theorem PInv.istep {a b i j : Nat} {d : List Int} (h : PInv a b i j d) (hij : i ≤ j) (hl : gI d i < gI d a) : PInv a b (i + 1) j d :=
 ⟨by have := h.ai; omega, by omega, h.jb, fun p h1 h2 => by
  by_cases e : p = i
  ·subst e; omega
  ·exact h.lo p h1 (by omega), h.hi⟩
theorem PInv.jstep {a b i j : Nat} {d : List Int} (h : PInv a b i j d) (hij : i ≤ j) (hl : gI d a ≤ gI d j) : PInv a b i (j - 1) d := by
 have h1 := h.ai
 have h2 := h.jb
 exact ⟨h1, by omega, by omega, h.lo, fun q q1 q2 => by
  by_cases e : q = j
  ·subst e; exact hl
  ·exact h.hi q (by omega) q2⟩
theorem PInv.swap {a b i j : Nat} {d : List Int} (h : PInv a b i j d) (hb : b ≤ d.length) (hij : i ≤ j) (h1 : gI d a ≤ gI d i) (h2 : gI d j < gI d a) : PInv a b (i + 1) (j - 1) (swL d i j) := by
 have k1 := h.ai
 have k2 := h.jb
 have hne : i < j := by
  by_cases e : i = j
  ·subst e; omega
  ·omega
 have li : i < d.length := by omega
 have lj : j < d.length := by omega
 have ea : gI (swL d i j) a = gI d a := by rw [gI_sw li lj, if_neg (by omega), if_neg (by omega)]
 refine ⟨by omega, by omega, by omega, fun p p1 p2 => ?_, fun q q1 q2 => ?_⟩
 ·rw [ea, gI_sw li lj, if_neg (by omega)]
  split
  ·omega
  ·exact h.lo p p1 (by omega)
 ·rw [ea, gI_sw li lj]
  split
  ·exact h1
  ·rw [if_neg (by omega)]; exact h.hi q (by omega) q2
/-- parted at m -/
def Part (a b m : Nat) (d : List Int) : Prop := (∀ p, a ≤ p → p < m → gI d p ≤ gI d m) ∧ ∀ q, m < q → q < b → gI d m ≤ gI d q
theorem PInv.done {a b i j : Nat} {d : List Int} (h : PInv a b i j d) (hb : b ≤ d.length) (hij : j < i) : Part a b j (swL d j a) := by
 have k1 := h.ai
 have k2 := h.jb
 have k3 := h.ij
 have lj : j < d.length := by omega
 have la : a < d.length := by omega
 have ej : gI (swL d j a) j = gI d a := by
  rw [gI_sw lj la]
  by_cases e : j = a
  ·subst e; rw [if_pos rfl]
  ·rw [if_neg e, if_pos rfl]
 refine ⟨fun p p1 p2 => ?_, fun q q1 q2 => ?_⟩
 ·rw [ej, gI_sw lj la]
  split
  ·exact h.lo j (by omega) (by omega)
  ·rw [if_neg (by omega)]; exact h.lo p (by omega) (by omega)
 ·rw [ej, gI_sw lj la, if_neg (by omega), if_neg (by omega)]
  exact h.hi q q1 q2
/-! ### the block -/
def HoldI (w : World) (g o : Nat) (d : List Int) : Prop := ∃ cs T, Box w g cs T ∧ ∀ j, j < d.length → cs[o + j]? = some (.int .i64 (gI d j))
theorem HoldI.cell {w : World} {g o : Nat} {d : List Int} (h : HoldI w g o d) (j : Nat) (hj : j < d.length) : w.cell? ⟨g, o + j, none⟩ = some (.int .i64 (gI d j)) := by
 obtain ⟨cs, T, h1, h2⟩ := h
 exact h1.cell (h2 j hj)
theorem HoldI.free {w : World} {g o : Nat} {d : List Int} (h : HoldI w g o d) (j : Nat) : w.frozen? ⟨g, j, none⟩ = false := by
 obtain ⟨cs, T, h1, h2⟩ := h
 exact h1.free j
theorem HoldI.lt {w : World} {g o : Nat} {d : List Int} (h : HoldI w g o d) : g < w.heap.size := by
 obtain ⟨cs, T, h1, h2⟩ := h
 exact h1.lt
theorem HoldI.set {w : World} {g o : Nat} {d : List Int} (h : HoldI w g o d) {k : Nat} (hk : k < d.length) (c : Int) : HoldI (w.setCell ⟨g, o + k, none⟩ (.int .i64 c)) g o (d.set k c) := by
 obtain ⟨cs, T, h1, h2⟩ := h
 refine ⟨_, T, h1.set (o + k) _, fun j hj => ?_⟩
 rw [List.length_set] at hj
 rw [gI_set hk]
 by_cases e : j = k
 ·subst e
  rw [if_pos rfl]
  have h3 := (Array.getElem?_eq_some_iff.1 (h2 j hj)).1
  rw [Array.getElem?_setIfInBounds_self]
  simp [h3]
 ·rw [if_neg e, Array.getElem?_setIfInBounds_ne (by omega)]
  exact h2 j hj
theorem HoldI.drew {w : World} {g o : Nat} {d : List Int} (h : HoldI w g o d) : HoldI w.drew g o d := h
theorem HoldI.drewN {w : World} {g o : Nat} {d : List Int} (h : HoldI w g o d) (n : Nat) : HoldI (w.drewN n) g o d := h
theorem HoldI.sw {w : World} {g o : Nat} {d : List Int} (h : HoldI w g o d) {i j : Nat} (hi : i < d.length) (hj : j < d.length) : HoldI ((w.setCell ⟨g, o + i, none⟩ (.int .i64 (gI d j))).setCell ⟨g, o + j, none⟩ (.int .i64 (gI d i))) g o (swL d i j) :=
 (h.set hi _).set (by rw [List.length_set]; exact hj) _
/-- nothing but the block turns -/
abbrev Fr (g : Nat) (w w' : World) : Prop := Chg g (g + 1) w w'
theorem Fr.drewN {g : Nat} {w w' : World} (h : Fr g w w') (n : Nat) : Fr g w (w'.drewN n) := ⟨h.os, h.tape, h.output, h.size, h.block⟩
theorem Fr.sw {g : Nat} {w w' : World} (h : Fr g w w') (i j : Nat) (u v : Value) : Fr g w ((w'.setCell ⟨g, i, none⟩ u).setCell ⟨g, j, none⟩ v) := (h.trans (chg_set _ g i u)).trans (chg_set _ g j v)
structure ParSt (g o a b : Nat) (d0 : List Int) (w0 : World) (i j : Nat) (d : List Int) (w : World) : Prop where
 hold : HoldI w g o d
 pon : POn a b d0 d
 inv : PInv a b i j d
 fr : Fr g w0 w
theorem ParSt.drewN {g o a b i j : Nat} {d0 d : List Int} {w0 w : World} (h : ParSt g o a b d0 w0 i j d w) (n : Nat) : ParSt g o a b d0 w0 i j d (w.drewN n) := ⟨h.hold.drewN n, h.pon, h.inv, h.fr.drewN n⟩
end Go.Proofs.YtlnoelbeaolikaaGreat
