/- The features of ink: both calls. -/
import Derived.Test.YtlnoelbeaolikaaGreatHfBox
import Derived.Test.YtlnoelbeaolikaaGreatHfGeo
import Derived.Test.YtlnoelbeaolikaaGreatInkGapAt
namespace Go.Proofs.YtlnoelbeaolikaaGreat
open Go.RowKit

noncomputable def featsTo (X : XInk) (b : DBox) (q : Nat) : Nat → List DFeat
  | 0 => []
  | k + 1 => featsTo X b q k ++ featsS ((X[k]?).getD []) b q
noncomputable def featsI (X : XInk) (q : Nat) : List DFeat := featsTo X (boxI X) q X.length
theorem featsS_len (x : XStroke) (b : DBox) (q : Nat) : (featsS x b q).length = q + 1 := featsP_len _ _ _
theorem featsTo_len (X : XInk) (b : DBox) (q : Nat) : ∀ k, (featsTo X b q k).length = k * (q + 1)
  | 0 => by simp [featsTo]
  | k + 1 => by
    show (featsTo X b q k ++ _).length = _
    rw [List.length_append, featsTo_len X b q k, featsS_len, Nat.add_mul, Nat.one_mul]
theorem featsTo_succ {X : XInk} {b : DBox} {q k : Nat} {x : XStroke} (h : X[k]? = some x) : featsTo X b q k ++ featsS x b q = featsTo X b q (k + 1) := by
  show _ = featsTo X b q k ++ featsS ((X[k]?).getD []) b q
  rw [h]; rfl
theorem featsI_len (X : XInk) (q : Nat) : (featsI X q).length = X.length * (q + 1) := featsTo_len _ _ _ _
theorem featsS_ok {x : XStroke} (hv : validSt x = true) {b : DBox} (hb : okBox b) (hl : boxLe b) {q : Nat} (hq : 1 ≤ q) : ∀ f ∈ featsS x b q, okF f := by
  intro f hf
  unfold featsS featsP at hf
  obtain ⟨i, hi, rfl⟩ := List.mem_map.1 hf
  have hi := List.mem_range.1 hi
  obtain ⟨p, hp⟩ : ∃ p, (spotsL x q (q + 1))[i]? = some p := ⟨_, spotsL_get x q hi⟩
  rw [featK_eq hp]
  have h1 := normP_bd (spotsL_ok hv hq hp) hb hl
  have h2 := dirTo_bd (spotsL x q (q + 1)) (i + 1)
  exact ⟨h1.1, h1.2.1, h1.2.2.1, h1.2.2.2, h2.1, h2.2⟩
theorem featsTo_ok {X : XInk} (hv : validInk X = true) {b : DBox} (hb : okBox b) (hl : boxLe b) {q : Nat} (hq : 1 ≤ q) : ∀ k, k ≤ X.length → ∀ f ∈ featsTo X b q k, okF f
  | 0, _ => fun f hf => by simp [featsTo] at hf
  | k + 1, hk => fun f hf => by
    obtain ⟨x, hx⟩ : ∃ x, X[k]? = some x := ⟨_, List.getElem?_eq_getElem (by omega)⟩
    rw [← featsTo_succ hx] at hf
    rcases List.mem_append.1 hf with h | h
    · exact featsTo_ok hv hb hl hq k (by omega) f h
    · exact featsS_ok (validInk_st hv hx) hb hl hq f h
theorem featsI_ok {X : XInk} (hv : validInk X = true) (h0 : 0 < X.length) {q : Nat} (hq : 1 ≤ q) : ∀ f ∈ featsI X q, okF f :=
  featsTo_ok hv (boxI_ok hv h0).1 (boxI_ok hv h0).2 hq _ (Nat.le_refl _)
set_option maxRecDepth 100000 in
set_option maxHeartbeats 4000000 in
theorem FeatsOf_any (v : Value) (X : XInk) (q : Nat) (w : World) (h : Strokes w v X) (ok : okInk X) (hv : validInk X = true) (h0 : 0 < X.length) (hq : 1 ≤ q) (hq2 : q ≤ 23) :
    Calls Tryz.prog 69 #[.agg #[v], .int .i64 (q + 1)] w (fun e w' => ∃ u, e = .returned (.tuple #[u, .int .i64 0]) ∧ Own eFeat 176 w.heap.size w' u (featsI X q) ∧ Below w.heap.size w w') := by
  have hX16 := validInk_len hv
  have h00 := h
  obtain ⟨b, off, ao, cap, us, rfl, hnc, hcm, hao, hcl, hul, hin⟩ := h.slice
  obtain ⟨hao', hbw⟩ := hao h0
  subst hao'
  unfold maxLen at hcm
  have HUL := hid hul
  have HIN := hid hin
  have HV := hid hv
  obtain ⟨hbo, hble⟩ := boxI_ok hv h0
  have HFI := hid (show featsI X q = featsTo X (boxI X) q X.length from rfl)
  clear hul hin hao h
  obtain ⟨W, hW⟩ : ∃ u, u = (w.alloc (.cells #[.slice (some ⟨b, off, none⟩) X.length cap] 41)) := ⟨_, rfl⟩
  have hbW : Below w.heap.size w W := by rw [hW]; exact belowA1 _ _
  have q1 : Box W (w.heap.size) #[.slice (some ⟨b, off, none⟩) X.length cap] 41 := by
    have hq := Box.new w #[.slice (some ⟨b, off, none⟩) X.length cap] 41
    rw [hW]
    exact hq
  obtain ⟨p1, hp1⟩ : ∃ p, p = w.heap.size := ⟨_, rfl⟩
  rw [← hp1] at q1
  have hge1 : w.heap.size ≤ p1 := by omega
  have hlW : w.heap.size ≤ W.heap.size := hbW.size
  have hlp1 : p1 < W.heap.size := q1.lt
  have HP1 := hid hp1
  have HW := hid hW
  clear hW hp1
  have m0 := q1.cell (j := 0) rfl
  have CV := implValidInk_any (.slice (some ⟨b, off, none⟩) X.length cap) X W (h00.below hbW) ok
  rw [hv] at CV
  have CI : ∀ w', Calls Tryz.prog 62 #[.int .i64 ((q : Int) + 1), .int .i64 2, .int .i64 24] w' fun e w'' => e = .returned (.bool true) ∧ w' = w'' := fun w' => by
    have := within_any ((q : Int) + 1) 2 24 w'
    rwa [show inB ((q : Int) + 1) 2 24 = true from inB_true.2 ⟨by omega, by omega⟩] at this
  have hn0 : ((X.length : Int) == 0) = false := by rw [beq_eq_false_iff_ne]; omega
  have hn1 : ¬ (X.length = 0) := by omega
  go_enter Tryz.func69, Tryz.ntmps69
  go_upto_region 1 with fail
  rw [← HP1.out, ← HW.out]
  go_wp2_with fail
  refine CV.mono ?_
  rintro e w1 ⟨rfl, hb1⟩
  have m1 := cell_later hb1 m0
  have hl1 := hb1.size
  have CB := boxOfInk_any (.slice (some ⟨b, off, none⟩) X.length cap) X w1 (h00.below (hbW.trans (hb1.mono hlW))) ok HV.out h0
  have hn2 : ¬ (List.length X = 0) := hn1
  clear CV hv
  go_wp2_with fail
  refine (CI _).mono ?_
  rintro e w' ⟨rfl, rfl⟩
  go_wp2_with fail
  unfold vBox at CB
  refine CB.mono ?_
  rintro e w2 ⟨rfl, hb2⟩
  have m2 := cell_later hb2 m1
  have hl2 := hb2.size
  obtain ⟨bx, hbx⟩ : ∃ bx, bx = boxI X := ⟨_, rfl⟩
  rw [← hbx] at hbo hble HFI ⊢
  have m2a := cell_alloc m2 (.cells #[.int .i64 bx.x1, .int .i64 bx.y1, .int .i64 bx.x2, .int .i64 bx.y2] 158)
  clear CB hbx
  go_upto_region 10 with fail
  obtain ⟨w3, hw3⟩ : ∃ u, u = w2.alloc (.cells #[.int .i64 bx.x1, .int .i64 bx.y1, .int .i64 bx.x2, .int .i64 bx.y2] 158) := ⟨_, rfl⟩
  obtain ⟨pB, hpB⟩ : ∃ p, p = w2.heap.size := ⟨_, rfl⟩
  have hb3 : Below w2.heap.size w2 w3 := by rw [hw3]; exact below_alloc _ _
  have qB : Box w3 pB #[.int .i64 bx.x1, .int .i64 bx.y1, .int .i64 bx.x2, .int .i64 bx.y2] 158 := by rw [hw3, hpB]; exact Box.new _ _ _
  rw [← hw3, ← hpB]
  have m3 := cell_later hb3 m2
  have b0 := qB.cell (j := 0) rfl
  have b1 := qB.cell (j := 1) rfl
  have b2 := qB.cell (j := 2) rfl
  have b3 := qB.cell (j := 3) rfl
  have hbW3 : Below W.heap.size W w3 := hb1.trans ((hb2.trans (hb3.mono hl2)).mono hl1)
  have hl3 : W.heap.size ≤ w3.heap.size := hbW3.size
  clear hw3 hpB m2a m2 m1
  obtain ⟨w4, hw4⟩ : ∃ u, u = w3 := ⟨_, rfl⟩
  have hb4 : Below w3.heap.size w3 w4 := by rw [hw4]; exact Below.refl _ _
  have ho4 : Own eFeat 176 w3.heap.size w4 (.slice none 0 0) (featsTo X bx q 0) := Own.nil _ _ _
  rw [← hw4]
  clear hw4
  go_loopw [7, 28] (fun u i wr => ∃ k : Nat, k ≤ X.length ∧ i = .int .i64 k ∧ Own eFeat 176 w3.heap.size wr u (featsTo X bx q k) ∧ Below w3.heap.size w3 wr) (fun _ i _ => X.length - (intOf i).toNat)
  case atStart => exact ⟨0, Nat.zero_le _, rfl, ho4, hb4⟩
  case round =>
    clear ho4
    obtain ⟨w5, rfl⟩ : ∃ u, u = wr := ⟨wr, rfl⟩
    obtain ⟨k, hk, rfl, ho, hbl⟩ := hrel
    have hll := featsTo_len X bx q k
    have m5 := cell_later hbl m3
    by_cases hlt : k < X.length
    · have hli : (k : Int) < (X.length : Int) := by omega
      obtain ⟨x, hx⟩ : ∃ x, X[k]? = some x := ⟨_, List.getElem?_eq_getElem hlt⟩
      obtain ⟨sr, hsv⟩ : ∃ s, us[k]? = some s := ⟨_, List.getElem?_eq_getElem (by rw [HUL.out]; exact hlt)⟩
      have hb5W : Below W.heap.size W w5 := hbW3.trans (hbl.mono hl3)
      have hb5w : Below w.heap.size w w5 := hbW.trans (hb5W.mono hlW)
      have d0 := eS1_cells (hcl.below hb5w hbw) hsv
      have hAr := (HIN.out k sr x hsv hx).below hb5w
      have hvx := validInk_st HV.out hx
      have HT := hid (featsTo_succ (b := bx) (q := q) hx)
      have c0 := cell_later hbl b0
      have c1 := cell_later hbl b1
      have c2 := cell_later hbl b2
      have c3 := cell_later hbl b3
      obtain ⟨Z, hZ⟩ : ∃ Z, Z = featsTo X bx q k := ⟨_, rfl⟩
      rw [← hZ] at ho hll HT
      have hFl := featsS_len x bx q
      have hlen : Z.length ≤ 384 := by
        rw [hll]
        have := Nat.mul_le_mul (show k ≤ 16 by omega) (show q + 1 ≤ 24 by omega)
        omega
      obtain ⟨n, hn⟩ : ∃ n, n = Z.length := ⟨_, rfl⟩
      obtain ⟨oa, oc, hu⟩ := ho.isSlice
      rw [← hn] at hu hlen
      subst hu
      have HL := hid hn
      have hls := hbl.size
      have CS := fun w' (hb : Below w5.heap.size w5 w') => featsOfStroke_any _ x bx q w' (hAr.below hb) hvx hbo hble hq hq2
      obtain ⟨F, hF⟩ : ∃ F, F = featsS x bx q := ⟨_, rfl⟩
      rw [← hF] at CS HT hFl
      unfold vBox at CS
      have HFL := hid hFl
      clear hF hZ hll hx hsv hn hFl hAr
      go_upto_region 12 with fail
      obtain ⟨w6, hw6⟩ : ∃ u, u = w5.alloc (.cells #[.slice sr.a sr.n sr.c] 112) := ⟨_, rfl⟩
      obtain ⟨pS, hpS⟩ : ∃ p, p = w5.heap.size := ⟨_, rfl⟩
      rw [← hw6, ← hpS]
      have hb6 : Below w5.heap.size w5 w6 := by rw [hw6]; exact below_alloc _ _
      have qS : Box w6 pS #[.slice sr.a sr.n sr.c] 112 := by rw [hw6, hpS]; exact Box.new _ _ _
      have y0 := qS.cell (j := 0) rfl
      have c0 := cell_later hb6 c0
      have c1 := cell_later hb6 c1
      have c2 := cell_later hb6 c2
      have c3 := cell_later hb6 c3
      have hbl6 := hbl.trans (hb6.mono hls)
      have hs6 := hbl6.size
      have CS6 := CS w6 hb6
      clear hw6 hpS d0 CS
      go_wp2_with fail
      refine CS6.mono ?_
      rintro e w7 ⟨uF, rfl, hoF, hb7⟩
      have hbl7 := hbl6.trans (hb7.mono hs6)
      have hs7 := hbl7.size
      have ho7 := (ho.below hb6).below hb7
      obtain ⟨fa, fc, huF⟩ := hoF.isSlice
      rw [HFL.out] at huF
      subst huF
      go_wp2_with (at_builtin; (refine wpList_appA rfl _ _ 104 rfl w3.heap.size 176 _ 24 infFeatF Tryz.underlying104 rfl _ Z rfl ho7 _ F rfl hoF.arr (by rw [← HL.out, HFL.out]; unfold maxLen; omega) (by rw [← HL.out, HFL.out]; omega) hs7 ?_; intro v' wA hoA hbA htA))
      have hFF : Below w3.heap.size w3 wA := hbl7.trans hbA
      go_wp2_with fail
      go_roundw
      case rel => exact ⟨k + 1, by omega, by go_num, by rw [← HT.out]; exact hoA, hFF⟩
      case measure => simp [intOf]; omega
    · have hli : ¬ ((k : Int) < (X.length : Int)) := by omega
      have HE := hid (show k = X.length by omega)
      clear hll
      go_wp2_with fail
      go_ret2
      exact ⟨_, rfl, by rw [HE.out, ← HFI.out] at ho; exact ho.mono (Nat.le_trans hlW hl3), hbW.trans ((hbW3.trans (hbl.mono hl3)).mono hlW)⟩
set_option maxRecDepth 100000 in
set_option maxHeartbeats 4000000 in
theorem l08Of_any (p0 o : Nat) (v : Value) (X : XInk) (q : Nat) (w : World) (hp : w.cell? ⟨p0, o, none⟩ = some v) (h : Strokes w v X) (ok : okInk X) (hv : validInk X = true) (h0 : 0 < X.length) (hq : 1 ≤ q) (hq2 : q ≤ 23) :
    Calls Tryz.prog 57 #[.pointer (some ⟨p0, o, none⟩), .int .i64 (q + 1)] w (RetOwn eFeat 176 (featsI X q) w) := by
  have hX16 := validInk_len hv
  have h00 := h
  obtain ⟨b, off, ao, cap, us, rfl, hnc, hcm, hao, hcl, hul, hin⟩ := h.slice
  obtain ⟨hao', hbw⟩ := hao h0
  subst hao'
  unfold maxLen at hcm
  have HUL := hid hul
  have HIN := hid hin
  have HV := hid hv
  obtain ⟨hbo, hble⟩ := boxI_ok hv h0
  have HFI := hid (show featsI X q = featsTo X (boxI X) q X.length from rfl)
  clear hul hin hao h
  obtain ⟨W, hWd⟩ : ∃ W, W = w := ⟨_, rfl⟩
  have hbW : Below w.heap.size w W := by rw [hWd]; exact Below.refl _ _
  have hlW : w.heap.size ≤ W.heap.size := hbW.size
  have m0 : W.cell? ⟨p0, o, none⟩ = some (.slice (some ⟨b, off, none⟩) X.length cap) := by rw [hWd]; exact hp
  obtain ⟨w1, hw1⟩ : ∃ u, u = W := ⟨_, rfl⟩
  have hb1 : Below W.heap.size W w1 := by rw [hw1]; exact Below.refl _ _
  have m1 := cell_later hb1 m0
  have hl1 := hb1.size
  have CB := l02All_any p0 o (.slice (some ⟨b, off, none⟩) X.length cap) X w1 m1 (h00.below (hbW.trans (hb1.mono hlW))) ok HV.out h0
  have HWd := hid hWd
  have Hw1 := hid hw1
  clear hWd hw1 hv
  go_enter Tryz.func57, Tryz.ntmps57
  go_upto_region 1 with fail
  rw [← HWd.out, ← Hw1.out]
  go_wp2_with fail
  unfold vBox at CB
  refine CB.mono ?_
  rintro e w2 ⟨rfl, hb2⟩
  have m2 := cell_later hb2 m1
  have hl2 := hb2.size
  obtain ⟨bx, hbx⟩ : ∃ bx, bx = boxI X := ⟨_, rfl⟩
  rw [← hbx] at hbo hble HFI ⊢
  have m2a := cell_alloc m2 (.cells #[.int .i64 bx.x1, .int .i64 bx.y1, .int .i64 bx.x2, .int .i64 bx.y2] 158)
  clear CB hbx
  go_upto_region 2 with fail
  obtain ⟨w3, hw3⟩ : ∃ u, u = w2.alloc (.cells #[.int .i64 bx.x1, .int .i64 bx.y1, .int .i64 bx.x2, .int .i64 bx.y2] 158) := ⟨_, rfl⟩
  obtain ⟨pB, hpB⟩ : ∃ p, p = w2.heap.size := ⟨_, rfl⟩
  have hb3 : Below w2.heap.size w2 w3 := by rw [hw3]; exact below_alloc _ _
  have qB : Box w3 pB #[.int .i64 bx.x1, .int .i64 bx.y1, .int .i64 bx.x2, .int .i64 bx.y2] 158 := by rw [hw3, hpB]; exact Box.new _ _ _
  rw [← hw3, ← hpB]
  have m3 := cell_later hb3 m2
  have b0 := qB.cell (j := 0) rfl
  have b1 := qB.cell (j := 1) rfl
  have b2 := qB.cell (j := 2) rfl
  have b3 := qB.cell (j := 3) rfl
  have hbW3 : Below W.heap.size W w3 := hb1.trans ((hb2.trans (hb3.mono hl2)).mono hl1)
  have hl3 : W.heap.size ≤ w3.heap.size := hbW3.size
  clear hw3 hpB m2a m2 m1
  go_upto_region 4 with fail
  obtain ⟨w4, hw4⟩ : ∃ u, u = w3.alloc (.cells #[] 176) := ⟨_, rfl⟩
  obtain ⟨pe, hpe⟩ : ∃ p, p = w3.heap.size := ⟨_, rfl⟩
  have hb4 : Below w3.heap.size w3 w4 := by rw [hw4]; exact below_alloc _ _
  have ho4 : Own eFeat 176 w3.heap.size w4 (.slice (some ⟨pe, 0, none⟩) 0 0) (featsTo X bx q 0) := by rw [hw4, hpe]; exact Own.empty _ _ (Nat.le_refl _)
  rw [← hw4, ← hpe]
  clear hw4 hpe
  go_loopw [6, 7] (fun u i wr => ∃ k : Nat, k ≤ X.length ∧ i = .int .i64 k ∧ Own eFeat 176 w3.heap.size wr u (featsTo X bx q k) ∧ Below w3.heap.size w3 wr) (fun _ i _ => X.length - (intOf i).toNat)
  case atStart => exact ⟨0, Nat.zero_le _, rfl, ho4, hb4⟩
  case round =>
    clear ho4
    obtain ⟨w5, rfl⟩ : ∃ u, u = wr := ⟨wr, rfl⟩
    obtain ⟨k, hk, rfl, ho, hbl⟩ := hrel
    have hll := featsTo_len X bx q k
    have m5 := cell_later hbl m3
    by_cases hlt : k < X.length
    · have hli : (k : Int) < (X.length : Int) := by omega
      obtain ⟨x, hx⟩ : ∃ x, X[k]? = some x := ⟨_, List.getElem?_eq_getElem hlt⟩
      obtain ⟨sr, hsv⟩ : ∃ s, us[k]? = some s := ⟨_, List.getElem?_eq_getElem (by rw [HUL.out]; exact hlt)⟩
      have hb5W : Below W.heap.size W w5 := hbW3.trans (hbl.mono hl3)
      have hb5w : Below w.heap.size w w5 := hbW.trans (hb5W.mono hlW)
      have d0 := eS1_cells (hcl.below hb5w hbw) hsv
      have hAr := (HIN.out k sr x hsv hx).below hb5w
      have hvx := validInk_st HV.out hx
      have HT := hid (featsTo_succ (b := bx) (q := q) hx)
      have c0 := cell_later hbl b0
      have c1 := cell_later hbl b1
      have c2 := cell_later hbl b2
      have c3 := cell_later hbl b3
      obtain ⟨Z, hZ⟩ : ∃ Z, Z = featsTo X bx q k := ⟨_, rfl⟩
      rw [← hZ] at ho hll HT
      have hFl := featsS_len x bx q
      have hlen : Z.length ≤ 384 := by
        rw [hll]
        have := Nat.mul_le_mul (show k ≤ 16 by omega) (show q + 1 ≤ 24 by omega)
        omega
      obtain ⟨n, hn⟩ : ∃ n, n = Z.length := ⟨_, rfl⟩
      obtain ⟨oa, oc, hu⟩ := ho.isSlice
      rw [← hn] at hu hlen
      subst hu
      have HL := hid hn
      have hls := hbl.size
      have CS := fun w' (hb : Below w5.heap.size w5 w') => l08Stroke_any b (off + k) _ x bx q w' (cell_later hb d0) (hAr.below hb) hvx hbo hble hq hq2
      obtain ⟨F, hF⟩ : ∃ F, F = featsS x bx q := ⟨_, rfl⟩
      rw [← hF] at CS HT hFl
      unfold vBox at CS
      have HFL := hid hFl
      clear hF hZ hll hx hsv hn hFl hAr
      go_upto_region 6 with fail
      have hoZ := ho
      clear ho
      refine wp_region_stgy 9 10 (fun c w' => match c with | 0 => Below w5.heap.size w5 w' | 1 => Below w5.heap.size w5 w' | _ => Below w3.heap.size w3 w') (fun c i v w' => match i with
            | 0 => v = .slice oa n oc
            | 1 => v = .pointer (some ⟨p0, o, none⟩)
            | 2 => v = .pointer (some ⟨p0, o, none⟩)
            | 3 => v = .pointer (some ⟨p0, o, none⟩)
            | 4 => v = .slice (some ⟨b, off, none⟩) X.length cap
            | 5 => v = .int .i64 k
            | 6 => v = .pointer (some ⟨b, off + k, none⟩)
            | 7 => v = .int .i64 (q + 1)
            | 8 => v = .agg #[.int .i64 bx.x1, .int .i64 bx.y1, .int .i64 bx.x2, .int .i64 bx.y2]
            | 9 => (match c with | 0 => True | 1 => Arr eFeat w' v F | _ => True)
            | 10 => (match c with | 0 => True | 1 => True | _ => (Own eFeat 176 w3.heap.size w' v (Z ++ F)))
            | 11 => (match c with | 0 => False | 1 => False | _ => Own eFeat 176 w3.heap.size w' v (Z ++ F))
            | _ => True) (by kernel_rfl) (by kernel_rfl) (by kernel_rfl) (by kernel_rfl) (by kernel_rfl) ?_ ?_ ?_ ?_ ?_ ?_ (by decide) ?_
      · exact (Below.refl _ w5).drew
      · intro c w w' h hb
        match c, h with
        | 0, h => exact Below.trans (B := w5.heap.size) h (hb.mono (Below.size h))
        | 1, h => exact Below.trans (B := w5.heap.size) h (hb.mono (Below.size h))
        | (k + 2), h => exact (h.trans (hb.mono h.size))
      · intro c i v w w' h hb
        match i, h with
        | 0, h => exact h
        | 1, h => exact h
        | 2, h => exact h
        | 3, h => exact h
        | 4, h => exact h
        | 5, h => exact h
        | 6, h => exact h
        | 7, h => exact h
        | 8, h => exact h
        | 9, h =>
          match c, h with
          | 0, h => exact trivial
          | 1, h => exact (h.below hb)
          | (k + 2), h => exact trivial
        | 10, h =>
          match c, h with
          | 0, h => exact trivial
          | 1, h => exact trivial
          | (k + 2), h => exact (h.below hb)
        | 11, h =>
          match c, h with
          | 0, h => exact h
          | 1, h => exact h
          | (k + 2), h => exact (h.below hb)
        | (k + 12), h => exact h
      · refine ⟨?_, ?_, ?_, ?_, ?_, ?_, ?_, ?_, ?_, ?_, ?_, ?_, trivial⟩
        · refine .inr (.inr ⟨fun _ => ?_, fun _ => ?_, can_no (by kernel_rfl)⟩)
          · intro ρ w' hbw ht hcs hfn hgl hpr hdep G hG
            replace hbw : Below w5.heap.size w5 w' := hbw
            refine ⟨fun _ => ?_, fun h => by cases h⟩
            have s6 : ρ (.tmp 6) = .slice oa n oc := hpr 11 6 rfl (by kernel_rfl)
            clear ht hdep hgl hpr
            go_simp
            exact hG _ _ (Below.refl _ _) rfl
          · intro ρ w' hbw ht hcs hfn hgl hpr hdep G hG
            replace hbw : Below w5.heap.size w5 w' := hbw
            refine ⟨fun _ => ?_, fun h => by cases h⟩
            have s6 : ρ (.tmp 6) = .slice oa n oc := hpr 11 6 rfl (by kernel_rfl)
            clear ht hdep hgl hpr
            go_simp
            exact hG _ _ (Below.refl _ _) rfl
        · refine .inr (.inr ⟨fun _ => ?_, can_no (by kernel_rfl), can_no (by kernel_rfl)⟩)
          · intro ρ w' hbw ht hcs hfn hgl hpr hdep G hG
            replace hbw : Below w5.heap.size w5 w' := hbw
            refine ⟨fun _ => ?_, fun h => by cases h⟩
            have s0 : ρ (.tmp 0) = .pointer (some ⟨p0, o, none⟩) := ht 0 rfl
            clear ht hdep hgl hpr
            go_simp
            exact hG _ _ (Below.refl _ _) rfl
        · refine .inr (.inr ⟨fun _ => ?_, can_no (by kernel_rfl), can_no (by kernel_rfl)⟩)
          · intro ρ w' hbw ht hcs hfn hgl hpr hdep G hG
            replace hbw : Below w5.heap.size w5 w' := hbw
            refine ⟨fun _ => ?_, fun h => by cases h⟩
            have s21 : ρ (.tmp 21) = .pointer (some ⟨p0, o, none⟩) := hdep ⟨1, .data⟩ (by simp) rfl 21 rfl
            clear ht hdep hgl hpr
            go_simp
            exact hG _ _ (Below.refl _ _) rfl
        · refine .inr (.inr ⟨fun _ => ?_, can_no (by kernel_rfl), can_no (by kernel_rfl)⟩)
          · intro ρ w' hbw ht hcs hfn hgl hpr hdep G hG
            replace hbw : Below w5.heap.size w5 w' := hbw
            refine ⟨fun _ => ?_, fun h => by cases h⟩
            have s22 : ρ (.tmp 22) = .pointer (some ⟨p0, o, none⟩) := hdep ⟨2, .data⟩ (by simp) rfl 22 rfl
            clear ht hdep hgl hpr
            go_simp
            exact hG _ _ (Below.refl _ _) rfl
        · refine .inr (.inr ⟨fun _ => ?_, can_no (by kernel_rfl), can_no (by kernel_rfl)⟩)
          · intro ρ w' hbw ht hcs hfn hgl hpr hdep G hG
            replace hbw : Below w5.heap.size w5 w' := hbw
            refine ⟨fun _ => ?_, fun h => by cases h⟩
            have s23 : ρ (.tmp 23) = .pointer (some ⟨p0, o, none⟩) := hdep ⟨3, .data⟩ (by simp) rfl 23 rfl
            have m5 := cell_later hbw m5
            have c0 := cell_later hbw c0
            have c1 := cell_later hbw c1
            have c2 := cell_later hbw c2
            have c3 := cell_later hbw c3
            clear ht hdep hgl hpr
            go_simp
            exact hG _ _ (Below.refl _ _) rfl
        · refine .inr (.inr ⟨fun _ => ?_, can_no (by kernel_rfl), can_no (by kernel_rfl)⟩)
          · intro ρ w' hbw ht hcs hfn hgl hpr hdep G hG
            replace hbw : Below w5.heap.size w5 w' := hbw
            refine ⟨fun _ => ?_, fun h => by cases h⟩
            have s7 : ρ (.tmp 7) = .int .i64 k := ht 7 rfl
            clear ht hdep hgl hpr
            go_simp
            exact hG _ _ (Below.refl _ _) rfl
        · refine .inr (.inr ⟨fun _ => ?_, can_no (by kernel_rfl), can_no (by kernel_rfl)⟩)
          · intro ρ w' hbw ht hcs hfn hgl hpr hdep G hG
            replace hbw : Below w5.heap.size w5 w' := hbw
            refine ⟨fun _ => ?_, fun h => by cases h⟩
            have s24 : ρ (.tmp 24) = .slice (some ⟨b, off, none⟩) X.length cap := hdep ⟨4, .data⟩ (by simp) rfl 24 rfl
            have s25 : ρ (.tmp 25) = .int .i64 k := hdep ⟨5, .data⟩ (by simp) rfl 25 rfl
            clear ht hdep hgl hpr
            go_simp
            exact hG _ _ (Below.refl _ _) rfl
        · refine .inr (.inr ⟨fun _ => ?_, can_no (by kernel_rfl), can_no (by kernel_rfl)⟩)
          · intro ρ w' hbw ht hcs hfn hgl hpr hdep G hG
            replace hbw : Below w5.heap.size w5 w' := hbw
            refine ⟨fun _ => ?_, fun h => by cases h⟩
            have s1 : ρ (.tmp 1) = .int .i64 (q + 1) := ht 1 rfl
            clear ht hdep hgl hpr
            go_simp
            exact hG _ _ (Below.refl _ _) rfl
        · refine .inr (.inr ⟨fun _ => ?_, can_no (by kernel_rfl), can_no (by kernel_rfl)⟩)
          · intro ρ w' hbw ht hcs hfn hgl hpr hdep G hG
            replace hbw : Below w5.heap.size w5 w' := hbw
            refine ⟨fun _ => ?_, fun h => by cases h⟩
            have s5 : ρ (.tmp 5) = .pointer (some ⟨pB, 0, none⟩) := ht 5 rfl
            have m5 := cell_later hbw m5
            have c0 := cell_later hbw c0
            have c1 := cell_later hbw c1
            have c2 := cell_later hbw c2
            have c3 := cell_later hbw c3
            clear ht hdep hgl hpr
            go_simp
            exact hG _ _ (Below.refl _ _) rfl
        · exact .inl rfl
        · exact .inr (.inl rfl)
        · refine .inr (.inr ⟨can_no (by kernel_rfl), can_no (by kernel_rfl), fun _ => ?_⟩)
          · intro ρ w' hbw ht hcs hfn hgl hpr hdep G hG
            refine ⟨fun _ => ?_, fun h => by cases h⟩
            have d30 := hdep ⟨10, .data⟩ (by simp) rfl 30 rfl
            clear ht hdep hgl hpr
            go_simp
            exact hG _ _ (Below.refl _ _) d30
      · intro o ho
        obtain rfl := Option.some.inj ho
        intro ρ w' hbw ht hcs hfn hgl hpr hdep G hG
        replace hbw : Below w5.heap.size w5 w' := hbw
        refine ⟨fun _ => ?_, fun h => by cases h⟩
        have s26 : ρ (.tmp 26) = .pointer (some ⟨b, off + k, none⟩) := hdep ⟨6, .data⟩ (by simp) rfl 26 rfl
        have s27 : ρ (.tmp 27) = .int .i64 (q + 1) := hdep ⟨7, .data⟩ (by simp) rfl 27 rfl
        have s28 : ρ (.tmp 28) = .agg #[.int .i64 bx.x1, .int .i64 bx.y1, .int .i64 bx.x2, .int .i64 bx.y2] := hdep ⟨8, .data⟩ (by simp) rfl 28 rfl
        clear ht hdep hgl hpr
        go_simp
        refine (CS w' hbw).mono fun e w'' ⟨u, he, hoF, hb⟩ => ⟨_, he, hG _ _ (hbw.trans (hb.mono hbw.size)) hoF.arr ?_⟩
        intro j u hj hne h
        match j, h with
        | 0, h => exact h
        | 1, h => exact h
        | 2, h => exact h
        | 3, h => exact h
        | 4, h => exact h
        | 5, h => exact h
        | 6, h => exact h
        | 7, h => exact h
        | 8, h => exact h
        | 9, h => exact absurd rfl hne
        | 10, h => exact trivial
        | 11, h => exact h
        | (k + 12), h => exact h
      · intro o ho
        obtain rfl := Option.some.inj ho
        intro ρ w' hbw ht hcs hfn hgl hpr hdep G hG
        replace hbw : Below w5.heap.size w5 w' := hbw
        refine ⟨fun _ => ?_, fun h => by cases h⟩
        have s20 : ρ (.tmp 20) = .slice oa n oc := hdep ⟨0, .data⟩ (by simp) rfl 20 rfl
        have d29 := hdep ⟨9, .data⟩ (by simp) rfl 29 rfl
        clear ht hdep hgl hpr
        refine upon_appO _ _ 104 (by rfl) w3.heap.size 176 _ 24 infFeatF Tryz.underlying104 rfl _ Z s20 (hoZ.below hbw) F d29 (by rw [← HL.out, HFL.out]; unfold maxLen; omega) (by rw [← HL.out, HFL.out]; omega) (by have := hbw.size; omega) ?_
        intro v' wA hoA hgA hlA
        refine hG _ _ ((hbl.trans (hbw.mono hls)).grown hgA (by have := hbw.size; omega) (fun kk hh => (World.ownsRow.lt (hoZ.below hbw) kk hh).1)) hoA ?_
        intro j u hj hne hru h
        match j, h with
        | 0, h => exact h
        | 1, h => exact h
        | 2, h => exact h
        | 3, h => exact h
        | 4, h => exact h
        | 5, h => exact h
        | 6, h => exact h
        | 7, h => exact h
        | 8, h => exact h
        | 9, h => exact trivial
        | 10, h => exact absurd rfl hne
        | 11, h => exact h.elim
        | (k + 12), h => exact h
      intro xx w6 hF hx
      have HW := hx 11 (by simp)
      clear hx
      simp only [putAll, Act.put, List.setIfInBounds_toArray, List.set_cons_succ, List.set_cons_zero, Nat.zero_add, Nat.reduceAdd]
      have HWW := hid HW
      clear HW CS
      generalize xx 11 = u' at *
      generalize xx 10 = u8' at *
      generalize xx 9 = u9' at *
      go_wp2_with fail
      go_roundw
      case rel => exact ⟨k + 1, by omega, by go_num, by rw [← HT.out]; exact HWW.out, hF⟩
      case measure => simp [intOf]; omega
    · have hli : ¬ ((k : Int) < (X.length : Int)) := by omega
      have HE := hid (show k = X.length by omega)
      clear hll
      go_wp2_with fail
      go_ret
      exact ⟨_, rfl, by rw [HE.out, ← HFI.out] at ho; exact ho.mono (Nat.le_trans hlW hl3), hbW.trans ((hbW3.trans (hbl.mono hl3)).mono hlW)⟩
end Go.Proofs.YtlnoelbeaolikaaGreat
