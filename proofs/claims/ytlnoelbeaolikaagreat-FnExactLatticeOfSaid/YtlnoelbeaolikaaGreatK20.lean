/- The features of ink: both calls. -/
import Derived.Test.YtlnoelbeaolikaaGreatK19
import Derived.Test.YtlnoelbeaolikaaGreatK13
import Derived.Test.YtlnoelbeaolikaaGreatK08
import Derived.Test.YtlnoelbeaolikaaGreatRows
import Derived.Test.YtlnoelbeaolikaaGreatK02
import Derived.Test.YtlnoelbeaolikaaGreatK01
import Derived.Test.YtlnoelbeaolikaaGreatK05
import Derived.Test.YtlnoelbeaolikaaGreatK06
import Derived.Deep.RegionHeld3
import Derived.Test.YtlnoelbeaolikaaGreatK00
import Derived.Sort.Statements
import Derived.Test.YtlnoelbeaolikaaGreatK03
import Derived.Shelf.SlSortCmp.NoneTotal
import Derived.Test.YtlnoelbeaolikaaGreatK17
import Derived.IntWalk
import Derived.Deep.AppendLies
import Derived.Deep.DrawnRows
namespace Go.Proofs.YtlnoelbeaolikaaGreat
open Go.RowKit
noncomputable def featsTo (X : XInk) (b : DBox) (q : Nat) : Nat → List DFeat
 | 0 => []
 | k + 1 => featsTo X b q k ++ featsS ((X[k]?).getD []) b q
noncomputable def featsI (X : XInk) (q : Nat) : List DFeat := featsTo X (boxI X) q X.length
theorem featsS_len (x : XStroke) (b : DBox) (q : Nat) : (featsS x b q).length = q + 1 := featsP_len _ _ _
theorem featsTo_len (X : XInk) (b : DBox) (q : Nat) : ∀ k, (featsTo X b q k).length = k * (q + 1)
 | 0 => by simp [featsTo]
 | k + 1 => by
  show (featsTo X b q k ++ _).length = _
  rw [List.length_append, featsTo_len X b q k, featsS_len, Nat.add_mul, Nat.one_mul]
theorem featsTo_succ {X : XInk} {b : DBox} {q k : Nat} {x : XStroke} (h : X[k]? = some x) : featsTo X b q k ++ featsS x b q = featsTo X b q (k + 1) := by
 show _ = featsTo X b q k ++ featsS ((X[k]?).getD []) b q
 rw [h]; rfl
theorem featsI_len (X : XInk) (q : Nat) : (featsI X q).length = X.length * (q + 1) := featsTo_len _ _ _ _
theorem featsS_ok {x : XStroke} (hv : validSt x = true) {b : DBox} (hb : okBox b) (hl : boxLe b) {q : Nat} (hq : 1 ≤ q) : ∀ f ∈ featsS x b q, okF f := by
 intro f hf
 unfold featsS featsP at hf
 obtain ⟨i, hi, rfl⟩ := List.mem_map.1 hf
 have hi := List.mem_range.1 hi
 obtain ⟨p, hp⟩ : ∃ p, (spotsL x q (q + 1))[i]? = some p := ⟨_, spotsL_get x q hi⟩
 rw [featK_eq hp]
 have h1 := normP_bd (spotsL_ok hv hq hp) hb hl
 have h2 := dirTo_bd (spotsL x q (q + 1)) (i + 1)
 exact ⟨h1.1, h1.2.1, h1.2.2.1, h1.2.2.2, h2.1, h2.2⟩
theorem featsTo_ok {X : XInk} (hv : validInk X = true) {b : DBox} (hb : okBox b) (hl : boxLe b) {q : Nat} (hq : 1 ≤ q) : ∀ k, k ≤ X.length → ∀ f ∈ featsTo X b q k, okF f
 | 0, _ => fun f hf => by simp [featsTo] at hf
 | k + 1, hk => fun f hf => by
  obtain ⟨x, hx⟩ : ∃ x, X[k]? = some x := ⟨_, List.getElem?_eq_getElem (by omega)⟩
  rw [← featsTo_succ hx] at hf
  rcases List.mem_append.1 hf with h | h
  ·exact featsTo_ok hv hb hl hq k (by omega) f h
  ·exact featsS_ok (validInk_st hv hx) hb hl hq f h
theorem featsI_ok {X : XInk} (hv : validInk X = true) (h0 : 0 < X.length) {q : Nat} (hq : 1 ≤ q) : ∀ f ∈ featsI X q, okF f :=
 featsTo_ok hv (boxI_ok hv h0).1 (boxI_ok hv h0).2 hq _ (Nat.le_refl _)
set_option maxRecDepth 100000 in
set_option maxHeartbeats 4000000 in
theorem FeatsOf_any (v : Value) (X : XInk) (q : Nat) (w : World) (h : Strokes w v X) (ok : okInk X) (hv : validInk X = true) (h0 : 0 < X.length) (hq : 1 ≤ q) (hq2 : q ≤ 23) :
  Calls Tryz.prog 69 #[.agg #[v], .int .i64 (q + 1)] w (fun e w' => ∃ u, e = .returned (.tuple #[u, .int .i64 0]) ∧ Own eFeat 176 w.heap.size w' u (featsI X q) ∧ Below w.heap.size w w') := by
 have hX16 := validInk_len hv
 have h00 := h
 obtain ⟨b, off, ao, cap, us, rfl, hnc, hcm, hao, hcl, hul, hin⟩ := h.slice
 obtain ⟨hao', hbw⟩ := hao h0
 subst hao'
 unfold maxLen at hcm
 have HUL := hid hul
 have HIN := hid hin
 have HV := hid hv
 obtain ⟨hbo, hble⟩ := boxI_ok hv h0
 have HFI := hid (show featsI X q = featsTo X (boxI X) q X.length from rfl)
 clear hul hin hao h
 obtain ⟨W, hW⟩ : ∃ u, u = (w.alloc (.cells #[.slice (some ⟨b, off, none⟩) X.length cap] 41)) := ⟨_, rfl⟩
 have hbW : Below w.heap.size w W := by rw [hW]; exact belowA1 _ _
 have q1 : Box W (w.heap.size) #[.slice (some ⟨b, off, none⟩) X.length cap] 41 := by
  have hq := Box.new w #[.slice (some ⟨b, off, none⟩) X.length cap] 41
  rw [hW]
  exact hq
 obtain ⟨p1, hp1⟩ : ∃ p, p = w.heap.size := ⟨_, rfl⟩
 rw [← hp1] at q1
 have hge1 : w.heap.size ≤ p1 := by omega
 have hlW : w.heap.size ≤ W.heap.size := hbW.size
 have hlp1 : p1 < W.heap.size := q1.lt
 have HP1 := hid hp1
 have HW := hid hW
 clear hW hp1
 have m0 := q1.cell (j := 0) rfl
 have CV := implValidInk_any (.slice (some ⟨b, off, none⟩) X.length cap) X W (h00.below hbW) ok
 rw [hv] at CV
 have CI : ∀ w', Calls Tryz.prog 62 #[.int .i64 ((q : Int) + 1), .int .i64 2, .int .i64 24] w' fun e w'' => e = .returned (.bool true) ∧ w' = w'' := fun w' => by
  have := within_any ((q : Int) + 1) 2 24 w'
  rwa [show inB ((q : Int) + 1) 2 24 = true from inB_true.2 ⟨by omega, by omega⟩] at this
 have hn0 : ((X.length : Int) == 0) = false := by rw [beq_eq_false_iff_ne]; omega
 have hn1 : ¬ (X.length = 0) := by omega
 go_enter Tryz.func69, Tryz.ntmps69
 go_upto_region 1 with fail
 rw [← HP1.out, ← HW.out]
 go_wp2_with fail
 refine CV.mono ?_
 rintro e w1 ⟨rfl, hb1⟩
 have m1 := cell_later hb1 m0
 have hl1 := hb1.size
 have CB := boxOfInk_any (.slice (some ⟨b, off, none⟩) X.length cap) X w1 (h00.below (hbW.trans (hb1.mono hlW))) ok HV.out h0
 have hn2 : ¬ (List.length X = 0) := hn1
 clear CV hv
 go_wp2_with fail
 refine (CI _).mono ?_
 rintro e w' ⟨rfl, rfl⟩
 go_wp2_with fail
 unfold vBox at CB
 refine CB.mono ?_
 rintro e w2 ⟨rfl, hb2⟩
 have m2 := cell_later hb2 m1
 have hl2 := hb2.size
 obtain ⟨bx, hbx⟩ : ∃ bx, bx = boxI X := ⟨_, rfl⟩
 rw [← hbx] at hbo hble HFI ⊢
 have m2a := cell_alloc m2 (.cells #[.int .i64 bx.x1, .int .i64 bx.y1, .int .i64 bx.x2, .int .i64 bx.y2] 158)
 clear CB hbx
 go_upto_region 10 with fail
 obtain ⟨w3, hw3⟩ : ∃ u, u = w2.alloc (.cells #[.int .i64 bx.x1, .int .i64 bx.y1, .int .i64 bx.x2, .int .i64 bx.y2] 158) := ⟨_, rfl⟩
 obtain ⟨pB, hpB⟩ : ∃ p, p = w2.heap.size := ⟨_, rfl⟩
 have hb3 : Below w2.heap.size w2 w3 := by rw [hw3]; exact below_alloc _ _
 have qB : Box w3 pB #[.int .i64 bx.x1, .int .i64 bx.y1, .int .i64 bx.x2, .int .i64 bx.y2] 158 := by rw [hw3, hpB]; exact Box.new _ _ _
 rw [← hw3, ← hpB]
 have m3 := cell_later hb3 m2
 have b0 := qB.cell (j := 0) rfl
 have b1 := qB.cell (j := 1) rfl
 have b2 := qB.cell (j := 2) rfl
 have b3 := qB.cell (j := 3) rfl
 have hbW3 : Below W.heap.size W w3 := hb1.trans ((hb2.trans (hb3.mono hl2)).mono hl1)
 have hl3 : W.heap.size ≤ w3.heap.size := hbW3.size
 clear hw3 hpB m2a m2 m1
 obtain ⟨w4, hw4⟩ : ∃ u, u = w3 := ⟨_, rfl⟩
 have hb4 : Below w3.heap.size w3 w4 := by rw [hw4]; exact Below.refl _ _
 have ho4 : Own eFeat 176 w3.heap.size w4 (.slice none 0 0) (featsTo X bx q 0) := Own.nil _ _ _
 rw [← hw4]
 clear hw4
 go_loopw [7, 28] (fun u i wr => ∃ k : Nat, k ≤ X.length ∧ i = .int .i64 k ∧ Own eFeat 176 w3.heap.size wr u (featsTo X bx q k) ∧ Below w3.heap.size w3 wr) (fun _ i _ => X.length - (intOf i).toNat)
 case atStart => exact ⟨0, Nat.zero_le _, rfl, ho4, hb4⟩
 case round =>
  clear ho4
  obtain ⟨w5, rfl⟩ : ∃ u, u = wr := ⟨wr, rfl⟩
  obtain ⟨k, hk, rfl, ho, hbl⟩ := hrel
  have hll := featsTo_len X bx q k
  have m5 := cell_later hbl m3
  by_cases hlt : k < X.length
  ·have hli : (k : Int) < (X.length : Int) := by omega
   obtain ⟨x, hx⟩ : ∃ x, X[k]? = some x := ⟨_, List.getElem?_eq_getElem hlt⟩
   obtain ⟨sr, hsv⟩ : ∃ s, us[k]? = some s := ⟨_, List.getElem?_eq_getElem (by rw [HUL.out]; exact hlt)⟩
   have hb5W : Below W.heap.size W w5 := hbW3.trans (hbl.mono hl3)
   have hb5w : Below w.heap.size w w5 := hbW.trans (hb5W.mono hlW)
   have d0 := eS1_cells (hcl.below hb5w hbw) hsv
   have hAr := (HIN.out k sr x hsv hx).below hb5w
   have hvx := validInk_st HV.out hx
   have HT := hid (featsTo_succ (b := bx) (q := q) hx)
   have c0 := cell_later hbl b0
   have c1 := cell_later hbl b1
   have c2 := cell_later hbl b2
   have c3 := cell_later hbl b3
   obtain ⟨Z, hZ⟩ : ∃ Z, Z = featsTo X bx q k := ⟨_, rfl⟩
   rw [← hZ] at ho hll HT
   have hFl := featsS_len x bx q
   have hlen : Z.length ≤ 384 := by
    rw [hll]
    have := Nat.mul_le_mul (show k ≤ 16 by omega) (show q + 1 ≤ 24 by omega)
    omega
   obtain ⟨n, hn⟩ : ∃ n, n = Z.length := ⟨_, rfl⟩
   obtain ⟨oa, oc, hu⟩ := ho.isSlice
   rw [← hn] at hu hlen
   subst hu
   have HL := hid hn
   have hls := hbl.size
   have CS := fun w' (hb : Below w5.heap.size w5 w') => featsOfStroke_any _ x bx q w' (hAr.below hb) hvx hbo hble hq hq2
   obtain ⟨F, hF⟩ : ∃ F, F = featsS x bx q := ⟨_, rfl⟩
   rw [← hF] at CS HT hFl
   unfold vBox at CS
   have HFL := hid hFl
   clear hF hZ hll hx hsv hn hFl hAr
   go_upto_region 12 with fail
   obtain ⟨w6, hw6⟩ : ∃ u, u = w5.alloc (.cells #[.slice sr.a sr.n sr.c] 112) := ⟨_, rfl⟩
   obtain ⟨pS, hpS⟩ : ∃ p, p = w5.heap.size := ⟨_, rfl⟩
   rw [← hw6, ← hpS]
   have hb6 : Below w5.heap.size w5 w6 := by rw [hw6]; exact below_alloc _ _
   have qS : Box w6 pS #[.slice sr.a sr.n sr.c] 112 := by rw [hw6, hpS]; exact Box.new _ _ _
   have y0 := qS.cell (j := 0) rfl
   have c0 := cell_later hb6 c0
   have c1 := cell_later hb6 c1
   have c2 := cell_later hb6 c2
   have c3 := cell_later hb6 c3
   have hbl6 := hbl.trans (hb6.mono hls)
   have hs6 := hbl6.size
   have CS6 := CS w6 hb6
   clear hw6 hpS d0 CS
   go_wp2_with fail
   refine CS6.mono ?_
   rintro e w7 ⟨uF, rfl, hoF, hb7⟩
   have hbl7 := hbl6.trans (hb7.mono hs6)
   have hs7 := hbl7.size
   have ho7 := (ho.below hb6).below hb7
   obtain ⟨fa, fc, huF⟩ := hoF.isSlice
   rw [HFL.out] at huF
   subst huF
   go_wp2_with (at_builtin; (refine wpList_appA rfl _ _ 104 rfl w3.heap.size 176 _ 24 infFeatF Tryz.underlying104 rfl _ Z rfl ho7 _ F rfl hoF.arr (by rw [← HL.out, HFL.out]; unfold maxLen; omega) (by rw [← HL.out, HFL.out]; omega) hs7 ?_; intro v' wA hoA hbA htA))
   have hFF : Below w3.heap.size w3 wA := hbl7.trans hbA
   go_wp2_with fail
   go_roundw
   case rel => exact ⟨k + 1, by omega, by go_num, by rw [← HT.out]; exact hoA, hFF⟩
   case measure => simp [intOf]; omega
  ·have hli : ¬ ((k : Int) < (X.length : Int)) := by omega
   have HE := hid (show k = X.length by omega)
   clear hll
   go_wp2_with fail
   go_ret2
   exact ⟨_, rfl, by rw [HE.out, ← HFI.out] at ho; exact ho.mono (Nat.le_trans hlW hl3), hbW.trans ((hbW3.trans (hbl.mono hl3)).mono hlW)⟩
set_option maxRecDepth 100000 in
set_option maxHeartbeats 4000000 in
theorem l08Of_any (p0 o : Nat) (v : Value) (X : XInk) (q : Nat) (w : World) (hp : w.cell? ⟨p0, o, none⟩ = some v) (h : Strokes w v X) (ok : okInk X) (hv : validInk X = true) (h0 : 0 < X.length) (hq : 1 ≤ q) (hq2 : q ≤ 23) :
  Calls Tryz.prog 57 #[.pointer (some ⟨p0, o, none⟩), .int .i64 (q + 1)] w (RetOwn eFeat 176 (featsI X q) w) := by
 have hX16 := validInk_len hv
 have h00 := h
 obtain ⟨b, off, ao, cap, us, rfl, hnc, hcm, hao, hcl, hul, hin⟩ := h.slice
 obtain ⟨hao', hbw⟩ := hao h0
 subst hao'
 unfold maxLen at hcm
 have HUL := hid hul
 have HIN := hid hin
 have HV := hid hv
 obtain ⟨hbo, hble⟩ := boxI_ok hv h0
 have HFI := hid (show featsI X q = featsTo X (boxI X) q X.length from rfl)
 clear hul hin hao h
 obtain ⟨W, hWd⟩ : ∃ W, W = w := ⟨_, rfl⟩
 have hbW : Below w.heap.size w W := by rw [hWd]; exact Below.refl _ _
 have hlW : w.heap.size ≤ W.heap.size := hbW.size
 have m0 : W.cell? ⟨p0, o, none⟩ = some (.slice (some ⟨b, off, none⟩) X.length cap) := by rw [hWd]; exact hp
 obtain ⟨w1, hw1⟩ : ∃ u, u = W := ⟨_, rfl⟩
 have hb1 : Below W.heap.size W w1 := by rw [hw1]; exact Below.refl _ _
 have m1 := cell_later hb1 m0
 have hl1 := hb1.size
 have CB := l02All_any p0 o (.slice (some ⟨b, off, none⟩) X.length cap) X w1 m1 (h00.below (hbW.trans (hb1.mono hlW))) ok HV.out h0
 have HWd := hid hWd
 have Hw1 := hid hw1
 clear hWd hw1 hv
 go_enter Tryz.func57, Tryz.ntmps57
 go_upto_region 1 with fail
 rw [← HWd.out, ← Hw1.out]
 go_wp2_with fail
 unfold vBox at CB
 refine CB.mono ?_
 rintro e w2 ⟨rfl, hb2⟩
 have m2 := cell_later hb2 m1
 have hl2 := hb2.size
 obtain ⟨bx, hbx⟩ : ∃ bx, bx = boxI X := ⟨_, rfl⟩
 rw [← hbx] at hbo hble HFI ⊢
 have m2a := cell_alloc m2 (.cells #[.int .i64 bx.x1, .int .i64 bx.y1, .int .i64 bx.x2, .int .i64 bx.y2] 158)
 clear CB hbx
 go_upto_region 2 with fail
 obtain ⟨w3, hw3⟩ : ∃ u, u = w2.alloc (.cells #[.int .i64 bx.x1, .int .i64 bx.y1, .int .i64 bx.x2, .int .i64 bx.y2] 158) := ⟨_, rfl⟩
 obtain ⟨pB, hpB⟩ : ∃ p, p = w2.heap.size := ⟨_, rfl⟩
 have hb3 : Below w2.heap.size w2 w3 := by rw [hw3]; exact below_alloc _ _
 have qB : Box w3 pB #[.int .i64 bx.x1, .int .i64 bx.y1, .int .i64 bx.x2, .int .i64 bx.y2] 158 := by rw [hw3, hpB]; exact Box.new _ _ _
 rw [← hw3, ← hpB]
 have m3 := cell_later hb3 m2
 have b0 := qB.cell (j := 0) rfl
 have b1 := qB.cell (j := 1) rfl
 have b2 := qB.cell (j := 2) rfl
 have b3 := qB.cell (j := 3) rfl
 have hbW3 : Below W.heap.size W w3 := hb1.trans ((hb2.trans (hb3.mono hl2)).mono hl1)
 have hl3 : W.heap.size ≤ w3.heap.size := hbW3.size
 clear hw3 hpB m2a m2 m1
 go_upto_region 4 with fail
 obtain ⟨w4, hw4⟩ : ∃ u, u = w3.alloc (.cells #[] 176) := ⟨_, rfl⟩
 obtain ⟨pe, hpe⟩ : ∃ p, p = w3.heap.size := ⟨_, rfl⟩
 have hb4 : Below w3.heap.size w3 w4 := by rw [hw4]; exact below_alloc _ _
 have ho4 : Own eFeat 176 w3.heap.size w4 (.slice (some ⟨pe, 0, none⟩) 0 0) (featsTo X bx q 0) := by rw [hw4, hpe]; exact Own.empty _ _ (Nat.le_refl _)
 rw [← hw4, ← hpe]
 clear hw4 hpe
 go_loopw [6, 7] (fun u i wr => ∃ k : Nat, k ≤ X.length ∧ i = .int .i64 k ∧ Own eFeat 176 w3.heap.size wr u (featsTo X bx q k) ∧ Below w3.heap.size w3 wr) (fun _ i _ => X.length - (intOf i).toNat)
 case atStart => exact ⟨0, Nat.zero_le _, rfl, ho4, hb4⟩
 case round =>
  clear ho4
  obtain ⟨w5, rfl⟩ : ∃ u, u = wr := ⟨wr, rfl⟩
  obtain ⟨k, hk, rfl, ho, hbl⟩ := hrel
  have hll := featsTo_len X bx q k
  have m5 := cell_later hbl m3
  by_cases hlt : k < X.length
  ·have hli : (k : Int) < (X.length : Int) := by omega
   obtain ⟨x, hx⟩ : ∃ x, X[k]? = some x := ⟨_, List.getElem?_eq_getElem hlt⟩
   obtain ⟨sr, hsv⟩ : ∃ s, us[k]? = some s := ⟨_, List.getElem?_eq_getElem (by rw [HUL.out]; exact hlt)⟩
   have hb5W : Below W.heap.size W w5 := hbW3.trans (hbl.mono hl3)
   have hb5w : Below w.heap.size w w5 := hbW.trans (hb5W.mono hlW)
   have d0 := eS1_cells (hcl.below hb5w hbw) hsv
   have hAr := (HIN.out k sr x hsv hx).below hb5w
   have hvx := validInk_st HV.out hx
   have HT := hid (featsTo_succ (b := bx) (q := q) hx)
   have c0 := cell_later hbl b0
   have c1 := cell_later hbl b1
   have c2 := cell_later hbl b2
   have c3 := cell_later hbl b3
   obtain ⟨Z, hZ⟩ : ∃ Z, Z = featsTo X bx q k := ⟨_, rfl⟩
   rw [← hZ] at ho hll HT
   have hFl := featsS_len x bx q
   have hlen : Z.length ≤ 384 := by
    rw [hll]
    have := Nat.mul_le_mul (show k ≤ 16 by omega) (show q + 1 ≤ 24 by omega)
    omega
   obtain ⟨n, hn⟩ : ∃ n, n = Z.length := ⟨_, rfl⟩
   obtain ⟨oa, oc, hu⟩ := ho.isSlice
   rw [← hn] at hu hlen
   subst hu
   have HL := hid hn
   have hls := hbl.size
   have CS := fun w' (hb : Below w5.heap.size w5 w') => l08Stroke_any b (off + k) _ x bx q w' (cell_later hb d0) (hAr.below hb) hvx hbo hble hq hq2
   obtain ⟨F, hF⟩ : ∃ F, F = featsS x bx q := ⟨_, rfl⟩
   rw [← hF] at CS HT hFl
   unfold vBox at CS
   have HFL := hid hFl
   clear hF hZ hll hx hsv hn hFl hAr
   go_upto_region 6 with fail
   have hoZ := ho
   clear ho
   refine wp_region_stgy 9 10 (fun c w' => match c with | 0 => Below w5.heap.size w5 w' | 1 => Below w5.heap.size w5 w' | _ => Below w3.heap.size w3 w') (fun c i v w' => match i with
         | 0 => v = .slice oa n oc
         | 1 => v = .pointer (some ⟨p0, o, none⟩)
         | 2 => v = .pointer (some ⟨p0, o, none⟩)
         | 3 => v = .pointer (some ⟨p0, o, none⟩)
         | 4 => v = .slice (some ⟨b, off, none⟩) X.length cap
         | 5 => v = .int .i64 k
         | 6 => v = .pointer (some ⟨b, off + k, none⟩)
         | 7 => v = .int .i64 (q + 1)
         | 8 => v = .agg #[.int .i64 bx.x1, .int .i64 bx.y1, .int .i64 bx.x2, .int .i64 bx.y2]
         | 9 => (match c with | 0 => True | 1 => Arr eFeat w' v F | _ => True)
         | 10 => (match c with | 0 => True | 1 => True | _ => (Own eFeat 176 w3.heap.size w' v (Z ++ F)))
         | 11 => (match c with | 0 => False | 1 => False | _ => Own eFeat 176 w3.heap.size w' v (Z ++ F))
         | _ => True) (by kernel_rfl) (by kernel_rfl) (by kernel_rfl) (by kernel_rfl) (by kernel_rfl) ?_ ?_ ?_ ?_ ?_ ?_ (by decide) ?_
   ·exact (Below.refl _ w5).drew
   ·intro c w w' h hb
    match c, h with
    | 0, h => exact Below.trans (B := w5.heap.size) h (hb.mono (Below.size h))
    | 1, h => exact Below.trans (B := w5.heap.size) h (hb.mono (Below.size h))
    | (k + 2), h => exact (h.trans (hb.mono h.size))
   ·intro c i v w w' h hb
    match i, h with
    | 0, h => exact h
    | 1, h => exact h
    | 2, h => exact h
    | 3, h => exact h
    | 4, h => exact h
    | 5, h => exact h
    | 6, h => exact h
    | 7, h => exact h
    | 8, h => exact h
    | 9, h =>
     match c, h with
     | 0, h => exact trivial
     | 1, h => exact (h.below hb)
     | (k + 2), h => exact trivial
    | 10, h =>
     match c, h with
     | 0, h => exact trivial
     | 1, h => exact trivial
     | (k + 2), h => exact (h.below hb)
    | 11, h =>
     match c, h with
     | 0, h => exact h
     | 1, h => exact h
     | (k + 2), h => exact (h.below hb)
    | (k + 12), h => exact h
   ·refine ⟨?_, ?_, ?_, ?_, ?_, ?_, ?_, ?_, ?_, ?_, ?_, ?_, trivial⟩
    ·refine .inr (.inr ⟨fun _ => ?_, fun _ => ?_, can_no (by kernel_rfl)⟩)
     ·intro ρ w' hbw ht hcs hfn hgl hpr hdep G hG
      replace hbw : Below w5.heap.size w5 w' := hbw
      refine ⟨fun _ => ?_, fun h => by cases h⟩
      have s6 : ρ (.tmp 6) = .slice oa n oc := hpr 11 6 rfl (by kernel_rfl)
      clear ht hdep hgl hpr
      go_simp
      exact hG _ _ (Below.refl _ _) rfl
     ·intro ρ w' hbw ht hcs hfn hgl hpr hdep G hG
      replace hbw : Below w5.heap.size w5 w' := hbw
      refine ⟨fun _ => ?_, fun h => by cases h⟩
      have s6 : ρ (.tmp 6) = .slice oa n oc := hpr 11 6 rfl (by kernel_rfl)
      clear ht hdep hgl hpr
      go_simp
      exact hG _ _ (Below.refl _ _) rfl
    ·refine .inr (.inr ⟨fun _ => ?_, can_no (by kernel_rfl), can_no (by kernel_rfl)⟩)
     ·intro ρ w' hbw ht hcs hfn hgl hpr hdep G hG
      replace hbw : Below w5.heap.size w5 w' := hbw
      refine ⟨fun _ => ?_, fun h => by cases h⟩
      have s0 : ρ (.tmp 0) = .pointer (some ⟨p0, o, none⟩) := ht 0 rfl
      clear ht hdep hgl hpr
      go_simp
      exact hG _ _ (Below.refl _ _) rfl
    ·refine .inr (.inr ⟨fun _ => ?_, can_no (by kernel_rfl), can_no (by kernel_rfl)⟩)
     ·intro ρ w' hbw ht hcs hfn hgl hpr hdep G hG
      replace hbw : Below w5.heap.size w5 w' := hbw
      refine ⟨fun _ => ?_, fun h => by cases h⟩
      have s21 : ρ (.tmp 21) = .pointer (some ⟨p0, o, none⟩) := hdep ⟨1, .data⟩ (by simp) rfl 21 rfl
      clear ht hdep hgl hpr
      go_simp
      exact hG _ _ (Below.refl _ _) rfl
    ·refine .inr (.inr ⟨fun _ => ?_, can_no (by kernel_rfl), can_no (by kernel_rfl)⟩)
     ·intro ρ w' hbw ht hcs hfn hgl hpr hdep G hG
      replace hbw : Below w5.heap.size w5 w' := hbw
      refine ⟨fun _ => ?_, fun h => by cases h⟩
      have s22 : ρ (.tmp 22) = .pointer (some ⟨p0, o, none⟩) := hdep ⟨2, .data⟩ (by simp) rfl 22 rfl
      clear ht hdep hgl hpr
      go_simp
      exact hG _ _ (Below.refl _ _) rfl
    ·refine .inr (.inr ⟨fun _ => ?_, can_no (by kernel_rfl), can_no (by kernel_rfl)⟩)
     ·intro ρ w' hbw ht hcs hfn hgl hpr hdep G hG
      replace hbw : Below w5.heap.size w5 w' := hbw
      refine ⟨fun _ => ?_, fun h => by cases h⟩
      have s23 : ρ (.tmp 23) = .pointer (some ⟨p0, o, none⟩) := hdep ⟨3, .data⟩ (by simp) rfl 23 rfl
      have m5 := cell_later hbw m5
      have c0 := cell_later hbw c0
      have c1 := cell_later hbw c1
      have c2 := cell_later hbw c2
      have c3 := cell_later hbw c3
      clear ht hdep hgl hpr
      go_simp
      exact hG _ _ (Below.refl _ _) rfl
    ·refine .inr (.inr ⟨fun _ => ?_, can_no (by kernel_rfl), can_no (by kernel_rfl)⟩)
     ·intro ρ w' hbw ht hcs hfn hgl hpr hdep G hG
      replace hbw : Below w5.heap.size w5 w' := hbw
      refine ⟨fun _ => ?_, fun h => by cases h⟩
      have s7 : ρ (.tmp 7) = .int .i64 k := ht 7 rfl
      clear ht hdep hgl hpr
      go_simp
      exact hG _ _ (Below.refl _ _) rfl
    ·refine .inr (.inr ⟨fun _ => ?_, can_no (by kernel_rfl), can_no (by kernel_rfl)⟩)
     ·intro ρ w' hbw ht hcs hfn hgl hpr hdep G hG
      replace hbw : Below w5.heap.size w5 w' := hbw
      refine ⟨fun _ => ?_, fun h => by cases h⟩
      have s24 : ρ (.tmp 24) = .slice (some ⟨b, off, none⟩) X.length cap := hdep ⟨4, .data⟩ (by simp) rfl 24 rfl
      have s25 : ρ (.tmp 25) = .int .i64 k := hdep ⟨5, .data⟩ (by simp) rfl 25 rfl
      clear ht hdep hgl hpr
      go_simp
      exact hG _ _ (Below.refl _ _) rfl
    ·refine .inr (.inr ⟨fun _ => ?_, can_no (by kernel_rfl), can_no (by kernel_rfl)⟩)
     ·intro ρ w' hbw ht hcs hfn hgl hpr hdep G hG
      replace hbw : Below w5.heap.size w5 w' := hbw
      refine ⟨fun _ => ?_, fun h => by cases h⟩
      have s1 : ρ (.tmp 1) = .int .i64 (q + 1) := ht 1 rfl
      clear ht hdep hgl hpr
      go_simp
      exact hG _ _ (Below.refl _ _) rfl
    ·refine .inr (.inr ⟨fun _ => ?_, can_no (by kernel_rfl), can_no (by kernel_rfl)⟩)
     ·intro ρ w' hbw ht hcs hfn hgl hpr hdep G hG
      replace hbw : Below w5.heap.size w5 w' := hbw
      refine ⟨fun _ => ?_, fun h => by cases h⟩
      have s5 : ρ (.tmp 5) = .pointer (some ⟨pB, 0, none⟩) := ht 5 rfl
      have m5 := cell_later hbw m5
      have c0 := cell_later hbw c0
      have c1 := cell_later hbw c1
      have c2 := cell_later hbw c2
      have c3 := cell_later hbw c3
      clear ht hdep hgl hpr
      go_simp
      exact hG _ _ (Below.refl _ _) rfl
    ·exact .inl rfl
    ·exact .inr (.inl rfl)
    ·refine .inr (.inr ⟨can_no (by kernel_rfl), can_no (by kernel_rfl), fun _ => ?_⟩)
     ·intro ρ w' hbw ht hcs hfn hgl hpr hdep G hG
      refine ⟨fun _ => ?_, fun h => by cases h⟩
      have d30 := hdep ⟨10, .data⟩ (by simp) rfl 30 rfl
      clear ht hdep hgl hpr
      go_simp
      exact hG _ _ (Below.refl _ _) d30
   ·intro o ho
    obtain rfl := Option.some.inj ho
    intro ρ w' hbw ht hcs hfn hgl hpr hdep G hG
    replace hbw : Below w5.heap.size w5 w' := hbw
    refine ⟨fun _ => ?_, fun h => by cases h⟩
    have s26 : ρ (.tmp 26) = .pointer (some ⟨b, off + k, none⟩) := hdep ⟨6, .data⟩ (by simp) rfl 26 rfl
    have s27 : ρ (.tmp 27) = .int .i64 (q + 1) := hdep ⟨7, .data⟩ (by simp) rfl 27 rfl
    have s28 : ρ (.tmp 28) = .agg #[.int .i64 bx.x1, .int .i64 bx.y1, .int .i64 bx.x2, .int .i64 bx.y2] := hdep ⟨8, .data⟩ (by simp) rfl 28 rfl
    clear ht hdep hgl hpr
    go_simp
    refine (CS w' hbw).mono fun e w'' ⟨u, he, hoF, hb⟩ => ⟨_, he, hG _ _ (hbw.trans (hb.mono hbw.size)) hoF.arr ?_⟩
    intro j u hj hne h
    match j, h with
    | 0, h => exact h
    | 1, h => exact h
    | 2, h => exact h
    | 3, h => exact h
    | 4, h => exact h
    | 5, h => exact h
    | 6, h => exact h
    | 7, h => exact h
    | 8, h => exact h
    | 9, h => exact absurd rfl hne
    | 10, h => exact trivial
    | 11, h => exact h
    | (k + 12), h => exact h
   ·intro o ho
    obtain rfl := Option.some.inj ho
    intro ρ w' hbw ht hcs hfn hgl hpr hdep G hG
    replace hbw : Below w5.heap.size w5 w' := hbw
    refine ⟨fun _ => ?_, fun h => by cases h⟩
    have s20 : ρ (.tmp 20) = .slice oa n oc := hdep ⟨0, .data⟩ (by simp) rfl 20 rfl
    have d29 := hdep ⟨9, .data⟩ (by simp) rfl 29 rfl
    clear ht hdep hgl hpr
    refine upon_appO _ _ 104 (by rfl) w3.heap.size 176 _ 24 infFeatF Tryz.underlying104 rfl _ Z s20 (hoZ.below hbw) F d29 (by rw [← HL.out, HFL.out]; unfold maxLen; omega) (by rw [← HL.out, HFL.out]; omega) (by have := hbw.size; omega) ?_
    intro v' wA hoA hgA hlA
    refine hG _ _ ((hbl.trans (hbw.mono hls)).grown hgA (by have := hbw.size; omega) (fun kk hh => (World.ownsRow.lt (hoZ.below hbw) kk hh).1)) hoA ?_
    intro j u hj hne hru h
    match j, h with
    | 0, h => exact h
    | 1, h => exact h
    | 2, h => exact h
    | 3, h => exact h
    | 4, h => exact h
    | 5, h => exact h
    | 6, h => exact h
    | 7, h => exact h
    | 8, h => exact h
    | 9, h => exact trivial
    | 10, h => exact absurd rfl hne
    | 11, h => exact h.elim
    | (k + 12), h => exact h
   intro xx w6 hF hx
   have HW := hx 11 (by simp)
   clear hx
   simp only [putAll, Act.put, List.setIfInBounds_toArray, List.set_cons_succ, List.set_cons_zero, Nat.zero_add, Nat.reduceAdd]
   have HWW := hid HW
   clear HW CS
   generalize xx 11 = u' at *
   generalize xx 10 = u8' at *
   generalize xx 9 = u9' at *
   go_wp2_with fail
   go_roundw
   case rel => exact ⟨k + 1, by omega, by go_num, by rw [← HT.out]; exact HWW.out, hF⟩
   case measure => simp [intOf]; omega
  ·have hli : ¬ ((k : Int) < (X.length : Int)) := by omega
   have HE := hid (show k = X.length by omega)
   clear hll
   go_wp2_with fail
   go_ret
   exact ⟨_, rfl, by rw [HE.out, ← HFI.out] at ho; exact ho.mono (Nat.le_trans hlW hl3), hbW.trans ((hbW3.trans (hbl.mono hl3)).mono hlW)⟩
end Go.Proofs.YtlnoelbeaolikaaGreat
namespace Go.Proofs.YtlnoelbeaolikaaGreat
open Go.RowKit
structure DHyp where
 label : ByteArray
 cost : Int
def eHyp : Enc DHyp := ⟨fun x => [.string x.label, .int .i64 x.cost], 2, fun _ => rfl, by decide, fun x u hu => by simp at hu; rcases hu with rfl | rfl <;> rfl⟩
theorem eHyp_cells {w : World} {b off : Nat} {es : List DHyp} (h : Cells eHyp w b off es) {k : Nat} {x : DHyp} (hx : es[k]? = some x) :
  w.cell? ⟨b, off + k * 2, none⟩ = some (.string x.label) ∧ w.cell? ⟨b, off + k * 2 + 1, none⟩ = some (.int .i64 x.cost) :=
 ⟨h k x hx 0 _ rfl, h k x hx 1 _ rfl⟩
end Go.Proofs.YtlnoelbeaolikaaGreat
namespace Go.Proofs.YtlnoelbeaolikaaGreat
open Go.ChangeShapes Go.WideShapes Go.ChangeAt Go.RowKit Go.Deep
end Go.Proofs.YtlnoelbeaolikaaGreat
namespace Go.Proofs.YtlnoelbeaolikaaGreat
open Go.RowKit
def ordH (a b : DHyp) : Int := if a.cost ≠ b.cost then cmpI a.cost b.cost else cmpB a.label b.label
theorem ordH_or (a b : DHyp) : orL [cmpI a.cost b.cost, cmpB a.label b.label] = ordH a b := by
 unfold ordH
 by_cases h1 : a.cost = b.cost
 ·rw [if_neg (by simpa using h1), h1, orL, if_pos (cmpI_self _), orL]
  split
  ·rename_i h; rw [h]; rfl
  ·rfl
 ·rw [if_pos h1, orL, if_neg (cmpI_ne h1)]
set_option maxHeartbeats 1000000 in
theorem l13Before_any (a b : DHyp) (w : World) :
  Calls Tryz.prog 97 #[.agg #[.string a.label, .int .i64 a.cost], .agg #[.string b.label, .int .i64 b.cost]] w (Ret (.bool (decide (ordH a b < 0))) w) := by
 have hb0 : Below w.heap.size w ((w.alloc (.cells #[.string a.label, .int .i64 a.cost] 76)).alloc (.cells #[.string b.label, .int .i64 b.cost] 76)) := (below_alloc _ _).trans ((below_alloc _ _).mono (by simp))
 by_cases h1 : a.cost < b.cost
 ·have HV : Hid (decide (ordH a b < 0) = true) := by show _ = true; simp [ordH, cmpI, h1]; omega
  have g1 : decide (a.cost < b.cost) = true := by simpa using h1
  go_enter Tryz.func97, Tryz.ntmps97
  go_wp2
  go_ret
  exact ret_bool HV.out.symm hb0
 have g1 : decide (a.cost < b.cost) = false := by simpa using h1
 by_cases h2 : a.cost = b.cost
 ·have g2 : (a.cost == b.cost) = true := by rw [beq_iff_eq]; exact h2
  have HV : Hid (decide (ordH a b < 0) = ltB a.label b.label) := by
   show _ = _
   rw [ordH, if_neg (by simpa using h2)]
   unfold cmpB
   cases ltB a.label b.label <;> simp
   split <;> omega
  clear h2 h1
  cases h3 : Op.bytesLess a.label.toList b.label.toList
  all_goals
   go_enter Tryz.func97, Tryz.ntmps97
   go_wp2
   go_ret
   exact ret_bool (by rw [HV.out]; exact h3.symm) hb0
 ·have g2 : (a.cost == b.cost) = false := by rw [beq_eq_false_iff_ne]; exact h2
  have HV : Hid (decide (ordH a b < 0) = false) := by
   show _ = false
   rw [ordH, if_pos h2, decide_eq_false_iff_not]
   unfold cmpI
   rw [if_neg h1]
   split <;> omega
  clear h2 h1
  go_enter Tryz.func97, Tryz.ntmps97
  go_wp2
  go_ret
  exact ret_bool HV.out.symm hb0
theorem before_is {a b : DHyp} {c : Bool} (h : decide (ordH a b < 0) = c) (w : World) : Calls Tryz.prog 97 #[.agg #[.string a.label, .int .i64 a.cost], .agg #[.string b.label, .int .i64 b.cost]] w (Ret (.bool c) w) := by
 subst h; exact l13Before_any _ _ _
end Go.Proofs.YtlnoelbeaolikaaGreat
namespace Go.Proofs.YtlnoelbeaolikaaGreat
open Go.Sort
/-- where an element belongs, looked for from the place k down -/
def posE {α : Type} (lt : α → α → Bool) (f : α) (out : List α) : Nat → Nat
 | 0 => 0
 | k + 1 => match out[k]? with
  | some a => if lt f a then posE lt f out k else k + 1
  | none => k + 1
def insE {α : Type} (lt : α → α → Bool) (out : List α) (f : α) : List α := out.take (posE lt f out out.length) ++ f :: out.drop (posE lt f out out.length)
theorem posE_le {α : Type} (lt : α → α → Bool) (f : α) (out : List α) : ∀ k, posE lt f out k ≤ k
 | 0 => Nat.le_refl _
 | k + 1 => by
  unfold posE
  split
  ·split
   ·have := posE_le lt f out k; omega
   ·exact Nat.le_refl _
  ·exact Nat.le_refl _
theorem posE_above {α : Type} (lt : α → α → Bool) (f : α) (out : List α) : ∀ k, k ≤ out.length → ∀ i a, posE lt f out k ≤ i → i < k → out[i]? = some a → lt f a = true
 | 0, _, i, a, _, h, _ => by omega
 | k + 1, hk, i, a, h1, h2, ha => by
  unfold posE at h1
  obtain ⟨b, hb⟩ : ∃ b, out[k]? = some b := ⟨_, List.getElem?_eq_getElem (by omega)⟩
  simp only [hb] at h1
  by_cases hl : lt f b = true
  ·rw [if_pos hl] at h1
   by_cases e : i = k
   ·subst e; rw [hb] at ha; cases ha; exact hl
   ·exact posE_above lt f out k (by omega) i a h1 (by omega) ha
  ·rw [if_neg hl] at h1; omega
theorem posE_stop {α : Type} (lt : α → α → Bool) (f : α) (out : List α) : ∀ k, k ≤ out.length → ∀ a, 0 < posE lt f out k → out[posE lt f out k - 1]? = some a → lt f a = false
 | 0, _, a, h, _ => by simp [posE] at h
 | k + 1, hk, a, h, ha => by
  obtain ⟨b, hb⟩ : ∃ b, out[k]? = some b := ⟨_, List.getElem?_eq_getElem (by omega)⟩
  by_cases hl : lt f b = true
  ·have e : posE lt f out (k + 1) = posE lt f out k := by rw [posE]; simp only [hb]; rw [if_pos hl]
   rw [e] at h ha
   exact posE_stop lt f out k (by omega) a h ha
  ·have e : posE lt f out (k + 1) = k + 1 := by rw [posE]; simp only [hb]; rw [if_neg hl]
   rw [e, Nat.add_sub_cancel, hb] at ha
   cases ha
   simpa using hl
/-- no later one is less than an earlier one -/
def Up {α : Type} (lt : α → α → Bool) (l : List α) : Prop := l.Pairwise fun a b => lt b a = false
theorem insE_perm {α : Type} (lt : α → α → Bool) (out : List α) (f : α) : (insE lt out f).Perm (f :: out) := by
 unfold insE
 refine List.perm_middle.trans (List.Perm.cons f ?_)
 rw [List.take_append_drop]
theorem insE_len {α : Type} (lt : α → α → Bool) (out : List α) (f : α) : (insE lt out f).length = out.length + 1 := by
 rw [(insE_perm lt out f).length_eq]; rfl
theorem insE_up {α : Type} {lt : α → α → Bool} (hO : SWO lt) {out : List α} (h : Up lt out) (f : α) : Up lt (insE lt out f) := by
 unfold insE
 generalize hp : posE lt f out out.length = p
 have hple : p ≤ out.length := by rw [← hp]; exact posE_le _ _ _ _
 have habove : ∀ a ∈ out.drop p, lt f a = true := by
  intro a ha
  obtain ⟨i, hi⟩ := List.mem_iff_getElem?.1 ha
  rw [List.getElem?_drop] at hi
  exact posE_above lt f out out.length (Nat.le_refl _) (p + i) a (by omega) (List.getElem?_eq_some_iff.1 hi).1 hi
 have hasy : ∀ a, lt f a = true → lt a f = false := by
  intro a ha
  cases hb : lt a f with
  | false => rfl
  | true => have := hO.trans _ _ _ ha hb; rw [hO.irrefl] at this; cases this
 have hbelow : ∀ a ∈ out.take p, lt f a = false := by
  intro a ha
  obtain ⟨i, hi⟩ := List.mem_iff_getElem?.1 ha
  rw [List.getElem?_take] at hi
  split at hi
  ·rename_i hip
   obtain ⟨b, hb⟩ : ∃ b, out[p - 1]? = some b := ⟨_, List.getElem?_eq_getElem (by omega)⟩
   have hs := posE_stop lt f out out.length (Nat.le_refl _) b (by omega) (by rw [hp]; exact hb)
   by_cases e : i = p - 1
   ·subst e; rw [hb] at hi; cases hi; exact hs
   ·obtain ⟨i1, r1⟩ := List.getElem?_eq_some_iff.1 hi
    obtain ⟨i2, r2⟩ := List.getElem?_eq_some_iff.1 hb
    subst r1; subst r2
    have hu := List.pairwise_iff_getElem.1 h i (p - 1) i1 i2 (by omega)
    exact hO.ntrans _ _ _ hs hu
  ·cases hi
 have h0 : Up lt (out.take p ++ out.drop p) := by rw [List.take_append_drop]; exact h
 obtain ⟨h1, h2, h3⟩ := List.pairwise_append.1 h0
 refine List.pairwise_append.2 ⟨h1, List.pairwise_cons.2 ⟨fun a ha => hasy a (habove a ha), h2⟩, fun a ha b hb => ?_⟩
 rcases List.mem_cons.1 hb with rfl | hb
 ·exact hbelow a ha
 ·exact h3 a ha b hb
theorem fold_ins {α : Type} {lt : α → α → Bool} (hO : SWO lt) : ∀ (l out : List α), Up lt out → Up lt (l.foldl (insE lt) out) ∧ (l.foldl (insE lt) out).Perm (l ++ out)
 | [], out, h => ⟨h, List.Perm.refl _⟩
 | f :: l, out, h => by
  have ih := fold_ins hO l _ (insE_up hO h f)
  refine ⟨ih.1, ih.2.trans ?_⟩
  refine (List.Perm.append_left l (insE_perm lt out f)).trans ?_
  exact List.perm_middle
/-- there is one sorted list -/
theorem up_unique {α : Type} {lt : α → α → Bool} : ∀ (l m : List α), l.Perm m → Up lt l → Up lt m → (∀ a ∈ l, ∀ b ∈ l, lt a b = false → lt b a = false → a = b) → l = m
 | [], m, hp, _, _, _ => by rw [List.nil_perm] at hp; exact hp.symm
 | a :: l, m, hp, h1, h2, hd => by
  cases m with
  | nil => exact absurd hp.length_eq (by simp)
  | cons b m =>
   have ha : a ∈ b :: m := hp.subset List.mem_cons_self
   have hb : b ∈ a :: l := hp.symm.subset List.mem_cons_self
   have e : a = b := by
    rcases List.mem_cons.1 ha with e | ha'
    ·exact e
    ·rcases List.mem_cons.1 hb with e | hb'
     ·exact e.symm
     ·exact hd a List.mem_cons_self b (List.mem_cons_of_mem _ hb') ((List.pairwise_cons.1 h2).1 a ha') ((List.pairwise_cons.1 h1).1 b hb')
   subst e
   rw [up_unique l m (List.Perm.cons_inv hp) (List.pairwise_cons.1 h1).2 (List.pairwise_cons.1 h2).2 (fun x hx y hy => hd x (List.mem_cons_of_mem _ hx) y (List.mem_cons_of_mem _ hy))]
end Go.Proofs.YtlnoelbeaolikaaGreat
namespace Go.Proofs.YtlnoelbeaolikaaGreat
open Go.RowKit Go.Sort
theorem flatK_flat {α : Type} [Inhabited α] (E : Enc α) (d : Array α) : (flatK E.row E.sz d).toList = E.flat d.toList := by
 apply List.ext_getElem?
 intro t
 rw [Enc.flat_get']
 by_cases ht : t < d.size * E.sz
 ·have hpos : 0 < E.sz := E.pos
  have hlt : t / E.sz < d.size := by rw [Nat.div_lt_iff_lt_mul hpos]; exact ht
  have e1 : (flatK E.row E.sz d).toList[t]? = some (flatK E.row E.sz d)[t]! := by
   have hz : t < (flatK E.row E.sz d).size := by rw [size_flatK]; exact ht
   rw [Array.getElem?_toList, Array.getElem?_eq_getElem hz, getElem!_pos (flatK E.row E.sz d) t hz]
  rw [e1, get_flatK _ _ _ t ht]
  have e2 : d.toList[t / E.sz]? = some d[t / E.sz]! := by
   rw [Array.getElem?_toList, Array.getElem?_eq_getElem hlt, getElem!_pos d (t / E.sz) hlt]
  rw [e2]
  have hm : t % E.sz < (E.row d[t / E.sz]!).length := by rw [E.len]; exact Nat.mod_lt _ hpos
  simp [List.getElem?_eq_getElem hm]
 ·have e1 : (flatK E.row E.sz d).toList[t]? = none := by
   rw [Array.getElem?_toList, Array.getElem?_eq_none (by rw [size_flatK]; omega)]
  rw [e1]
  rcases Nat.eq_zero_or_pos E.sz with h | h
  ·have := E.pos; omega
  ·have : d.size ≤ t / E.sz := by rw [Nat.le_div_iff_mul_le h]; omega
   rw [List.getElem?_eq_none (by simpa using this)]; rfl
theorem heap_sortK {w : World} {g n : Nat} {os : Array Obj} {cur : Array Value} {e : TypeId} {fr : Nat × Nat} (F : Array Value) (hb : w.heap[g]? = some (.cells cur e fr)) :
  (grow (putRow id (Sort.ahead w n) g 0 F) os).heap[g]? = some (.cells (putCells id 0 F cur) e fr) := by
 have hg : g < w.heap.size := (Array.getElem?_eq_some_iff.1 hb).1
 rw [heap_grow_old _ _ (by simpa using hg)]
 simp [putRow, mapBlock, Sort.ahead, Array.getElem?_modify, hb, onCells]
theorem grownBy_sortK {w : World} {g n : Nat} {os : Array Obj} (F : Array Value) : w.grownBy (grow (putRow id (Sort.ahead w n) g 0 F) os) (some g) := by
 refine ⟨rfl, rfl, rfl, by simp, fun k hk hne => ?_⟩
 rw [heap_grow_old _ _ (by simpa using hk)]
 have : g ≠ k := fun e => hne (by rw [e])
 simp [putRow, mapBlock, Sort.ahead, Array.getElem?_modify, this]
theorem take_putCellsK (cur F : Array Value) (h : F.size ≤ cur.size) : (putCells id 0 F cur).toList.take F.size = F.toList := by
 apply List.ext_getElem?
 intro j
 by_cases hj : j < F.size
 ·rw [List.getElem?_take_of_lt hj, Array.getElem?_toList]
  simp [putCells, hj, show j < cur.size by omega]
 ·rw [List.getElem?_take_eq_none (by omega), List.getElem?_eq_none (by simp; omega)]
theorem own_holds {α : Type} [Inhabited α] {E : Enc α} {e : TypeId} {B g cap n : Nat} {w : World} {X : List α} (h : Own E e B w (.slice (some ⟨g, 0, none⟩) n cap) X) (hn : n = X.length) : HoldsK E.row E.sz w g 0 X.toArray := by
 subst hn
 intro j hj
 have hj' : j < X.length * E.sz := by simpa using hj
 refine ⟨?_, ?_⟩
 ·rw [Nat.zero_add, World.ownsRow.cellAt h _ hj']
  have e1 := flatK_flat E X.toArray
  have : (flatK E.row E.sz X.toArray)[j]! = (flatK E.row E.sz X.toArray)[j] := getElem!_pos _ j (by simpa using hj')
  rw [this]
  have e2 : (E.flat X)[j]? = some ((flatK E.row E.sz X.toArray)[j]'(by simpa using hj')) := by
   rw [← (show (flatK E.row E.sz X.toArray).toList = E.flat X from e1), Array.getElem?_toList, Array.getElem?_eq_getElem]
  rw [e2]; rfl
 ·rw [Nat.zero_add]; exact h.free rfl _
theorem own_sorted {α : Type} [Inhabited α] {E : Enc α} {e : TypeId} {B g cap k n : Nat} {w : World} {X Y : List α} {os : Array Obj} (h : Own E e B w (.slice (some ⟨g, 0, none⟩) k cap) X) (hk : k = X.length) (hl : Y.length = X.length) :
  Own E e B (sortWorldK E.row E.sz w g 0 n Y.toArray os) (.slice (some ⟨g, 0, none⟩) k cap) Y ∧ w.grownBy (sortWorldK E.row E.sz w g 0 n Y.toArray os) (some g) := by
 subst hk
 obtain ⟨h1, h2⟩ := h
 refine ⟨?_, grownBy_sortK _⟩
 rcases h2 with ⟨h0, _⟩ | ⟨g', cap', cur, hv, hg, hb, hn, hc, hs, ht⟩
 ·cases h0
 cases hv
 have e1 : (flatK E.row E.sz Y.toArray).toList = E.flat Y := flatK_flat E Y.toArray
 have hF : (flatK E.row E.sz Y.toArray).size = X.length * E.sz := by simp [hl]
 have hle : (flatK E.row E.sz Y.toArray).size ≤ cur.size := by rw [hF, hs]; exact Nat.mul_le_mul_right _ hn
 refine ⟨by rw [E.flat_len, hl], .inr ⟨g, cap, _, by rw [hl], hg, heap_sortK _ hb, by rw [hl]; exact hn, hc, by simp [putCells, hs], ?_⟩⟩
 have := take_putCellsK cur _ hle
 rw [hF, ← hl] at this
 rw [this, e1]
end Go.Proofs.YtlnoelbeaolikaaGreat
namespace Go.Proofs.YtlnoelbeaolikaaGreat
open Go.Sort
def ltH (a b : DHyp) : Bool := decide (ordH a b < 0)
def smH (a b : DHyp) : Bool := eqS a.label b.label
theorem smH_iff {a b : DHyp} : smH a b = true ↔ a.label.toList = b.label.toList := by unfold smH eqS; exact beq_iff_eq
theorem ltH_spec (a b : DHyp) : ltH a b = if a.cost = b.cost then ltB a.label b.label else decide (a.cost < b.cost) := by
 unfold ltH ordH
 by_cases h : a.cost = b.cost
 ·rw [if_pos h, if_neg (by simpa using h)]
  unfold cmpB
  cases h3 : ltB a.label b.label
  ·cases h4 : eqS a.label b.label <;> simp
  ·simp
 ·rw [if_neg h, if_pos h]
  unfold cmpI
  by_cases h4 : a.cost < b.cost
  ·simp [h4]
  ·have : b.cost < a.cost := by omega
   simp [h4, this]
theorem ltB_ntransH {a b c : ByteArray} (h : ltB a b = false) (k : ltB b c = false) : ltB a c = false := by
 unfold ltB at *; rw [bless_eq] at *; simp at *; exact List.le_trans k h
theorem swoH : SWO ltH where
 irrefl a := by rw [ltH_spec]; simp [ltB_irrefl]
 trans a b c h1 h2 := by
  rw [ltH_spec] at *
  split at h1 <;> split at h2 <;> (try simp only [decide_eq_true_eq] at h1) <;> (try simp only [decide_eq_true_eq] at h2)
  all_goals (first
   | (rw [if_pos (by omega)]; exact ltB_trans h1 h2)
   | (rw [if_neg (by omega)]; simp; omega))
 ntrans a b c h1 h2 := by
  rw [ltH_spec] at *
  split at h1 <;> split at h2 <;> (try simp only [decide_eq_false_iff_not] at h1) <;> (try simp only [decide_eq_false_iff_not] at h2)
  all_goals (first
   | (rw [if_pos (by omega)]; exact ltB_ntransH h1 h2)
   | (rw [if_neg (by omega)]; simp; omega))
theorem ltH_tie {a b : DHyp} (h1 : ltH a b = false) (h2 : ltH b a = false) : a = b := by
 rw [ltH_spec] at *
 by_cases h3 : a.cost = b.cost
 ·rw [if_pos h3] at h1
  rw [if_pos h3.symm] at h2
  have h4 := ltB_or h1 h2
  obtain ⟨la, ca⟩ := a
  obtain ⟨lb, cb⟩ := b
  simp only at h3 h4
  subst h3
  have : la = lb := by
   cases la; cases lb
   rw [ByteArray.mk.injEq]
   rw [ByteArray.toList_eq, ByteArray.toList_eq] at h4
   exact Array.toList_inj.1 h4
  rw [this]
 ·rw [if_neg h3] at h1
  rw [if_neg (Ne.symm h3)] at h2
  simp at h1 h2; omega
theorem ltH_same {a b : DHyp} (h : smH a b = true) : ltH a b = decide (a.cost < b.cost) := by
 rw [ltH_spec]
 split
 ·rename_i h1
  rw [(ltB_congr (smH_iff.1 h)).1, ltB_irrefl]
  simp; omega
 ·rfl
theorem best_in {e : DHyp} : ∀ (n : Nat) (l : List DHyp), l.length ≤ n → ∀ z ∈ l, smH z e = true → ∃ b ∈ l, smH b e = true ∧ ∀ y ∈ l, smH y e = true → ltH y b = false := by
 intro n
 induction n with
 | zero =>
  intro l hl z hz
  cases l with
  | nil => cases hz
  | cons a t => simp at hl
 | succ n ih =>
  intro l hl z hz hze
  cases l with
  | nil => cases hz
  | cons a t =>
   by_cases hex : ∃ y ∈ t, smH y e = true
   ·obtain ⟨y, hy, hye⟩ := hex
    obtain ⟨b, hb, hbe, hbm⟩ := ih t (by simp at hl; omega) y hy hye
    by_cases hab : smH a e = true ∧ ltH a b = true
    ·refine ⟨a, List.mem_cons_self, hab.1, fun y hy hye => ?_⟩
     rcases List.mem_cons.1 hy with rfl | hy
     ·exact swoH.irrefl _
     ·cases hya : ltH y a with
      | false => rfl
      | true => have h1 := swoH.trans _ _ _ hya hab.2; rw [hbm y hy hye] at h1; cases h1
    ·refine ⟨b, List.mem_cons_of_mem _ hb, hbe, fun y hy hye => ?_⟩
     rcases List.mem_cons.1 hy with rfl | hy
     ·cases hyb : ltH y b with
      | false => rfl
      | true => exact absurd ⟨hye, hyb⟩ hab
     ·exact hbm y hy hye
   ·rcases List.mem_cons.1 hz with rfl | hz'
    ·refine ⟨z, List.mem_cons_self, hze, fun y hy hye => ?_⟩
     rcases List.mem_cons.1 hy with rfl | hy
     ·exact swoH.irrefl _
     ·exact absurd ⟨y, hy, hye⟩ hex
    ·exact absurd ⟨z, hz', hze⟩ hex
/-- the best of S, in order -/
def IsBest (S L : List DHyp) : Prop := L.Pairwise (fun a b => ltH a b = true) ∧ L.Pairwise (fun a b => smH a b = false) ∧ ∀ x, x ∈ L ↔ x ∈ S ∧ ∀ y ∈ S, smH y x = true → ltH y x = false
theorem isBest_uniq {S L M : List DHyp} (h : IsBest S L) (k : IsBest S M) : L = M := by
 have nd : ∀ {L : List DHyp}, L.Pairwise (fun a b => ltH a b = true) → L.Nodup := by
  intro L hL
  refine hL.imp fun {a b} h e => ?_
  subst e; rw [swoH.irrefl] at h; cases h
 have asy : ∀ {a b : DHyp}, ltH a b = true → ltH b a = false := by
  intro a b h
  cases hb : ltH b a with
  | false => rfl
  | true => have := swoH.trans _ _ _ h hb; rw [swoH.irrefl] at this; cases this
 refine up_unique L M ((List.perm_ext_iff_of_nodup (nd h.1) (nd k.1)).2 fun x => ?_) (h.1.imp asy) (k.1.imp asy) (fun a _ b _ h1 h2 => ltH_tie h1 h2)
 rw [h.2.2, k.2.2]
def stepD (out : List DHyp) (h : DHyp) : List DHyp := if out.any (fun g => smH g h) then out else out ++ [h]
def dedup (l : List DHyp) : List DHyp := l.foldl stepD []
theorem dedup_inv : ∀ (l done out : List DHyp) (_ : (done ++ l).Pairwise (fun a b => ltH b a = false)), IsBest done out → IsBest (done ++ l) (l.foldl stepD out)
 | [], done, out, _, h => by simpa using h
 | e :: l, done, out, hp, h => by
  have hp' : ((done ++ [e]) ++ l).Pairwise (fun a b => ltH b a = false) := by simpa using hp
  have hle : ∀ x ∈ done, ltH e x = false := fun x hx => (List.pairwise_append.1 hp).2.2 x hx e List.mem_cons_self
  have hn : IsBest (done ++ [e]) (stepD out e) := by
   unfold stepD
   cases ha : out.any (fun g => smH g e)
   ·-- a new label
    have hno : ∀ x ∈ done, smH x e = false := by
     intro x hx
     cases hs : smH x e with
     | false => rfl
     | true =>
      exfalso
      obtain ⟨b, hb, hbe, hbm⟩ := best_in (e := e) done.length done (Nat.le_refl _) x hx hs
      have hin : b ∈ out := (h.2.2 b).2 ⟨hb, fun y hy hyb => hbm y hy (by rw [smH_iff] at *; rw [hyb, hbe])⟩
      rw [List.any_eq_false] at ha
      exact ha b hin hbe
    simp only [Bool.false_eq_true, if_false]
    have hoe : ∀ x ∈ out, ltH x e = true := by
     intro x hx
     have hxd := ((h.2.2 x).1 hx).1
     cases hl : ltH x e with
     | true => rfl
     | false =>
      have := ltH_tie hl (hle x hxd)
      subst this
      have := hno x hxd
      rw [smH_iff.2 rfl] at this; cases this
    refine ⟨List.pairwise_append.2 ⟨h.1, List.pairwise_singleton _ _, fun a ha b hb => by rw [List.mem_singleton.1 hb]; exact hoe a ha⟩, List.pairwise_append.2 ⟨h.2.1, List.pairwise_singleton _ _, fun a ha b hb => by rw [List.mem_singleton.1 hb]; exact hno a ((h.2.2 a).1 ha).1⟩, fun x => ?_⟩
    constructor
    ·intro hx
     rcases List.mem_append.1 hx with hx | hx
     ·have h1 := (h.2.2 x).1 hx
      refine ⟨List.mem_append_left _ h1.1, fun y hy hyx => ?_⟩
      rcases List.mem_append.1 hy with hy | hy
      ·exact h1.2 y hy hyx
      ·rw [List.mem_singleton.1 hy]; exact hle x h1.1
     ·rw [List.mem_singleton.1 hx]
      refine ⟨List.mem_append_right _ (List.mem_singleton.2 rfl), fun y hy hyx => ?_⟩
      rcases List.mem_append.1 hy with hy | hy
      ·rw [hno y hy] at hyx; cases hyx
      ·rw [List.mem_singleton.1 hy]; exact swoH.irrefl _
    ·rintro ⟨hx, hm⟩
     rcases List.mem_append.1 hx with hx | hx
     ·exact List.mem_append_left _ ((h.2.2 x).2 ⟨hx, fun y hy => hm y (List.mem_append_left _ hy)⟩)
     ·exact List.mem_append_right _ hx
   ·-- a known label
    simp only [if_true]
    obtain ⟨g, hg, hge⟩ := List.any_eq_true.1 ha
    have hgd := (h.2.2 g).1 hg
    refine ⟨h.1, h.2.1, fun x => ?_⟩
    rw [h.2.2 x]
    constructor
    ·rintro ⟨h1, h2⟩
     refine ⟨List.mem_append_left _ h1, fun y hy hyx => ?_⟩
     rcases List.mem_append.1 hy with hy | hy
     ·exact h2 y hy hyx
     ·rw [List.mem_singleton.1 hy]; exact hle x h1
    ·rintro ⟨h1, h2⟩
     rcases List.mem_append.1 h1 with h1 | h1
     ·exact ⟨h1, fun y hy => h2 y (List.mem_append_left _ hy)⟩
     ·rw [List.mem_singleton.1 h1] at h2 ⊢
      have h3 := h2 g (List.mem_append_left _ hgd.1) hge
      have h4 := ltH_tie h3 (hle g hgd.1)
      rw [← h4]; exact hgd
  have := dedup_inv l (done ++ [e]) (stepD out e) hp' hn
  simpa using this
theorem dedup_best {S l : List DHyp} (hp : l.Perm S) (hu : Up ltH l) : IsBest S (dedup l) := by
 have h := dedup_inv l [] [] (show Up ltH ([] ++ l) by rw [List.nil_append]; exact hu) ⟨List.Pairwise.nil, List.Pairwise.nil, fun x => by simp⟩
 rw [List.nil_append] at h
 exact ⟨h.1, h.2.1, fun x => (h.2.2 x).trans (by rw [hp.mem_iff]; exact and_congr Iff.rfl (forall_congr' fun y => by rw [hp.mem_iff]))⟩
def stepM (m : Nat) (out : List DHyp) (h : DHyp) : List DHyp := if decide (out.length < m) && !out.any (fun g => smH g h) then out ++ [h] else out
theorem fold_take_m (m : Nat) : ∀ (l out : List DHyp), l.foldl (stepM m) (out.take m) = (l.foldl stepD out).take m
 | [], _ => rfl
 | h :: l, out => by
  rw [List.foldl_cons, List.foldl_cons]
  have e : stepM m (out.take m) h = (stepD out h).take m := by
   unfold stepM stepD
   by_cases hl : out.length < m
   ·rw [List.take_of_length_le (by omega)]
    simp only [hl, decide_true, Bool.true_and]
    cases ha : out.any (fun g => smH g h)
    ·simp only [Bool.not_false, if_true, Bool.false_eq_true, if_false]
     rw [List.take_of_length_le (by simp; omega)]
    ·simp only [Bool.not_true, Bool.false_eq_true, if_false, if_true]
     rw [List.take_of_length_le (by omega)]
   ·have h1 : ¬ (out.take m).length < m := by rw [List.length_take]; omega
    simp only [h1, decide_false, Bool.false_and, Bool.false_eq_true, if_false]
    split
    ·rfl
    ·rw [List.take_append_of_le_length (by omega)]
  rw [e, fold_take_m m l]
/-- inserting one, unless there is a better one with its label -/
def insH (out : List DHyp) (h : DHyp) : List DHyp := if out.any (fun g => smH g h && decide (g.cost ≤ h.cost)) then out else insE ltH (out.filter fun g => !smH g h) h
theorem smH_comm (a b : DHyp) : smH a b = smH b a := by
 cases h : smH a b
 ·cases k : smH b a
  ·rfl
  ·rw [smH_iff] at k; rw [smH_iff.2 k.symm] at h; cases h
 ·rw [smH_iff] at h; exact (smH_iff.2 h.symm).symm
theorem smH_trans {a b c : DHyp} (h : smH a b = true) (k : smH b c = true) : smH a c = true := smH_iff.2 ((smH_iff.1 h).trans (smH_iff.1 k))
theorem one_label {L : List DHyp} (h : L.Pairwise fun a b => smH a b = false) {x y : DHyp} (hx : x ∈ L) (hy : y ∈ L) (hs : smH x y = true) : x = y := by
 obtain ⟨i, hi, rfl⟩ := List.mem_iff_getElem.1 hx
 obtain ⟨j, hj, rfl⟩ := List.mem_iff_getElem.1 hy
 rcases Nat.lt_trichotomy i j with hl | hl | hl
 ·have := List.pairwise_iff_getElem.1 h i j hi hj hl; rw [hs] at this; cases this
 ·subst hl; rfl
 ·have := List.pairwise_iff_getElem.1 h j i hj hi hl; rw [smH_comm, hs] at this; cases this
theorem strict_of {L : List DHyp} (hu : Up ltH L) (hs : L.Pairwise fun a b => smH a b = false) : L.Pairwise fun a b => ltH a b = true := by
 refine (hu.and hs).imp fun {a b} h => ?_
 cases hl : ltH a b with
 | true => rfl
 | false =>
  have := ltH_tie hl h.1
  subst this
  rw [smH_iff.2 rfl] at h; cases h.2
theorem up_of {L : List DHyp} (h : L.Pairwise fun a b => ltH a b = true) : Up ltH L := h.imp fun {a b} h => by
 cases hb : ltH b a with
 | false => rfl
 | true => have := swoH.trans _ _ _ h hb; rw [swoH.irrefl] at this; cases this
theorem insH_best {S L : List DHyp} {h : DHyp} (hB : IsBest S L) : IsBest (S ++ [h]) (insH L h) := by
 unfold insH
 cases ha : L.any (fun g => smH g h && decide (g.cost ≤ h.cost))
 ·simp only [Bool.false_eq_true, if_false]
  have hno : ∀ g ∈ L, smH g h = true → h.cost < g.cost := by
   intro g hg hs
   have := List.any_eq_false.1 ha g hg
   simp [hs] at this; omega
  have hper := insE_perm ltH (L.filter fun g => !smH g h) h
  have hmem : ∀ x, x ∈ insE ltH (L.filter fun g => !smH g h) h ↔ x = h ∨ (x ∈ L ∧ smH x h = false) := by
   intro x
   rw [hper.mem_iff, List.mem_cons, List.mem_filter]
   simp
  have hup : Up ltH (insE ltH (L.filter fun g => !smH g h) h) := insE_up swoH (List.Pairwise.sublist (List.filter_sublist (p := fun g => !smH g h)) (up_of hB.1)) h
  have hdl : (insE ltH (L.filter fun g => !smH g h) h).Pairwise fun a b => smH a b = false := by
   refine (hper.pairwise_iff (fun {a b} hab => by rw [smH_comm]; exact hab)).2 (List.pairwise_cons.2 ⟨fun a ha => ?_, List.Pairwise.sublist (List.filter_sublist (p := fun g => !smH g h)) hB.2.1⟩)
   have := (List.mem_filter.1 ha).2
   rw [smH_comm]; simpa using this
  refine ⟨strict_of hup hdl, hdl, fun x => ?_⟩
  rw [hmem]
  constructor
  ·rintro (rfl | ⟨hx, hs⟩)
   ·refine ⟨List.mem_append_right _ (List.mem_singleton.2 rfl), fun y hy hyx => ?_⟩
    rcases List.mem_append.1 hy with hy | hy
    ·obtain ⟨b, hb, hbe, hbm⟩ := best_in (e := x) S.length S (Nat.le_refl _) y hy hyx
     have hbL : b ∈ L := (hB.2.2 b).2 ⟨hb, fun z hz hzb => hbm z hz (smH_trans hzb hbe)⟩
     have h1 := hno b hbL hbe
     have h2 := hbm y hy hyx
     rw [ltH_same (smH_trans hyx (by rw [smH_comm]; exact hbe))] at h2
     rw [ltH_same hyx]
     simp at h2 ⊢; omega
    ·rw [List.mem_singleton.1 hy]; exact swoH.irrefl _
   ·have h1 := (hB.2.2 x).1 hx
    refine ⟨List.mem_append_left _ h1.1, fun y hy hyx => ?_⟩
    rcases List.mem_append.1 hy with hy | hy
    ·exact h1.2 y hy hyx
    ·rw [List.mem_singleton.1 hy, smH_comm, hs] at hyx; cases hyx
  ·rintro ⟨hx, hm⟩
   rcases List.mem_append.1 hx with hx | hx
   ·have hxL := (hB.2.2 x).2 ⟨hx, fun y hy => hm y (List.mem_append_left _ hy)⟩
    cases hs : smH x h with
    | false => exact .inr ⟨hxL, rfl⟩
    | true =>
     have h1 := hm h (List.mem_append_right _ (List.mem_singleton.2 rfl)) (by rw [smH_comm]; exact hs)
     rw [ltH_same (by rw [smH_comm]; exact hs)] at h1
     have h2 := hno x hxL hs
     simp at h1; omega
   ·exact .inl (List.mem_singleton.1 hx)
 ·simp only [if_true]
  obtain ⟨g, hg, hge⟩ := List.any_eq_true.1 ha
  simp only [Bool.and_eq_true, decide_eq_true_eq] at hge
  refine ⟨hB.1, hB.2.1, fun x => ?_⟩
  constructor
  ·intro hx
   have h1 := (hB.2.2 x).1 hx
   refine ⟨List.mem_append_left _ h1.1, fun y hy hyx => ?_⟩
   rcases List.mem_append.1 hy with hy | hy
   ·exact h1.2 y hy hyx
   ·rw [List.mem_singleton.1 hy] at hyx ⊢
    have := one_label hB.2.1 hg hx (smH_trans hge.1 hyx)
    subst this
    rw [ltH_same hyx]; simp; omega
  ·rintro ⟨hx, hm⟩
   rcases List.mem_append.1 hx with hx | hx
   ·exact (hB.2.2 x).2 ⟨hx, fun y hy => hm y (List.mem_append_left _ hy)⟩
   ·rw [List.mem_singleton.1 hx] at hm ⊢
    have h1 := hm g (List.mem_append_left _ ((hB.2.2 g).1 hg).1) hge.1
    have h2 : ltH h g = false := by rw [ltH_same (by rw [smH_comm]; exact hge.1)]; simp; omega
    rw [← ltH_tie h1 h2]; exact hg
theorem fold_best : ∀ (b S L : List DHyp), IsBest S L → IsBest (S ++ b) (b.foldl insH L)
 | [], S, L, h => by simpa using h
 | e :: b, S, L, h => by
  have := fold_best b (S ++ [e]) (insH L e) (insH_best h)
  simpa using this
end Go.Proofs.YtlnoelbeaolikaaGreat
namespace Go.Proofs.YtlnoelbeaolikaaGreat
open Go.RowKit
set_option maxHeartbeats 1000000 in
theorem indexHy_any (c : FuncId) (cap0 : Value) (q : DHyp → Bool) (v : Value) (x : List DHyp) (w : World) (h : Arr eHyp w v x) (ok : x.length ≤ 2000000) (hen : Enters c)
  (hf : ∀ (a : DHyp) (w' : World), Below w.heap.size w w' → Calls Tryz.prog c #[.agg #[.string a.label, .int .i64 a.cost], cap0] w' (Ret (.bool (q a)) w')) :
  Calls Tryz.prog 159 #[v, .func (.func c) #[] #[cap0]] w (Ret (.int .i64 (posOf (x.findIdx? q))) w) := by
 obtain ⟨b, off, ao, cap, rfl, hnc, hcm, hao, hc⟩ := h
 unfold maxLen at hcm
 go_enter Tryz.func159, Tryz.ntmps159
 go_wp2
 go_loopw [5, 8] (fun _ i wr => ∃ k : Nat, k ≤ x.length ∧ i = .int .i64 k ∧ Below w.heap.size w wr ∧ ∀ j a, j < k → x[j]? = some a → q a = false) (fun _ i _ => x.length - (intOf i).toNat)
 case atStart => exact ⟨0, Nat.zero_le _, rfl, Below.refl _ _, fun j e h => by omega⟩
 case round =>
  obtain ⟨k, hk, rfl, hb, hall⟩ := hrel
  have HA := hid hall
  clear hall
  by_cases hlt : k < x.length
  ·obtain ⟨hao', hbw⟩ := hao (by omega)
   subst hao'
   obtain ⟨e, he⟩ : ∃ e, x[k]? = some e := ⟨_, List.getElem?_eq_getElem hlt⟩
   obtain ⟨c0, c1⟩ := eHyp_cells (hc.below hb hbw) he
   have hli : (k : Int) < (x.length : Int) := by omega
   have HE := hid he
   have HF := hid (hf e)
   clear he hao hf
   have hcf : ∀ (args : Array Value) (w : World), (callFunc c args).run Tryz.prog w = .ok (.enter c args) w := hen
   cases hq : q e
   ·go_wp2_with fail
    refine (HF.out _ hb).mono ?_
    rintro e2 w2 ⟨rfl, hb2⟩
    rw [hq]
    go_wp2
    go_roundw
    case rel =>
     refine ⟨k + 1, by omega, by go_num, hb.trans (hb2.mono hb.size), fun j a hj ha => ?_⟩
     by_cases ej : j = k
     ·subst ej; rw [HE.out] at ha; obtain rfl := Option.some.inj ha; exact hq
     ·exact HA.out j a (by omega) ha
    case measure => simp [intOf]; omega
   ·go_wp2_with fail
    refine (HF.out _ hb).mono ?_
    rintro e2 w2 ⟨rfl, hb2⟩
    rw [hq]
    go_wp2
    go_ret
    exact ret_int (by rw [find_some HE.out hq HA.out]; rfl) (hb.trans (hb2.mono hb.size))
  ·have HV := hid (find_none (x := x) (q := q) fun j a hj => HA.out j a (by omega))
   clear hao hf
   go_wp2
   go_ret
   exact ret_int (by rw [HV.out]; rfl) hb
set_option maxHeartbeats 400000 in
theorem containsHy_any (c : FuncId) (cap0 : Value) (q : DHyp → Bool) (v : Value) (x : List DHyp) (w : World) (h : Arr eHyp w v x) (ok : x.length ≤ 2000000) (hen : Enters c)
  (hf : ∀ (a : DHyp) (w' : World), Below w.heap.size w w' → Calls Tryz.prog c #[.agg #[.string a.label, .int .i64 a.cost], cap0] w' (Ret (.bool (q a)) w')) :
  Calls Tryz.prog 112 #[v, .func (.func c) #[] #[cap0]] w (Ret (.bool (x.any q)) w) := by
 have HF := hid hf
 have HN := hid hen
 clear hf hen
 rw [← pos_any]
 go_enter Tryz.func112, Tryz.ntmps112
 go_wp2_with (go_at_call 159; refine (indexHy_any _ _ _ _ _ _ h ok HN.out HF.out).mono ?_; rintro e w' ⟨rfl, hb⟩)
 go_ret
 exact ret_bool rfl hb
end Go.Proofs.YtlnoelbeaolikaaGreat
namespace Go.Proofs.YtlnoelbeaolikaaGreat
open Go.RowKit
def hy0 : DHyp := ⟨ByteArray.empty, 0⟩
end Go.Proofs.YtlnoelbeaolikaaGreat
namespace Go.Proofs.YtlnoelbeaolikaaGreat
open Go.RowKit
attribute [local go_sem ↓] Go.wp_at_zero Go.wp_at_succ
theorem infHyp : (Tryz.prog.info? 76).map (fun i => (i.zero, i.size, i.bytes)) = some (some (.agg #[.string ByteArray.empty, .int .i64 0]), eHyp.sz, 24) := by kernel_rfl
end Go.Proofs.YtlnoelbeaolikaaGreat
