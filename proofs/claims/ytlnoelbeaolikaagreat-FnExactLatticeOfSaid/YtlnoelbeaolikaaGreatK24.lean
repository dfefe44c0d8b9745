/- LatticeOf: the reference's call. -/
import Derived.Test.YtlnoelbeaolikaaGreatK23
import Derived.Test.YtlnoelbeaolikaaGreatK05
import Derived.Test.YtlnoelbeaolikaaGreatK22
import Derived.Shelf.SlSortCmp.NoneTotal
import Derived.Ground.SlsfProg
import Derived.Test.YtlnoelbeaolikaaGreatProg
import Derived.Deep.RegionHeld3
import Derived.Test.YtlnoelbeaolikaaGreatK12
namespace Go.Proofs.YtlnoelbeaolikaaGreat
open Go.RowKit Go.Sort
set_option maxRecDepth 100000 in
set_option maxHeartbeats 8000000 in
theorem specLatticeOf_any (v0 : Value) (x : XStore) (v1 : Value) (X : XInk) (t : DSetting) (w : World) {lo0 hi0 lo1 hi1 : Nat} (h0 : rStore.at_ lo0 hi0 w v0 x) (h1 : rInk.at_ lo1 hi1 w v1 X) (ok0 : okStore x) (ok1 : okInk X) (g0 : goodStore x) (_ : goodInk X) :
  Calls Tryz.prog 19 #[v0, v1, .agg #[.int .i64 t.points, .int .i64 t.most, .int .i64 t.pen]] w (RetNew rLattice (latOfX x X t) #[.int .i64 (latOfC x X t)] w) := by
 obtain ⟨pts, mst, pen⟩ := t
 dsimp only
 obtain ⟨us, rfl, h0⟩ := h0
 replace h0 := tmps_at h0
 obtain ⟨sa, sc, rfl⟩ := tmps_arr h0
 obtain ⟨ui, rfl, h1⟩ := h1
 replace h1 := strokes_at h1
 obtain ⟨ia, ic, rfl⟩ := nest_sl h1
 have bad : ∀ (w' : World) (c : Int), Hid (latOfX x X ⟨pts, mst, pen⟩ = (0, []) ∧ latOfC x X ⟨pts, mst, pen⟩ = c) → Below w.heap.size w w' → RetNew rLattice (latOfX x X ⟨pts, mst, pen⟩) #[.int .i64 (latOfC x X ⟨pts, mst, pen⟩)] w (.returned (.tuple #[.agg #[.int .i64 0, .slice none 0 0], .int .i64 c])) w' := by
  intro w' c hz hb
  rw [hz.out.1, hz.out.2]
  exact ⟨_, rfl, rLt_new (Own.nil _ _ _) (Nat.le_refl _), hb⟩
 obtain ⟨W, hW⟩ : ∃ u, u = ((((w.alloc (.cells #[.int .i64 x.1, .slice sa x.2.length sc] 37)).alloc (.cells #[.slice ia X.length ic] 41)).alloc (.cells #[.int .i64 pts, .int .i64 mst, .int .i64 pen] 43)).alloc (.cells #[.int .i64 0, .slice none 0 0] 54)) := ⟨_, rfl⟩
 have hbW : Below w.heap.size w W := by rw [hW]; exact belowA4 _ _ _ _ _
 have q1 : Box W (w.heap.size) #[.int .i64 x.1, .slice sa x.2.length sc] 37 := by
  have hq := Box.new w #[.int .i64 x.1, .slice sa x.2.length sc] 37
  rw [hW]
  exact (((hq.alloc _).alloc _).alloc _)
 have q2 : Box W (w.heap.size + 1) #[.slice ia X.length ic] 41 := by
  have hq := Box.new (w.alloc (.cells #[.int .i64 x.1, .slice sa x.2.length sc] 37)) #[.slice ia X.length ic] 41
  simp at hq
  rw [hW]
  exact ((hq.alloc _).alloc _)
 have q3 : Box W (w.heap.size + 1 + 1) #[.int .i64 pts, .int .i64 mst, .int .i64 pen] 43 := by
  have hq := Box.new ((w.alloc (.cells #[.int .i64 x.1, .slice sa x.2.length sc] 37)).alloc (.cells #[.slice ia X.length ic] 41)) #[.int .i64 pts, .int .i64 mst, .int .i64 pen] 43
  simp at hq
  rw [hW]
  exact (hq.alloc _)
 have q4 : Box W (w.heap.size + 1 + 1 + 1) #[.int .i64 0, .slice none 0 0] 54 := by
  have hq := Box.new (((w.alloc (.cells #[.int .i64 x.1, .slice sa x.2.length sc] 37)).alloc (.cells #[.slice ia X.length ic] 41)).alloc (.cells #[.int .i64 pts, .int .i64 mst, .int .i64 pen] 43)) #[.int .i64 0, .slice none 0 0] 54
  simp at hq
  rw [hW]
  exact hq
 obtain ⟨p1, hp1⟩ : ∃ p, p = w.heap.size := ⟨_, rfl⟩
 rw [← hp1] at q1
 have hge1 : w.heap.size ≤ p1 := by omega
 obtain ⟨p2, hp2⟩ : ∃ p, p = w.heap.size + 1 := ⟨_, rfl⟩
 rw [← hp2] at q2
 have hge2 : w.heap.size ≤ p2 := by omega
 obtain ⟨p3, hp3⟩ : ∃ p, p = w.heap.size + 1 + 1 := ⟨_, rfl⟩
 rw [← hp3] at q3
 have hge3 : w.heap.size ≤ p3 := by omega
 obtain ⟨p4, hp4⟩ : ∃ p, p = w.heap.size + 1 + 1 + 1 := ⟨_, rfl⟩
 rw [← hp4] at q4
 have hge4 : w.heap.size ≤ p4 := by omega
 have hlW : w.heap.size ≤ W.heap.size := hbW.size
 have hlp1 : p1 < W.heap.size := q1.lt
 have hlp2 : p2 < W.heap.size := q2.lt
 have hlp3 : p3 < W.heap.size := q3.lt
 have hlp4 : p4 < W.heap.size := q4.lt
 have hne12 : p1 ≠ p2 := by omega
 have hne13 : p1 ≠ p3 := by omega
 have hne14 : p1 ≠ p4 := by omega
 have hne23 : p2 ≠ p3 := by omega
 have hne24 : p2 ≠ p4 := by omega
 have hne34 : p3 ≠ p4 := by omega
 have HP1 := hid hp1
 have HP2 := hid hp2
 have HP3 := hid hp3
 have HP4 := hid hp4
 have HW := hid hW
 clear hW hp1 hp2 hp3 hp4
 have s0 := q1.cell (j := 0) rfl
 have s1 := q1.cell (j := 1) rfl
 have i0 := q2.cell (j := 0) rfl
 have t0 := q3.cell (j := 0) rfl
 have t1 := q3.cell (j := 1) rfl
 have t2 := q3.cell (j := 2) rfl
 have C1 := l11Ok_any p1 _ x W s0 s1 (h0.below hbW) ok0 g0
 have C2 := fun w' (hb : Below W.heap.size W w') => l02Ok_any p2 0 _ X w' (cell_later hb i0) (h1.below (hbW.trans (hb.mono hlW))) ok1
 have C3 := fun w' (hb : Below W.heap.size W w') => l13Setting_any p3 ⟨pts, mst, pen⟩ w' (cell_later hb t0) (cell_later hb t1) (cell_later hb t2)
 cases hv1 : validStore x
 ·have HZ : Hid (latOfX x X ⟨pts, mst, pen⟩ = (0, []) ∧ latOfC x X ⟨pts, mst, pen⟩ = 1) := by show _ ∧ _; simp [latOfX, latOfC, latB, hv1]
  rw [hv1] at C1
  go_enter Tryz.func19, Tryz.ntmps19
  go_upto_region 1 with fail
  rw [← HP4.out, ← HP3.out, ← HP2.out, ← HP1.out, ← HW.out]
  go_wp2_with fail
  refine C1.mono ?_
  rintro e w3 ⟨rfl, hb⟩
  have bx := q4.later hb
  have b0 := bx.cell (j := 0) rfl
  have b1 := bx.cell (j := 1) rfl
  have bf := bx.free
  go_wp2_with fail
  refine bodyPost_ret (v := .tuple #[.agg #[.int .i64 0, .slice none 0 0], .int .i64 1]) (by simp [results, Tryz.results19, go_sem, b0, b1]) rfl (bad _ _ HZ ?_)
  exact ((hbW.trans (hb.mono hlW)).setCell hge4 _).setCell hge4 _
 rw [hv1] at C1
 cases hv2 : validInk X
 ·have HZ : Hid (latOfX x X ⟨pts, mst, pen⟩ = (0, []) ∧ latOfC x X ⟨pts, mst, pen⟩ = 1) := by show _ ∧ _; simp [latOfX, latOfC, latB, hv1, hv2]
  rw [hv2] at C2
  go_enter Tryz.func19, Tryz.ntmps19
  go_upto_region 1 with fail
  rw [← HP4.out, ← HP3.out, ← HP2.out, ← HP1.out, ← HW.out]
  go_wp2_with fail
  refine C1.mono ?_
  rintro e w3 ⟨rfl, hb⟩
  go_wp2_with fail
  refine (C2 w3 hb).mono ?_
  rintro e w4 ⟨rfl, hb4⟩
  have hb34 := hb.trans (hb4.mono hb.size)
  have bx := q4.later hb34
  have b0 := bx.cell (j := 0) rfl
  have b1 := bx.cell (j := 1) rfl
  have bf := bx.free
  go_wp2_with fail
  refine bodyPost_ret (v := .tuple #[.agg #[.int .i64 0, .slice none 0 0], .int .i64 1]) (by simp [results, Tryz.results19, go_sem, b0, b1]) rfl (bad _ _ HZ ?_)
  exact ((hbW.trans (hb34.mono hlW)).setCell hge4 _).setCell hge4 _
 rw [hv2] at C2
 cases hv3 : validSet ⟨pts, mst, pen⟩
 ·have HZ : Hid (latOfX x X ⟨pts, mst, pen⟩ = (0, []) ∧ latOfC x X ⟨pts, mst, pen⟩ = 1) := by show _ ∧ _; simp [latOfX, latOfC, latB, hv1, hv2, hv3]
  rw [hv3] at C3
  go_enter Tryz.func19, Tryz.ntmps19
  go_upto_region 1 with fail
  rw [← HP4.out, ← HP3.out, ← HP2.out, ← HP1.out, ← HW.out]
  go_wp2_with fail
  refine C1.mono ?_
  rintro e w3 ⟨rfl, hb⟩
  go_wp2_with fail
  refine (C2 w3 hb).mono ?_
  rintro e w4 ⟨rfl, hb4⟩
  have hb34 := hb.trans (hb4.mono hb.size)
  have bx := q4.later hb34
  have b0 := bx.cell (j := 0) rfl
  have b1 := bx.cell (j := 1) rfl
  have bf := bx.free
  go_wp2_with fail
  refine (C3 w4 hb34).mono ?_
  rintro e w5 ⟨rfl, rfl⟩
  go_wp2_with fail
  refine bodyPost_ret (v := .tuple #[.agg #[.int .i64 0, .slice none 0 0], .int .i64 1]) (by simp [results, Tryz.results19, go_sem, b0, b1]) rfl (bad _ _ HZ ?_)
  exact ((hbW.trans (hb34.mono hlW)).setCell hge4 _).setCell hge4 _
 rw [hv3] at C3
 have h3 := hv3
 unfold validSet at h3
 rw [Bool.and_eq_true, Bool.and_eq_true] at h3
 have hp := inB_true.1 h3.1.1
 have hm := inB_true.1 h3.1.2
 have hn := inB_true.1 h3.2
 simp only at hp hm hn
 have hlat : latB x X ⟨pts, mst, pen⟩ = true := by simp [latB, hv1, hv2, hv3]
 clear h3
 obtain ⟨q, hq⟩ : ∃ q : Nat, pts = q + 1 := ⟨(pts - 1).toNat, by omega⟩
 obtain ⟨m, rfl⟩ : ∃ m : Nat, mst = m := ⟨mst.toNat, by omega⟩
 subst hq
 have hall : allEd x X ⟨(q : Int) + 1, m, pen⟩ = edgesTo x X q m pen (grpTo X.length X.length).length := by
  unfold allEd
  simp only
  rw [show ((q : Int) + 1 - 1).toNat = q by omega, show ((m : Int)).toNat = m by omega]
 have C4 := fun w' (hb : Below W.heap.size W w') => l15Of_any p1 p2 p3 _ _ x X q m pen w' (cell_later hb s0) (cell_later hb s1) (cell_later hb i0) (cell_later hb t0) (cell_later hb t1) (cell_later hb t2) (h0.below (hbW.trans (hb.mono hlW))) (h1.below (hbW.trans (hb.mono hlW))) ok1 hv1 hv2 (by omega) (by omega) (by omega) hn.1 hn.2
 obtain ⟨N, hN⟩ : ∃ N : Int, N = (X.length : Int) + 1 := ⟨_, rfl⟩
 have HLN := putTo_len (edgesTo x X q m pen (grpTo X.length X.length).length)
 obtain ⟨L, hL⟩ : ∃ L, L = putTo (edgesTo x X q m pen (grpTo X.length X.length).length) := ⟨_, rfl⟩
 have HX : Hid (∀ c : Int, c = (if L.length ≤ 200 then 0 else 5) → latOfC x X ⟨(q : Int) + 1, m, pen⟩ = c ∧ latOfX x X ⟨(q : Int) + 1, m, pen⟩ = if L.length ≤ 200 then (N, L) else (0, [])) := hid (by
  rintro c rfl
  rw [← hL] at HLN
  unfold latOfC latOfX
  rw [if_pos hlat, hall, ← hL, HLN, hN]
  refine ⟨rfl, ?_⟩
  by_cases h200 : (edgesTo x X q m pen (grpTo X.length X.length).length).length ≤ 200
  ·rw [if_pos ⟨hlat, h200⟩, if_pos h200]
  ·rw [if_neg (fun h => h200 h.2), if_neg h200])
 rw [← hL, ← hN] at C4
 clear hall HLN hL hN hlat hv1 hv2 hv3 ok0 g0
 go_enter Tryz.func19, Tryz.ntmps19
 go_upto_region 1 with fail
 rw [← HP4.out, ← HP3.out, ← HP2.out, ← HP1.out, ← HW.out]
 go_wp2_with fail
 refine C1.mono ?_
 rintro e w3 ⟨rfl, hb⟩
 go_wp2_with fail
 refine (C2 w3 hb).mono ?_
 rintro e w4 ⟨rfl, hb4⟩
 have hb34 := hb.trans (hb4.mono hb.size)
 have C5 := C4 w4 hb34
 clear C4
 go_wp2_with fail
 refine (C3 w4 hb34).mono ?_
 rintro e w5 ⟨rfl, rfl⟩
 go_wp2_with fail
 refine C5.mono ?_
 rintro e w6 ⟨u, rfl, hoU, hb6⟩
 obtain ⟨oa, oc, hu⟩ := hoU.isSlice
 subst hu
 have hb36 := hb34.trans (hb6.mono hb34.size)
 go_upto_region 4 with fail
 obtain ⟨w7, hw7⟩ : ∃ u, u = w6.alloc (.cells #[.int .i64 N, .slice oa L.length oc] 54) := ⟨_, rfl⟩
 obtain ⟨p8, hp8⟩ : ∃ p, p = w6.heap.size := ⟨_, rfl⟩
 rw [← hw7, ← hp8]
 have hb7 : Below w6.heap.size w6 w7 := by rw [hw7]; exact below_alloc _ _
 have b8 : Box w7 p8 #[.int .i64 N, .slice oa L.length oc] 54 := by rw [hw7, hp8]; exact Box.new _ _ _
 have a0 := b8.cell (j := 0) rfl
 have a1 := b8.cell (j := 1) rfl
 have hb37 := hb36.trans (hb7.mono hb36.size)
 have bx := q4.later hb37
 have b0 := bx.cell (j := 0) rfl
 have b1 := bx.cell (j := 1) rfl
 have bf := bx.free
 have hbE := hbW.trans (hb37.mono hlW)
 have hoW := (hoU.below hb7).mono (show W.heap.size ≤ w4.heap.size from hb34.size)
 have hp4 := q4.lt
 have hsW := hlW
 clear hw7 hp8
 by_cases h200 : L.length ≤ 200
 ·have hli : ¬ ((200 : Int) < (L.length : Int)) := by omega
  have HR := hid (HX.out 0 (by rw [if_pos h200]))
  rw [if_pos h200] at HR
  clear C1 C2 C3 C5 HX
  go_wp2_with fail
  refine bodyPost_ret (v := .tuple #[.agg #[.int .i64 N, .slice oa L.length oc], .int .i64 0]) (by simp [results, Tryz.results19, go_sem, b0, b1]) rfl ?_
  rw [HR.out.1, HR.out.2]
  refine ⟨_, rfl, rLt_new (B := W.heap.size) ?_ hsW, (hbE.setCell hge4 _).setCell hge4 _⟩
  exact (hoW.setBelow (a := ⟨p4, 0, none⟩) hp4 _).setBelow (a := ⟨p4, 1, none⟩) hp4 _
 ·have hli : (200 : Int) < (L.length : Int) := by omega
  have HR := hid (HX.out 5 (by rw [if_neg h200]))
  rw [if_neg h200] at HR
  have HZ := hid (And.intro HR.out.2 HR.out.1)
  clear C1 C2 C3 C5 HX
  go_wp2_with fail
  refine bodyPost_ret (v := .tuple #[.agg #[.int .i64 0, .slice none 0 0], .int .i64 5]) (by simp [results, Tryz.results19, go_sem, b0, b1]) rfl (bad _ _ HZ ?_)
  exact (hbE.setCell hge4 _).setCell hge4 _
end Go.Proofs.YtlnoelbeaolikaaGreat
namespace Go.Proofs
open Go.Shelf
def Tryz.sortEdge_ren : Go.Shelf.Ren := ⟨fun | 6 => 45 | 15 => 83 | 14 => 82 | 28 => 132 | 29 => 133 | 20 => 124 | 21 => 125 | 22 => 126 | 23 => 127 | 24 => 128 | 25 => 129 | 26 => 130 | 27 => 131 | 46 => 174 | 47 => 175 | 48 => 176 | 49 => 177 | 50 => 178 | 57 => 210 | n => n, fun | 22 => 52 | 24 => 89 | 25 => 91 | 3 => 3 | 39 => 145 | 0 => 0 | 53 => 195 | 55 => 197 | 4 => 4 | 46 => 188 | 45 => 187 | 50 => 192 | 5 => 5 | 9 => 9 | 66 => 231 | 70 => 235 | 76 => 252 | 77 => 253 | n => n, fun | n => n⟩
theorem Tryz.sortEdge : Go.Proofs.SlLaysF0.n6 Tryz.prog Tryz.sortEdge_ren := {
 mixed := by kernel_rfl
 f6 := ⟨Tryz.f45.name, by decide, Tryz.func45.trans (congrArg some (by kernel_rfl))⟩
 f14 := ⟨Tryz.f82.name, by decide, Tryz.func82.trans (congrArg some (by kernel_rfl))⟩
 f15 := Tryz.func83.trans (congrArg some (by kernel_rfl))
 f20 := ⟨Tryz.f124.name, by decide, Tryz.func124.trans (congrArg some (by kernel_rfl))⟩
 f21 := ⟨Tryz.f125.name, by decide, Tryz.func125.trans (congrArg some (by kernel_rfl))⟩
 f22 := ⟨Tryz.f126.name, by decide, Tryz.func126.trans (congrArg some (by kernel_rfl))⟩
 f23 := ⟨Tryz.f127.name, by decide, Tryz.func127.trans (congrArg some (by kernel_rfl))⟩
 f24 := ⟨Tryz.f128.name, by decide, Tryz.func128.trans (congrArg some (by kernel_rfl))⟩
 f25 := ⟨Tryz.f129.name, by decide, Tryz.func129.trans (congrArg some (by kernel_rfl))⟩
 f26 := ⟨Tryz.f130.name, by decide, Tryz.func130.trans (congrArg some (by kernel_rfl))⟩
 f27 := ⟨Tryz.f131.name, by decide, Tryz.func131.trans (congrArg some (by kernel_rfl))⟩
 f28 := Tryz.func132.trans (congrArg some (by kernel_rfl))
 f29 := Tryz.func133.trans (congrArg some (by kernel_rfl))
 f46 := ⟨Tryz.f174.name, by decide, Tryz.func174.trans (congrArg some (by kernel_rfl))⟩
 f47 := Tryz.func175.trans (congrArg some (by kernel_rfl))
 f48 := Tryz.func176.trans (congrArg some (by kernel_rfl))
 f49 := ⟨Tryz.f177.name, by decide, Tryz.func177.trans (congrArg some (by kernel_rfl))⟩
 f50 := ⟨Tryz.f178.name, by decide, Tryz.func178.trans (congrArg some (by kernel_rfl))⟩
 f57 := ⟨Tryz.f210.name, by decide, Tryz.func210.trans (congrArg some (by kernel_rfl))⟩
 t0 := Tryz.underlying0
 a0 := Tryz.isAgg0
 z0 := Tryz.sizeOf0
 v0 := Tryz.zeroValue0
 t3 := Tryz.underlying3
 a3 := Tryz.isAgg3
 z3 := Tryz.sizeOf3
 v3 := Tryz.zeroValue3
 t4 := Tryz.underlying4
 a4 := Tryz.isAgg4
 z4 := Tryz.sizeOf4
 v4 := Tryz.zeroValue4
 t5 := Tryz.underlying5
 a5 := Tryz.isAgg5
 z5 := Tryz.sizeOf5
 v5 := Tryz.zeroValue5
 t9 := Tryz.underlying9
 a9 := Tryz.isAgg9
 z9 := Tryz.sizeOf9
 v9 := Tryz.zeroValue9
 t22 := Tryz.underlying52
 a22 := Tryz.isAgg52
 z22 := Tryz.sizeOf52
 v22 := Tryz.zeroValue52
 t25 := Tryz.underlying91
 a25 := Tryz.isAgg91
 z25 := Tryz.sizeOf91
 v25 := Tryz.zeroValue91
 t39 := Tryz.underlying145
 a39 := Tryz.isAgg145
 z39 := Tryz.sizeOf145
 v39 := Tryz.zeroValue145
 t45 := Tryz.underlying187
 a45 := Tryz.isAgg187
 z45 := Tryz.sizeOf187
 v45 := Tryz.zeroValue187
 t46 := Tryz.underlying188
 a46 := Tryz.isAgg188
 z46 := Tryz.sizeOf188
 v46 := Tryz.zeroValue188
 t50 := Tryz.underlying192
 a50 := Tryz.isAgg192
 z50 := Tryz.sizeOf192
 v50 := Tryz.zeroValue192
 t53 := Tryz.underlying195
 a53 := Tryz.isAgg195
 z53 := Tryz.sizeOf195
 v53 := Tryz.zeroValue195
 t55 := Tryz.underlying197
 a55 := Tryz.isAgg197
 z55 := Tryz.sizeOf197
 v55 := Tryz.zeroValue197
 t66 := Tryz.underlying231
 a66 := Tryz.isAgg231
 z66 := Tryz.sizeOf231
 v66 := Tryz.zeroValue231
 t70 := Tryz.underlying235
 a70 := Tryz.isAgg235
 z70 := Tryz.sizeOf235
 v70 := Tryz.zeroValue235
 t76 := Tryz.underlying252
 a76 := Tryz.isAgg252
 z76 := Tryz.sizeOf252
 v76 := Tryz.zeroValue252
 t77 := Tryz.underlying253
 a77 := Tryz.isAgg253
 z77 := Tryz.sizeOf253
 v77 := Tryz.zeroValue253 }
end Go.Proofs
namespace Go.Proofs.YtlnoelbeaolikaaGreat
open Go.RowKit Go.Sort
attribute [local go_sem ↓] Go.wp_at_zero Go.wp_at_succ
instance : Inhabited DEdge := ⟨⟨0, 0, ByteArray.empty, 0⟩⟩
set_option maxRecDepth 100000 in
set_option maxHeartbeats 2000000 in
theorem compareEdges_lays (a b : DEdge) (w : World) :
  Calls Tryz.prog 46 #[.agg #[.int .i64 a.frm, .int .i64 a.to_, .string a.label, .int .i64 a.cost], .agg #[.int .i64 b.frm, .int .i64 b.to_, .string b.label, .int .i64 b.cost]] w fun e w' => e = .returned (.int .i64 (ordE a b)) ∧ ∃ q os', w' = grow (w.drewN q) os' := by
 rw [← ordE_or]
 go_enter Tryz.func46, Tryz.ntmps46
 go_wp2
 obtain ⟨w1, hw1⟩ : ∃ w1, w1 = ((w.alloc (.cells #[.int .i64 a.frm, .int .i64 a.to_, .string a.label, .int .i64 a.cost] 89)).alloc (.cells #[.int .i64 b.frm, .int .i64 b.to_, .string b.label, .int .i64 b.cost] 89)) := ⟨_, rfl⟩
 have hg1 : Hid (w1 = grow w #[.cells #[.int .i64 a.frm, .int .i64 a.to_, .string a.label, .int .i64 a.cost] 89, .cells #[.int .i64 b.frm, .int .i64 b.to_, .string b.label, .int .i64 b.cost] 89]) := hid (by rw [hw1, alloc_eq_grow, alloc_eq_grow, grow_grow]; rfl)
 have c0 : w1.cell? ⟨w.heap.size, 0, none⟩ = some (.int .i64 a.frm) := by rw [hw1]; simp
 have c1 : w1.cell? ⟨w.heap.size, 1, none⟩ = some (.int .i64 a.to_) := by rw [hw1]; simp
 have c2 : w1.cell? ⟨w.heap.size, 2, none⟩ = some (.string a.label) := by rw [hw1]; simp
 have d0 : w1.cell? ⟨w.heap.size + 1, 0, none⟩ = some (.int .i64 b.frm) := by rw [hw1]; simp
 have d1 : w1.cell? ⟨w.heap.size + 1, 1, none⟩ = some (.int .i64 b.to_) := by rw [hw1]; simp
 have d2 : w1.cell? ⟨w.heap.size + 1, 2, none⟩ = some (.string b.label) := by rw [hw1]; simp
 rw [← hw1]
 clear hw1
 generalize w.heap.size = n0 at c0 c1 c2 d0 d1 d2 ⊢
 go_region_held3 (fun w' => w'.cell? ⟨n0, 0, none⟩ = some (.int .i64 a.frm) ∧ w'.cell? ⟨n0, 1, none⟩ = some (.int .i64 a.to_) ∧ w'.cell? ⟨n0, 2, none⟩ = some (.string a.label) ∧ w'.cell? ⟨n0 + 1, 0, none⟩ = some (.int .i64 b.frm) ∧ w'.cell? ⟨n0 + 1, 1, none⟩ = some (.int .i64 b.to_) ∧ w'.cell? ⟨n0 + 1, 2, none⟩ = some (.string b.label)) (go_keep)
  (first | (go_at_call 85; refine (cmpInt_any _ _ _).mono ?_; rintro e w' ⟨rfl, rfl⟩) | (go_at_call 86; refine (cmpStr_any _ _ _).mono ?_; rintro e w' ⟨rfl, rfl⟩) | (go_at_call 84; refine (cmpOr_any _ [cmpI a.frm b.frm, cmpI a.to_ b.to_, cmpB a.label b.label] _ (Arr.drew (arr_new _ _ rfl rfl (maxLen_ge (Nat.le_of_ble_eq_true rfl))))).mono ?_; rintro e w' ⟨rfl, rfl⟩))
 go_wp2
 go_ret
 exact ⟨rfl, 1, _, by rw [hg1.out, alloc_eq_grow, grow_grow]; rfl⟩
theorem compareEdges_enters : ∀ args w, (callFunc 46 args).run Tryz.prog w = .ok (.enter 46 args) w := enters_of Tryz.func46 (by kernel_rfl) rfl
theorem sortEd_arr (g cap n B : Nat) (X : List DEdge) (w : World) (h : Own eEdge 89 B w (.slice (some ⟨g, 0, none⟩) n cap) X) (hn : n = X.length) (hs : X.length ≤ 1048576) :
  Calls Tryz.prog 45 #[.slice (some ⟨g, 0, none⟩) n cap, .func (.func 46) #[] #[]] w fun e w' => e = .returned (.tuple #[]) ∧ ∃ Y, Y.Perm X ∧ Up ltE Y ∧ Own eEdge 89 B w' (.slice (some ⟨g, 0, none⟩) n cap) Y ∧ Below B w w' := by
 have hlt := h.lt
 have hcon := AnyQ.slices_SortFunc Tryz.sortEdge 4 Tryz.isAgg89 Tryz.sizeOf89 eEdge.row eEdge.len eEdge.one ordE swoE 46 #[] g 0 cap X.toArray w compareEdges_enters
  (fun m os dk _ x y => compareEdges_lays x y _) (own_holds h hn) hlt.2 (by simp; omega)
 subst hn
 have hcon' : Calls Tryz.prog 45 #[.slice (some ⟨g, 0, none⟩) X.length cap, .func (.func 46) #[] #[]] w _ := hcon
 refine hcon'.mono ?_
 rintro e w' ⟨rfl, d', m, os, ⟨hsz, _, hperm⟩, hsort, rfl⟩
 refine ⟨rfl, d'.toList, ?_, ?_, ?_⟩
 ·have e1 : (d'.extract 0 X.toArray.size).toList = d'.toList := by rw [← hsz]; simp
  have e2 : (X.toArray.extract 0 X.toArray.size).toList = X := by simp
  rw [e1, e2] at hperm
  exact hperm
 ·refine List.pairwise_iff_getElem.2 fun i j hi hj hij => ?_
  have hi' : i < d'.size := by simpa using hi
  have hj' : j < d'.size := by simpa using hj
  have := hsort i j (Nat.zero_le _) hij (by rw [← hsz]; exact hj')
  rw [getElem!_pos d' i hi', getElem!_pos d' j hj'] at this
  simpa [ltE, ltOf] using this
 ·have := own_sorted (n := m) (os := os) (Y := d'.toList) h rfl (by have := hsz; simpa using this)
  rw [show d'.toList.toArray = d' by simp] at this
  refine ⟨this.1, ?_⟩
  have hb := (Below.refl B w).grown this.2 (Nat.le_trans hlt.1 (Nat.le_of_lt hlt.2)) (by intro k hk; cases hk; exact hlt.1)
  exact hb
theorem sortEd_any (u : Value) (B : Nat) (X : List DEdge) (w : World) (h : Own eEdge 89 B w u X) (hs : X.length ≤ 1048576) :
  Calls Tryz.prog 45 #[u, .func (.func 46) #[] #[]] w fun e w' => e = .returned (.tuple #[]) ∧ ∃ Y, Y.Perm X ∧ Up ltE Y ∧ Own eEdge 89 B w' u Y ∧ (B ≤ w.heap.size → Below B w w') := by
 have NIL : ∀ w1 : World, Calls Tryz.prog 45 #[.slice none 0 0, .func (.func 46) #[] #[]] w1 fun e w' => e = .returned (.tuple #[]) ∧ w' = w1 := fun w1 => AnyF.slices_SortFunc_none { Tryz.sortEdge with } none 0 (.func (.func 46) #[] #[]) w1
 rcases h.shape with ⟨rfl, h0⟩ | ⟨g, cap, rfl, hB, hl⟩
 ·refine (NIL w).mono ?_
  rintro e w' ⟨rfl, rfl⟩
  exact ⟨rfl, [], by rw [h0], List.Pairwise.nil, Own.nil _ _ _, fun _ => Below.refl _ _⟩
 ·refine (sortEd_arr g cap _ B X w h rfl hs).mono ?_
  rintro e w' ⟨rfl, Y, h1, h2, h3, h4⟩
  exact ⟨rfl, Y, h1, h2, h3, fun _ => h4⟩
end Go.Proofs.YtlnoelbeaolikaaGreat
namespace Go.Proofs.YtlnoelbeaolikaaGreat
open Go.RowKit Go.Sort
def tyE (T : TypeId) : Bool := T == 89 || T == 54
theorem typed_tyE {w w' : World} (h : Typed (fun T => T == 89) w w') : Typed tyE w w' := fun k c T f h1 h2 => h k c T f h1 (by unfold tyE at h2; rw [Bool.or_eq_false_iff] at h2; exact h2.1)
theorem typed_set {ty : TypeId → Bool} {w : World} {r : Nat} {cs : Array Value} {T : TypeId} (h : Box w r cs T) (hT : ty T = true) (o : Nat) (v : Value) : Typed ty w (w.setCell ⟨r, o, none⟩ v) := by
 intro k c T' f h1 h2
 have hk : k ≠ r := by
  rintro rfl
  have e := Option.some.inj (h.symm.trans h1)
  injection e with _ e2 _
  subst e2
  rw [hT] at h2; cases h2
 exact ((chg_set w r o v).block k (Array.getElem?_eq_some_iff.1 h1).1 (by omega)).trans h1
/-- a lattice in a box of its own: edges and lattices alone have changed, and nothing ahead of the box -/
def LtT (N : Int) (r : Nat) (U : World) (L : List DEdge) (w : World) : Prop := ∃ u, Box w r #[.int .i64 N, u] 54 ∧ Own eEdge 89 (r + 1) w u L ∧ Below r U w ∧ Typed tyE U w
theorem LtT.below {N : Int} {r : Nat} {U : World} {L : List DEdge} {w w' : World} (h : LtT N r U L w) (hb : Below w.heap.size w w') : LtT N r U L w' := by
 obtain ⟨u, h1, h2, h3, h4⟩ := h
 exact ⟨u, h1.later hb, h2.below hb, h3.trans (hb.mono (Nat.le_of_lt h1.lt)), typed_trans h4 (typed_below hb)⟩
theorem LtT.here {N : Int} {r : Nat} {U : World} {L : List DEdge} {w : World} (h : LtT N r U L w) : LtT N r w L w := by
 obtain ⟨u, h1, h2, _, _⟩ := h
 exact ⟨u, h1, h2, Below.refl _ _, fun _ _ _ _ h _ => h⟩
set_option maxRecDepth 100000 in
set_option maxHeartbeats 8000000 in
theorem implLatticeOf_any (v0 : Value) (x : XStore) (v1 : Value) (X : XInk) (t : DSetting) (w : World) {lo0 hi0 lo1 hi1 : Nat} (h0 : rStore.at_ lo0 hi0 w v0 x) (h1 : rInk.at_ lo1 hi1 w v1 X) (ok0 : okStore x) (ok1 : okInk X) (g0 : goodStore x) (_ : goodInk X) :
  Calls Tryz.prog 20 #[v0, v1, .agg #[.int .i64 t.points, .int .i64 t.most, .int .i64 t.pen]] w (RetNew rLattice (latOfX x X t) #[.int .i64 (latOfC x X t)] w) := by
 obtain ⟨pts, mst, pen⟩ := t
 dsimp only
 obtain ⟨us, rfl, h0⟩ := h0
 replace h0 := tmps_at h0
 obtain ⟨sa, sc, rfl⟩ := tmps_arr h0
 obtain ⟨ui, rfl, h1⟩ := h1
 replace h1 := strokes_at h1
 obtain ⟨ia, ic, rfl⟩ := nest_sl h1
 have bad : ∀ (w' : World) (c : Int), Hid (latOfX x X ⟨pts, mst, pen⟩ = (0, []) ∧ latOfC x X ⟨pts, mst, pen⟩ = c) → Below w.heap.size w w' → RetNew rLattice (latOfX x X ⟨pts, mst, pen⟩) #[.int .i64 (latOfC x X ⟨pts, mst, pen⟩)] w (.returned (.tuple #[.agg #[.int .i64 0, .slice none 0 0], .int .i64 c])) w' := by
  intro w' c hz hb
  rw [hz.out.1, hz.out.2]
  exact ⟨_, rfl, rLt_new (Own.nil _ _ _) (Nat.le_refl _), hb⟩
 obtain ⟨W, hW⟩ : ∃ u, u = ((((w.alloc (.cells #[.int .i64 x.1, .slice sa x.2.length sc] 37)).alloc (.cells #[.slice ia X.length ic] 41)).alloc (.cells #[.int .i64 pts, .int .i64 mst, .int .i64 pen] 43)).alloc (.cells #[.int .i64 0, .slice none 0 0] 54)) := ⟨_, rfl⟩
 have hbW : Below w.heap.size w W := by rw [hW]; exact belowA4 _ _ _ _ _
 have q1 : Box W (w.heap.size) #[.int .i64 x.1, .slice sa x.2.length sc] 37 := by
  have hq := Box.new w #[.int .i64 x.1, .slice sa x.2.length sc] 37
  rw [hW]
  exact (((hq.alloc _).alloc _).alloc _)
 have q2 : Box W (w.heap.size + 1) #[.slice ia X.length ic] 41 := by
  have hq := Box.new (w.alloc (.cells #[.int .i64 x.1, .slice sa x.2.length sc] 37)) #[.slice ia X.length ic] 41
  simp at hq
  rw [hW]
  exact ((hq.alloc _).alloc _)
 have q3 : Box W (w.heap.size + 1 + 1) #[.int .i64 pts, .int .i64 mst, .int .i64 pen] 43 := by
  have hq := Box.new ((w.alloc (.cells #[.int .i64 x.1, .slice sa x.2.length sc] 37)).alloc (.cells #[.slice ia X.length ic] 41)) #[.int .i64 pts, .int .i64 mst, .int .i64 pen] 43
  simp at hq
  rw [hW]
  exact (hq.alloc _)
 have q4 : Box W (w.heap.size + 1 + 1 + 1) #[.int .i64 0, .slice none 0 0] 54 := by
  have hq := Box.new (((w.alloc (.cells #[.int .i64 x.1, .slice sa x.2.length sc] 37)).alloc (.cells #[.slice ia X.length ic] 41)).alloc (.cells #[.int .i64 pts, .int .i64 mst, .int .i64 pen] 43)) #[.int .i64 0, .slice none 0 0] 54
  simp at hq
  rw [hW]
  exact hq
 obtain ⟨p1, hp1⟩ : ∃ p, p = w.heap.size := ⟨_, rfl⟩
 rw [← hp1] at q1
 have hge1 : w.heap.size ≤ p1 := by omega
 obtain ⟨p2, hp2⟩ : ∃ p, p = w.heap.size + 1 := ⟨_, rfl⟩
 rw [← hp2] at q2
 have hge2 : w.heap.size ≤ p2 := by omega
 obtain ⟨p3, hp3⟩ : ∃ p, p = w.heap.size + 1 + 1 := ⟨_, rfl⟩
 rw [← hp3] at q3
 have hge3 : w.heap.size ≤ p3 := by omega
 obtain ⟨p4, hp4⟩ : ∃ p, p = w.heap.size + 1 + 1 + 1 := ⟨_, rfl⟩
 rw [← hp4] at q4
 have hge4 : w.heap.size ≤ p4 := by omega
 have hlW : w.heap.size ≤ W.heap.size := hbW.size
 have hlp1 : p1 < W.heap.size := q1.lt
 have hlp2 : p2 < W.heap.size := q2.lt
 have hlp3 : p3 < W.heap.size := q3.lt
 have hlp4 : p4 < W.heap.size := q4.lt
 have hne12 : p1 ≠ p2 := by omega
 have hne13 : p1 ≠ p3 := by omega
 have hne14 : p1 ≠ p4 := by omega
 have hne23 : p2 ≠ p3 := by omega
 have hne24 : p2 ≠ p4 := by omega
 have hne34 : p3 ≠ p4 := by omega
 have HP1 := hid hp1
 have HP2 := hid hp2
 have HP3 := hid hp3
 have HP4 := hid hp4
 have HW := hid hW
 clear hW hp1 hp2 hp3 hp4
 have s0 := q1.cell (j := 0) rfl
 have s1 := q1.cell (j := 1) rfl
 have i0 := q2.cell (j := 0) rfl
 have t0 := q3.cell (j := 0) rfl
 have t1 := q3.cell (j := 1) rfl
 have t2 := q3.cell (j := 2) rfl
 have C1 := implValidStore_any (.slice sa x.2.length sc) x W (h0.below hbW) ok0 g0
 have C2 := fun w' (hb : Below W.heap.size W w') => implValidInk_any (.slice ia X.length ic) X w' (h1.below (hbW.trans (hb.mono hlW))) ok1
 have C3 := fun w' => implValidSetting_any ⟨pts, mst, pen⟩ w'
 cases hv1 : validStore x
 ·have HZ : Hid (latOfX x X ⟨pts, mst, pen⟩ = (0, []) ∧ latOfC x X ⟨pts, mst, pen⟩ = 1) := by show _ ∧ _; simp [latOfX, latOfC, latB, hv1]
  rw [hv1] at C1
  go_enter Tryz.func20, Tryz.ntmps20
  go_upto_region 1 with fail
  rw [← HP4.out, ← HP3.out, ← HP2.out, ← HP1.out, ← HW.out]
  go_wp2_with fail
  refine C1.mono ?_
  rintro e w3 ⟨rfl, hb⟩
  have bx := q4.later hb
  have b0 := bx.cell (j := 0) rfl
  have b1 := bx.cell (j := 1) rfl
  have bf := bx.free
  go_wp2_with fail
  refine bodyPost_ret (v := .tuple #[.agg #[.int .i64 0, .slice none 0 0], .int .i64 1]) (by simp [results, Tryz.results20, go_sem, b0, b1]) rfl (bad _ _ HZ ?_)
  exact ((hbW.trans (hb.mono hlW)).setCell hge4 _).setCell hge4 _
 rw [hv1] at C1
 cases hv2 : validInk X
 ·have HZ : Hid (latOfX x X ⟨pts, mst, pen⟩ = (0, []) ∧ latOfC x X ⟨pts, mst, pen⟩ = 1) := by show _ ∧ _; simp [latOfX, latOfC, latB, hv1, hv2]
  rw [hv2] at C2
  go_enter Tryz.func20, Tryz.ntmps20
  go_upto_region 1 with fail
  rw [← HP4.out, ← HP3.out, ← HP2.out, ← HP1.out, ← HW.out]
  go_wp2_with fail
  refine C1.mono ?_
  rintro e w3 ⟨rfl, hb⟩
  have j0 := cell_later hb i0
  go_wp2_with fail
  refine (C2 w3 hb).mono ?_
  rintro e w4 ⟨rfl, hb4⟩
  have hb34 := hb.trans (hb4.mono hb.size)
  have bx := q4.later hb34
  have b0 := bx.cell (j := 0) rfl
  have b1 := bx.cell (j := 1) rfl
  have bf := bx.free
  go_wp2_with fail
  refine bodyPost_ret (v := .tuple #[.agg #[.int .i64 0, .slice none 0 0], .int .i64 1]) (by simp [results, Tryz.results20, go_sem, b0, b1]) rfl (bad _ _ HZ ?_)
  exact ((hbW.trans (hb34.mono hlW)).setCell hge4 _).setCell hge4 _
 rw [hv2] at C2
 cases hv3 : validSet ⟨pts, mst, pen⟩
 ·have HZ : Hid (latOfX x X ⟨pts, mst, pen⟩ = (0, []) ∧ latOfC x X ⟨pts, mst, pen⟩ = 1) := by show _ ∧ _; simp [latOfX, latOfC, latB, hv1, hv2, hv3]
  rw [hv3] at C3
  go_enter Tryz.func20, Tryz.ntmps20
  go_upto_region 1 with fail
  rw [← HP4.out, ← HP3.out, ← HP2.out, ← HP1.out, ← HW.out]
  go_wp2_with fail
  refine C1.mono ?_
  rintro e w3 ⟨rfl, hb⟩
  have j0 := cell_later hb i0
  go_wp2_with fail
  refine (C2 w3 hb).mono ?_
  rintro e w4 ⟨rfl, hb4⟩
  have hb34 := hb.trans (hb4.mono hb.size)
  have k0 := cell_later hb34 t0
  have k1 := cell_later hb34 t1
  have k2 := cell_later hb34 t2
  go_wp2_with fail
  refine (C3 w4).mono ?_
  rintro e w5 ⟨rfl, hb5⟩
  replace hb34 := hb34.trans (hb5.mono hb34.size)
  have bx := q4.later hb34
  have b0 := bx.cell (j := 0) rfl
  have b1 := bx.cell (j := 1) rfl
  have bf := bx.free
  go_wp2_with fail
  refine bodyPost_ret (v := .tuple #[.agg #[.int .i64 0, .slice none 0 0], .int .i64 1]) (by simp [results, Tryz.results20, go_sem, b0, b1]) rfl (bad _ _ HZ ?_)
  exact ((hbW.trans (hb34.mono hlW)).setCell hge4 _).setCell hge4 _
 rw [hv3] at C3
 have h3 := hv3
 unfold validSet at h3
 rw [Bool.and_eq_true, Bool.and_eq_true] at h3
 have hp := inB_true.1 h3.1.1
 have hm := inB_true.1 h3.1.2
 have hn := inB_true.1 h3.2
 simp only at hp hm hn
 have hlat : latB x X ⟨pts, mst, pen⟩ = true := by simp [latB, hv1, hv2, hv3]
 clear h3
 obtain ⟨q, hq⟩ : ∃ q : Nat, pts = q + 1 := ⟨(pts - 1).toNat, by omega⟩
 obtain ⟨m, rfl⟩ : ∃ m : Nat, mst = m := ⟨mst.toNat, by omega⟩
 subst hq
 have hall : allEd x X ⟨(q : Int) + 1, m, pen⟩ = edgesTo x X q m pen (grpTo X.length X.length).length := by
  unfold allEd
  simp only
  rw [show ((q : Int) + 1 - 1).toNat = q by omega, show ((m : Int)).toNat = m by omega]
 obtain ⟨N, hN⟩ : ∃ N : Int, N = (X.length : Int) + 1 := ⟨_, rfl⟩
 have HLN := putTo_len (edgesTo x X q m pen (grpTo X.length X.length).length)
 obtain ⟨L, hL⟩ : ∃ L, L = putTo (edgesTo x X q m pen (grpTo X.length X.length).length) := ⟨_, rfl⟩
 have HX : Hid (∀ c : Int, c = (if L.length ≤ 200 then 0 else 5) → latOfC x X ⟨(q : Int) + 1, m, pen⟩ = c ∧ latOfX x X ⟨(q : Int) + 1, m, pen⟩ = if L.length ≤ 200 then (N, L) else (0, [])) := hid (by
  rintro c rfl
  rw [← hL] at HLN
  unfold latOfC latOfX
  rw [if_pos hlat, hall, ← hL, HLN, hN]
  refine ⟨rfl, ?_⟩
  by_cases h200 : (edgesTo x X q m pen (grpTo X.length X.length).length).length ≤ 200
  ·rw [if_pos ⟨hlat, h200⟩, if_pos h200]
  ·rw [if_neg (fun h => h200 h.2), if_neg h200])
 have wN : IntKind.i64.wrap ((X.length : Int) + 1) = N := by rw [hN]; exact IntWalk.i64_in _ (by have := validInk_len hv2; omega)
 have HL := hid hL
 have hX16 := validInk_len hv2
 have hGl : (grpTo X.length X.length).length ≤ 48 := by have := grpTo_len X.length X.length; omega
 have hGa : ∀ k g, (grpTo X.length X.length)[k]? = some g → ∃ f t : Nat, g = (⟨f, t⟩ : DGroup) ∧ f < t ∧ t ≤ X.length := fun k g h => grpTo_at (Nat.le_refl _) (List.mem_of_getElem? h)
 have hES := fun k g (h : (grpTo X.length X.length)[k]? = some g) => edgesTo_succ (x := x) (q := q) (most := m) (pen := pen) h
 have hEL := fun k (h : k ≤ (grpTo X.length X.length).length) => edgesTo_len (x := x) (X := X) (q := q) (pen := pen) (show m ≤ 8 by omega) k h
 have hSP : ∀ Y, Y.Perm (edgesTo x X q m pen (grpTo X.length X.length).length) → Up ltE Y → Y = L := fun Y h1 h2 => by rw [hL]; exact sort_put h1 h2 (edgesTo_pw _ _ _ _ _ _)
 have CG := fun w' => groupsOf_any X.length w' (by omega)
 obtain ⟨G, hG⟩ : ∃ G, G = grpTo X.length X.length := ⟨_, rfl⟩
 rw [← hG] at hGl hGa hES hEL CG hSP HLN
 have HGA := hid hGa
 have HES := hid hES
 have HEL := hid hEL
 have HSP := hid hSP
 have HNN := hid hN
 have hvs := hid hv1
 have hvi := hid hv2
 have HLL := hid (show L.length = (edgesTo x X q m pen G.length).length by rw [HL.out, hG]; exact putTo_len _)
 clear hGa hES hEL hSP hG hall HLN hL hN hlat hv1 hv2 hv3 ok0 g0 HL
 go_enter Tryz.func20, Tryz.ntmps20
 go_upto_region 1 with fail
 rw [← HP4.out, ← HP3.out, ← HP2.out, ← HP1.out, ← HW.out]
 go_wp2_with fail
 refine C1.mono ?_
 rintro e w3 ⟨rfl, hb⟩
 have j0 := cell_later hb i0
 go_wp2_with fail
 refine (C2 w3 hb).mono ?_
 rintro e w4 ⟨rfl, hb4⟩
 have hb34 := hb.trans (hb4.mono hb.size)
 have k0 := cell_later hb34 t0
 have k1 := cell_later hb34 t1
 have k2 := cell_later hb34 t2
 go_wp2_with fail
 refine (C3 w4).mono ?_
 rintro e w5 ⟨rfl, hb5⟩
 have hb35 := hb34.trans (hb5.mono hb34.size)
 have l0 := cell_later hb35 i0
 clear C1 C2 C3 j0 k0 k1 k2
 go_upto_region 4 with fail
 obtain ⟨w6, hw6⟩ : ∃ u, u = w5.alloc (.cells #[.int .i64 N, .slice none 0 0] 54) := ⟨_, rfl⟩
 obtain ⟨r, hr⟩ : ∃ r, r = w5.heap.size := ⟨_, rfl⟩
 rw [← hw6, ← hr]
 have hb6 : Below w5.heap.size w5 w6 := by rw [hw6]; exact below_alloc _ _
 have b8 : Box w6 r #[.int .i64 N, .slice none 0 0] 54 := by rw [hw6, hr]; exact Box.new _ _ _
 have h6s := b8.lt
 clear hw6
 have hb36 := hb35.trans (hb6.mono hb35.size)
 have n0 := cell_later hb36 i0
 have hp4r : p4 < r := by have := q4.lt; have := hb35.size; omega
 have hWr : W.heap.size ≤ r := by have := hb35.size; omega
 clear hr
 clear l0
 go_wp2_with fail
 refine (CG w6).mono ?_
 rintro e w7 ⟨ug, rfl, hoG, hb7⟩
 obtain ⟨ga, gc, hug⟩ := hoG.isSlice
 subst hug
 have hb37 := hb36.trans (hb7.mono hb36.size)
 have hL0 : LtT N r w7 (edgesTo x X q m pen 0) w7 := ⟨_, b8.later hb7, Own.nil _ _ _, Below.refl _ _, fun _ _ _ _ h _ => h⟩
 have hGI := hoG.in_
 have hr7 : r < w7.heap.size := by have := hb7.size; omega
 clear hoG CG b8 n0 hb hb4 hb5 hb34 hb35 hb6 hb7 hb36
 go_wp2_with fail
 go_loopw [37] (fun i wr => ∃ k : Nat, k ≤ G.length ∧ i = .int .i64 k ∧ LtT N r w7 (edgesTo x X q m pen k) wr) (fun i _ => G.length - (intOf i).toNat)
 case atStart => exact ⟨0, Nat.zero_le _, rfl, hL0⟩
 case round =>
  clear hL0
  obtain ⟨k, hk, rfl, hst⟩ := hrel
  have hst0 := hst
  obtain ⟨uE, hbx, hoE, hcg, hty⟩ := hst
  have hbR : Below W.heap.size W wr := hb37.trans (hcg.mono hWr)
  have hrl := hbx.lt
  by_cases hlt : k < G.length
  ·have hli : (k : Int) < (G.length : Int) := by omega
   obtain ⟨g, hg⟩ : ∃ g, G[k]? = some g := ⟨_, List.getElem?_eq_getElem hlt⟩
   obtain ⟨f, t, rfl, hft, htX⟩ := HGA.out k g hg
   have HE := hid (HES.out k _ hg)
   have hll := HEL.out k hk
   have hGr : Arr eGroup wr (.slice ga G.length gc) G := (hGI.typed hty (by decide)).1.arr
   obtain ⟨gb, goff, gao, gcap, hgv, hgn, hgm, hga, hgc⟩ := hGr
   simp only [Value.slice.injEq] at hgv
   obtain ⟨rfl, _, rfl⟩ := hgv
   obtain ⟨hga', hgw⟩ := hga (by omega)
   subst hga'
   obtain ⟨d0, d1⟩ := eGroup_cells hgc hg
   simp only at d0 d1
   have c0 := cell_later hbR t0
   have wA : IntKind.i64.wrap ((t : Int) - (f : Int)) = (t : Int) - f := IntWalk.i64_in _ (by omega)
   obtain ⟨P, hP⟩ : ∃ P, P = ((t : Int) - f) * ((q : Int) + 1) := ⟨_, rfl⟩
   have hPm : ((t : Int) - f) * ((q : Int) + 1) ≤ 16 * 24 := Int.mul_le_mul (by omega) (by omega) (by omega) (by omega)
   have hPn : 0 ≤ ((t : Int) - f) * ((q : Int) + 1) := Int.mul_nonneg (by omega) (by omega)
   have wB : IntKind.i64.wrap (((t : Int) - f) * ((q : Int) + 1)) = P := by rw [hP]; exact IntWalk.i64_in _ (by omega)
   have HP := hid hP
   clear hP hPm hPn hg hgc hga
   go_upto_region 7 with fail
   obtain ⟨w9, hw9⟩ : ∃ u, u = wr.alloc (.cells #[.int .i64 f, .int .i64 t] 86) := ⟨_, rfl⟩
   obtain ⟨pg, hpg⟩ : ∃ p, p = wr.heap.size := ⟨_, rfl⟩
   rw [← hw9, ← hpg]
   have hb9 : Below wr.heap.size wr w9 := by rw [hw9]; exact below_alloc _ _
   have bg : Box w9 pg #[.int .i64 f, .int .i64 t] 86 := by rw [hw9, hpg]; exact Box.new _ _ _
   have e0 := bg.cell (j := 0) rfl
   have e1 := bg.cell (j := 1) rfl
   have c5 := cell_later hb9 c0
   have hst9 := hst0.below hb9
   have hbR9 := hbR.trans (hb9.mono hbR.size)
   clear hw9 hpg
   by_cases hP : P ≤ 72
   ·have hP2 : ¬ (72 < P) := by omega
    have hH : hypsG x X q m pen ⟨f, t⟩ = hypsI x (inkG X f t) q pen m := hypsG_t (by rw [← HP.out]; exact hP)
    rw [hH] at HE
    have hIl : (inkG X f t).length = t - f := inkG_len hft htX
    have hIv : validInk (inkG X f t) = true := validInk_sub hvi.out (inkG_sub X f t)
    have hIf : (inkG X f t).length * (q + 1) ≤ 72 := by
     rw [hIl]
     have h1 : (((t - f) * (q + 1) : Nat) : Int) = P := by rw [HP.out, Int.natCast_mul]; congr 1; omega
     omega
    have CI := fun w' (hb : Below w9.heap.size w9 w') => implInk_any (.slice ia X.length ic) X f t w' (h1.below (hbW.trans ((hbR9.trans (hb.mono hbR9.size)).mono hlW))) ok1 hvi.out hft htX
    obtain ⟨Y, hY⟩ : ∃ Y, Y = inkG X f t := ⟨_, rfl⟩
    have hYo : okInk Y := by rw [hY]; exact okInk_inkG ok1
    unfold InkPost at CI
    rw [← hY] at CI HE hIl hIv hIf
    have CH := fun w' v (hb : Below w9.heap.size w9 w') (hv : Strokes w' v Y) => recognized_any (.slice sa x.2.length sc) v x Y q m pen w' (h0.below (hbW.trans ((hbR9.trans (hb.mono hbR9.size)).mono hlW))) hv hYo hvs.out hIv (by omega) (by omega) (by omega) (by omega) hn.1 hn.2 hIf
    obtain ⟨H, hHe⟩ : ∃ H, H = hypsI x Y q pen m := ⟨_, rfl⟩
    have hHl : H.length ≤ 8 := by rw [hHe]; exact Nat.le_trans (hypsI_len _ _ _ _ _) (by omega)
    rw [← hHe] at CH HE
    have y0 := cell_later hbR9 s0
    have y1 := cell_later hbR9 s1
    have y2 := cell_later hbR9 i0
    have y3 := cell_later hbR9 t1
    have y4 := cell_later hbR9 t2
    have hY0 : 0 < Y.length := by omega
    clear hH hHe hY hIl
    go_upto_region 8 with fail
    refine wp_region_rel (fun i v w' => match i with
          | 0 => v = .agg #[.int .i64 x.1, .slice sa x.2.length sc]
          | 1 => v = .agg #[.slice ia X.length ic]
          | 2 => v = .agg #[.int .i64 f, .int .i64 t]
          | 3 => (∃ u, v = .agg #[u] ∧ Strokes w' u Y)
          | 4 => v = .agg #[.int .i64 ((q : Int) + 1), .int .i64 m, .int .i64 pen]
          | 5 => (∃ a c, v = .slice a H.length c ∧ Own eHyp 76 w9.heap.size w' v H)
          | 6 => v = .int .i64 H.length
          | 7 => v = .int .i64 0
          | _ => True) (by kernel_rfl) (by kernel_rfl) (by kernel_rfl) (by kernel_rfl) ?_ ?_ ?_
    ·intro i v w w' h hb
     match i, h with
     | 0, h => exact h
     | 1, h => exact h
     | 2, h => exact h
     | 3, h => exact (h.imp fun _ h' => ⟨h'.1, h'.2.below hb⟩)
     | 4, h => exact h
     | 5, h => exact (h.imp fun _ h1 => h1.imp fun _ h2 => ⟨h2.1, h2.2.below hb⟩)
     | 6, h => exact h
     | 7, h => exact h
     | (k + 8), h => exact h
    ·refine ⟨?_, ?_, ?_, ?_, ?_, ?_, ?_, ?_, trivial⟩
     ·intro ρ w' hbw ht hcs hfn hgl hdep
      refine ⟨fun _ => ?_, fun h => by cases h⟩
      have s3 : ρ (.tmp 3) = .pointer (some ⟨p1, 0, none⟩) := ht 3 rfl
      have y0 := cell_later hbw y0
      have y1 := cell_later hbw y1
      have y2 := cell_later hbw y2
      have c5 := cell_later hbw c5
      have y3 := cell_later hbw y3
      have y4 := cell_later hbw y4
      have e0 := cell_later hbw e0
      have e1 := cell_later hbw e1
      clear ht hdep hgl
      go_simp
      exact ⟨Below.refl _ _, rfl⟩
     ·intro ρ w' hbw ht hcs hfn hgl hdep
      refine ⟨fun _ => ?_, fun h => by cases h⟩
      have s4 : ρ (.tmp 4) = .pointer (some ⟨p2, 0, none⟩) := ht 4 rfl
      have y0 := cell_later hbw y0
      have y1 := cell_later hbw y1
      have y2 := cell_later hbw y2
      have c5 := cell_later hbw c5
      have y3 := cell_later hbw y3
      have y4 := cell_later hbw y4
      have e0 := cell_later hbw e0
      have e1 := cell_later hbw e1
      clear ht hdep hgl
      go_simp
      exact ⟨Below.refl _ _, rfl⟩
     ·intro ρ w' hbw ht hcs hfn hgl hdep
      refine ⟨fun _ => ?_, fun h => by cases h⟩
      have s10 : ρ (.tmp 10) = .pointer (some ⟨pg, 0, none⟩) := ht 10 rfl
      have y0 := cell_later hbw y0
      have y1 := cell_later hbw y1
      have y2 := cell_later hbw y2
      have c5 := cell_later hbw c5
      have y3 := cell_later hbw y3
      have y4 := cell_later hbw y4
      have e0 := cell_later hbw e0
      have e1 := cell_later hbw e1
      clear ht hdep hgl
      go_simp
      exact ⟨Below.refl _ _, rfl⟩
     ·intro ρ w' hbw ht hcs hfn hgl hdep
      refine ⟨fun _ => ?_, fun h => by cases h⟩
      have s51 : ρ (.tmp 51) = .agg #[.slice ia X.length ic] := hdep ⟨1, .data⟩ (by simp) rfl 51 rfl
      have s52 : ρ (.tmp 52) = .agg #[.int .i64 f, .int .i64 t] := hdep ⟨2, .data⟩ (by simp) rfl 52 rfl
      clear ht hdep hgl
      go_simp
      exact (CI w' hbw).mono fun e w'' ⟨uo, vn, he, hn, hb⟩ => ⟨_, he, hb, uo, rfl, strokes_nest hn⟩
     ·intro ρ w' hbw ht hcs hfn hgl hdep
      refine ⟨fun _ => ?_, fun h => by cases h⟩
      have s5 : ρ (.tmp 5) = .pointer (some ⟨p3, 0, none⟩) := ht 5 rfl
      have y0 := cell_later hbw y0
      have y1 := cell_later hbw y1
      have y2 := cell_later hbw y2
      have c5 := cell_later hbw c5
      have y3 := cell_later hbw y3
      have y4 := cell_later hbw y4
      have e0 := cell_later hbw e0
      have e1 := cell_later hbw e1
      clear ht hdep hgl
      go_simp
      exact ⟨Below.refl _ _, rfl⟩
     ·intro ρ w' hbw ht hcs hfn hgl hdep
      refine ⟨fun _ => ?_, fun h => by cases h⟩
      have s50 : ρ (.tmp 50) = .agg #[.int .i64 x.1, .slice sa x.2.length sc] := hdep ⟨0, .data⟩ (by simp) rfl 50 rfl
      have d53 := hdep ⟨3, .data⟩ (by simp) rfl 53 rfl
      have s54 : ρ (.tmp 54) = .agg #[.int .i64 ((q : Int) + 1), .int .i64 m, .int .i64 pen] := hdep ⟨4, .data⟩ (by simp) rfl 54 rfl
      clear ht hdep hgl
      obtain ⟨u, hu, hS⟩ := d53
      have s53 : ρ (.tmp 53) = .agg #[u] := hu
      go_simp
      exact (CH w' u hbw hS).mono fun e w'' ⟨u, he, ho, hb⟩ => ⟨_, he, hb, (by obtain ⟨a, c, hu⟩ := ho.isSlice; exact ⟨⟨a, c, hu⟩, ho.mono hbw.size⟩)⟩
     ·intro ρ w' hbw ht hcs hfn hgl hdep
      refine ⟨fun _ => ?_, fun h => by cases h⟩
      have d55 := hdep ⟨5, .data⟩ (by simp) rfl 55 rfl
      clear ht hdep hgl
      obtain ⟨a, c, hs, _⟩ := d55
      have s55 : ρ (.tmp 55) = .slice a H.length c := hs
      go_simp
      exact ⟨Below.refl _ _, rfl⟩
     ·intro ρ w' hbw ht hcs hfn hgl hdep
      refine ⟨fun _ => ?_, fun h => by cases h⟩
      clear ht hdep hgl
      go_simp
      exact ⟨Below.refl _ _, rfl⟩
    intro xx w10 hb10 hx
    have hx5 := hx 5 (by simp)
    have hx6 : xx 6 = .int .i64 H.length := hx 6 (by simp)
    have hx7 : xx 7 = .int .i64 0 := hx 7 (by simp)
    clear hx
    simp only [putAll, Act.put, List.setIfInBounds_toArray, List.set_cons_succ, List.set_cons_zero, Nat.zero_add, Nat.reduceAdd, hx6, hx7]
    clear hx6 hx7
    obtain ⟨ha, hc, hvh, hoH⟩ := hx5
    generalize xx 5 = uh at *
    subst hvh
    have hst10 := hst9.below hb10
    have bg10 := bg.later hb10
    obtain ⟨LE, hLE⟩ : ∃ L, L = edgesTo x X q m pen k := ⟨_, rfl⟩
    rw [← hLE] at hst10 HE hll
    have hHI := hoH.in_
    have hst11 : LtT N r w10 LE w10 := hst10.here
    have hc10 : Below r w7 w10 := hcg.trans ((hb9.mono (Nat.le_of_lt hrl)).trans (hb10.mono (by have := hb9.size; omega)))
    have ht10 : Typed tyE w7 w10 := typed_trans (typed_trans hty (typed_below hb9)) (typed_below hb10)
    clear CI CH hLE hst0 hst9 hst10 hoH y0 y1 y2 y3 y4
    go_wp2_with fail
    go_loopw [57] (fun i wq => ∃ j : Nat, j ≤ H.length ∧ i = .int .i64 j ∧ LtT N r w10 (edgesAt LE ⟨f, t⟩ H j) wq) (fun i _ => H.length - (intOf i).toNat)
    case atStart => exact ⟨0, Nat.zero_le _, rfl, by rw [edgesAt_zero]; exact hst11⟩
    case round =>
     clear hst11
     obtain ⟨wq, rfl⟩ : ∃ u, u = wr := ⟨wr, rfl⟩
     obtain ⟨j, hj, rfl, hstL⟩ := hrel
     have hstL0 := hstL
     obtain ⟨uL, hbx, hoL, hcL, htL⟩ := hstL
     by_cases hjl : j < H.length
     ·have hji : (j : Int) < (H.length : Int) := by omega
      obtain ⟨h, hh⟩ : ∃ h, H[j]? = some h := ⟨_, List.getElem?_eq_getElem hjl⟩
      have HT := hid (edgesAt_push (L := LE) (g := ⟨f, t⟩) hh)
      have hlen : (edgesAt LE ⟨f, t⟩ H j).length ≤ 1000 := by rw [edgesAt_len hj]; omega
      obtain ⟨la, co⟩ := h
      simp only [edgeOf] at HT
      have hHr : Arr eHyp wq (.slice ha H.length hc) H := (hHI.typed htL (by decide)).1.arr
      obtain ⟨hb_, hoff, hao, hcap, hhv, hhn, hhm, hha, hhc⟩ := hHr
      simp only [Value.slice.injEq] at hhv
      obtain ⟨rfl, _, rfl⟩ := hhv
      obtain ⟨hha', hhw⟩ := hha (by omega)
      subst hha'
      obtain ⟨d0, d1⟩ := eHyp_cells hhc hh
      simp only at d0 d1
      have bgq := bg10.typed htL (by decide)
      clear hhc hha hh
      go_upto_region 11 with fail
      obtain ⟨w11, hw11⟩ : ∃ u, u = wq.alloc (.cells #[.string la, .int .i64 co] 76) := ⟨_, rfl⟩
      obtain ⟨ph, hph⟩ : ∃ p, p = wq.heap.size := ⟨_, rfl⟩
      rw [← hw11, ← hph]
      have hb11 : Below wq.heap.size wq w11 := by rw [hw11]; exact below_alloc _ _
      have bh : Box w11 ph #[.string la, .int .i64 co] 76 := by rw [hw11, hph]; exact Box.new _ _ _
      have z0 := bh.cell (j := 0) rfl
      have z1 := bh.cell (j := 1) rfl
      have bg11 := bgq.later hb11
      have e0 := bg11.cell (j := 0) rfl
      have e1 := bg11.cell (j := 1) rfl
      have hst12 := hstL0.below hb11
      clear hw11 hph hbx hoL hcL htL hstL0
      obtain ⟨uL, hbx, hoL, hcL, htL⟩ := hst12
      obtain ⟨L, hL⟩ : ∃ L, L = edgesAt LE ⟨f, t⟩ H j := ⟨_, rfl⟩
      rw [← hL] at hoL hlen HT
      obtain ⟨oa, oc, hu⟩ := hoL.isSlice
      subst hu
      obtain ⟨n, hn⟩ : ∃ n, n = L.length := ⟨_, rfl⟩
      rw [← hn] at hbx
      have hoL' := hoL
      rw [← hn] at hoL'
      have HNL := hid hn
      have a1 := hbx.cell (j := 1) rfl
      have hlq := hbx.lt
      have hn1 : n ≤ 1000 := by omega
      clear hL hn hoL hlen
      have hbA := below_alloc w11 (.cells #[.int .i64 f, .int .i64 t, .string la, .int .i64 co] 89)
      have hoB := hoL'.below hbA
      go_wp2_with (at_builtin; refine wpList_appG rfl _ _ 52 rfl (r + 1) 89 _ 40 infEdge Tryz.underlying52 rfl (.slice oa n oc) L (by rfl) hoB _ [(⟨f, t, la, co⟩ : DEdge)] (by rfl) (arr_block1 (E := eEdge) (n := 1) [(⟨f, t, la, co⟩ : DEdge)] #[.int .i64 f, .int .i64 t, .string la, .int .i64 co] rfl rfl (by decide) (by simp)) (by rw [← HNL.out]; unfold maxLen; simp <;> omega) (by rw [← HNL.out]; simp <;> omega) (by simp <;> omega) ?_)
      intro u7 w12 ho7 hg7 _
      obtain ⟨ua, uc, hu7⟩ := ho7.isSlice
      rw [show (L ++ [(⟨f, t, la, co⟩ : DEdge)]).length = n + 1 by rw [List.length_append, ← HNL.out]; rfl] at hu7
      subst hu7
      have gneq : ∀ kk, (Value.slice oa n oc).ownBlock = some kk → r < kk := fun kk hh => by have := (World.ownsRow.lt hoB kk hh).1; omega
      have hbx7 := grownBoxG (hbx.later hbA) hg7 (fun hh => by have := gneq r hh; omega)
      have hbl7 : Below r w11 w12 := (hbA.mono (Nat.le_of_lt hlq)).grown hg7 (by simp <;> omega) (fun kk hh => Nat.le_of_lt (gneq kk hh))
      have hty7 : Typed tyE w11 w12 := typed_trans (typed_below hbA) (typed_tyE (own_typed hoB hg7))
      have f0 := hbx7.cell (j := 1) rfl
      have ff := hbx7.free
      have hx := hid (show LtT N r w10 (L ++ [⟨f, t, la, co⟩]) (w12.setCell ⟨r, 1, none⟩ (.slice ua (n + 1) uc)) from ⟨_, hbx7.set 1 _, ho7.setBelow (a := ⟨r, 1, none⟩) (Nat.lt_succ_self r) _, (hcL.trans hbl7).setCell (Nat.le_refl _) _, typed_trans (typed_trans htL hty7) (typed_set hbx7 rfl 1 _)⟩)
      clear ho7 hg7 hbx7 hbl7 hty7 hoB hoL' hbA gneq hbx bh bg11 hcL htL
      go_wp2_with fail
      go_roundw
      case rel => exact ⟨j + 1, by omega, by go_num, by rw [← HT.out]; exact hx.out⟩
      case measure => simp [intOf]; omega
     ·have hji : ¬ ((j : Int) < (H.length : Int)) := by omega
      obtain rfl : j = H.length := by omega
      have hend : LtT N r w7 (edgesTo x X q m pen (k + 1)) wq := by
       rw [HE.out, ← edgesAt_all]
       exact ⟨uL, hbx, hoL, hc10.trans hcL, typed_trans ht10 htL⟩
      clear hoL hbx hstL0
      go_wp2_with fail
      go_roundw
      case rel => exact ⟨k + 1, by omega, by go_num, hend⟩
      case measure => simp [intOf]; omega
   ·have hP2 : 72 < P := by omega
    have hH : hypsG x X q m pen ⟨f, t⟩ = [] := hypsG_f (by rw [← HP.out]; exact hP)
    have hend : LtT N r w7 (edgesTo x X q m pen (k + 1)) w9 := by
     rw [HE.out, hH, List.map_nil, List.append_nil]
     exact hst9
    clear hst9 hst0
    go_wp2_with fail
    go_roundw
    case rel => exact ⟨k + 1, by omega, by go_num, hend⟩
    case measure => simp [intOf]; omega
  ·have hli : ¬ ((k : Int) < (G.length : Int)) := by omega
   obtain rfl : k = G.length := by omega
   have hle := HEL.out G.length (Nat.le_refl _)
   obtain ⟨E, hE⟩ : ∃ E, E = edgesTo x X q m pen G.length := ⟨_, rfl⟩
   rw [← hE] at hoE hle HSP HLL
   obtain ⟨oa, oc, hu⟩ := hoE.isSlice
   obtain ⟨n, hn⟩ : ∃ n, n = E.length := ⟨_, rfl⟩
   rw [← hn] at hu hle HLL
   subst hu
   have HN := hid hn
   have a1 := hbx.cell (j := 1) rfl
   have b4r : Box wr p4 #[.int .i64 0, .slice none 0 0] 54 := q4.later hbR
   have b0 := b4r.cell (j := 0) rfl
   have b1 := b4r.cell (j := 1) rfl
   have bf := b4r.free
   have hbE := hbW.trans (hbR.mono hlW)
   clear hst0 hE hGI hty hcg hn
   by_cases h200 : n ≤ 200
   ·have hgt : ¬ ((200 : Int) < (n : Int)) := by omega
    have HR := hid (HX.out 0 (by rw [HLL.out, if_pos h200]))
    rw [HLL.out, if_pos h200] at HR
    have CS := sortEd_any (.slice oa n oc) (r + 1) E wr hoE (by rw [← HN.out]; omega)
    clear HX wN hoE
    go_wp2_with fail
    refine CS.mono ?_
    rintro e w8 ⟨rfl, Y, hpY, huY, hoY, hbY⟩
    have hbY := hbY (by omega)
    obtain rfl := HSP.out Y hpY huY
    have bx8 := hbx.below hbY (Nat.lt_succ_self r)
    have x0 := bx8.cell (j := 0) rfl
    have x1 := bx8.cell (j := 1) rfl
    have b48 := b4r.below hbY (by omega)
    have y0 := b48.cell (j := 0) rfl
    have y1 := b48.cell (j := 1) rfl
    have yf := b48.free
    clear b0 b1 bf a1 hpY huY CS HSP
    go_wp2_with fail
    refine bodyPost_ret (v := .tuple #[.agg #[.int .i64 N, .slice oa n oc], .int .i64 0]) (by simp [results, Tryz.results20, go_sem, y0, y1]) rfl ?_
    rw [HR.out.1, HR.out.2]
    refine ⟨_, rfl, rLt_new (B := r + 1) ?_ (by have := hlW; omega), ((hbE.trans (hbY.mono (by have := hlW; omega))).setCell hge4 _).setCell hge4 _⟩
    exact (hoY.setBelow (a := ⟨p4, 0, none⟩) (by show p4 < r + 1; omega) _).setBelow (a := ⟨p4, 1, none⟩) (by show p4 < r + 1; omega) _
   ·have hgt : (200 : Int) < (n : Int) := by omega
    have HR := hid (HX.out 5 (by rw [HLL.out, if_neg h200]))
    rw [HLL.out, if_neg h200] at HR
    have HZ := hid (And.intro HR.out.2 HR.out.1)
    clear HX wN hoE HSP HR
    go_wp2_with fail
    refine bodyPost_ret (v := .tuple #[.agg #[.int .i64 0, .slice none 0 0], .int .i64 5]) (by simp [results, Tryz.results20, go_sem, b0, b1]) rfl (bad _ _ HZ ?_)
    exact (hbE.setCell hge4 _).setCell hge4 _
end Go.Proofs.YtlnoelbeaolikaaGreat
