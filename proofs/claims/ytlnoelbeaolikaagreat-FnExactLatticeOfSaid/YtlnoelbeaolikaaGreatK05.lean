/- The type Point: how its values lie in cells, and what the laws' functions over it do: every function here is shown for every argument that can be read. -/
import Derived.Test.YtlnoelbeaolikaaGreatRows
import Derived.Test.YtlnoelbeaolikaaGreatK02
import Derived.Test.YtlnoelbeaolikaaGreatK01
import Derived.Test.YtlnoelbeaolikaaGreatK03
import Derived.Test.YtlnoelbeaolikaaGreatK00
import Derived.Lib.Strings
import Derived.Lib.Slices
import Derived.Lib.Walk
import Derived.Lib.Bytealg
namespace Go.Proofs.YtlnoelbeaolikaaGreat
open Go.RowKit
structure DPoint where
 x : Int
 y : Int
 t : Int
def ePoint : Enc DPoint := ⟨fun x => [.int .i64 x.x, .int .i64 x.y, .int .i64 x.t], 3, fun _ => rfl, by decide, fun x u hu => by simp at hu; rcases hu with rfl | rfl | rfl <;> rfl⟩
theorem ePoint_cells {w : World} {b off : Nat} {es : List DPoint} (h : Cells ePoint w b off es) {k : Nat} {x : DPoint} (hx : es[k]? = some x) :
  w.cell? ⟨b, off + k * 3, none⟩ = some (.int .i64 x.x) ∧ w.cell? ⟨b, off + k * 3 + 1, none⟩ = some (.int .i64 x.y) ∧ w.cell? ⟨b, off + k * 3 + 2, none⟩ = some (.int .i64 x.t) :=
 ⟨h k x hx 0 _ rfl, h k x hx 1 _ rfl, h k x hx 2 _ rfl⟩
set_option maxRecDepth 100000 in
set_option maxHeartbeats 400000 in
theorem toPoint_any (x : DPoint) (w : World) :
  Calls Tryz.prog 146 #[.agg #[.int .i64 x.x, .int .i64 x.y, .int .i64 x.t]] w (Ret (.agg #[.int .i64 x.x, .int .i64 x.y, .int .i64 x.t]) w) := by
 go_enter Tryz.func146, Tryz.ntmps146
 go_wp2
 exact bodyPost_ret (v := .agg #[.int .i64 x.x, .int .i64 x.y, .int .i64 x.t]) (by simp [results, Tryz.results146, go_sem]) rfl
  (ret_ret rfl ((((Below.refl _ _).alloc (Nat.le_refl _) _).alloc (by simp) _).alloc (by simp <;> omega) _))
theorem infoPoint : (Tryz.prog.info? 114).map (fun i => (i.zero, i.size, i.bytes)) = some (some (.agg #[.int .i64 0, .int .i64 0, .int .i64 0]), 3, 24) := by kernel_rfl
set_option maxRecDepth 100000 in
set_option maxHeartbeats 400000 in
theorem toPointS_any (v : Value) (es : List DPoint) (w : World) (h : Arr ePoint w v es) (hn : es.length ≤ 1048576) :
  Calls Tryz.prog 100 #[v] w (RetOwn ePoint 114 es w) := by
 obtain ⟨b, off, ao, cap, rfl, hnc, hcm, hao, hc⟩ := h
 obtain ⟨i0, hi, hz0, hz1, hz2⟩ := info_parts infoPoint
 go_enter Tryz.func100, Tryz.ntmps100
 go_wp2_with (at_make; refine wpList_make_full _ rfl _ _ 110 rfl w.heap.size 114 i0 _ 3 Tryz.underlying110 hi hz0 hz1 _ _ _ _ es.length rfl rfl rfl rfl (by rw [hz2]; omega) (by unfold maxLen; omega) (Nat.le_refl _) ?_; intro w1 hown hgr)
 have hown := Own.made (E := ePoint) (z := (⟨0, 0, 0⟩ : DPoint)) hown rfl
 obtain ⟨g, hg⟩ : ∃ g, g = w.heap.size := ⟨_, rfl⟩
 rw [← hg] at hown ⊢
 have hw1 : Below w.heap.size w w1 := (Below.refl _ _).grown hgr (Nat.le_refl _) (by simp)
 have hg1 : g < w1.heap.size := hown.lt.2
 have Hg := hid hg
 clear hg
 go_loopw [4] (fun i wr => ∃ (k : Nat) (ys : List DPoint), k ≤ es.length ∧ i = .int .i64 k ∧ ys.length = es.length ∧ (∀ j, j < k → ys[j]? = es[j]?) ∧
   Own ePoint 114 g wr (.slice (some ⟨g, 0, none⟩) es.length es.length) ys ∧ Below w.heap.size w wr ∧ g < wr.heap.size) (fun i _ => es.length - (intOf i).toNat)
 case atStart => exact ⟨0, _, Nat.zero_le _, rfl, by simp, by simp, hown, hw1, hg1⟩
 case round =>
  clear hown hgr hw1 hg1 hi hz0 hz1 hz2 hnc hcm
  obtain ⟨k, ys, hk, rfl, hyl, hys, hown, hb, hgw⟩ := hrel
  have HY := hid hyl
  clear hyl
  by_cases hlt : k < es.length
  ·obtain ⟨hao', hbw⟩ := hao (by omega)
   subst hao'
   obtain ⟨x, hx⟩ : ∃ x, es[k]? = some x := ⟨_, List.getElem?_eq_getElem hlt⟩
   obtain ⟨c0, c1, c2⟩ := ePoint_cells (hc.below hb hbw) hx
   clear hao
   have HYS := hid hys
   clear hys
   go_wp2_with (go_at_call 146; refine (toPoint_any _ _).mono ?_; rintro e w2 ⟨rfl, hb2⟩; have hown2 := hown.below hb2; clear hown; have hw2 := hb2.size; obtain ⟨u0, hu0⟩ := hown2.slot HY.out.symm k hlt 0 (by decide); obtain ⟨u1, hu1⟩ := hown2.slot HY.out.symm k hlt 1 (by decide); obtain ⟨u2, hu2⟩ := hown2.slot HY.out.symm k hlt 2 (by decide); have hf := hown2.free HY.out.symm; have hv0 : w2.cell? ⟨g, k * 3, none⟩ = some u0 := hu0; have hv1 : w2.cell? ⟨g, k * 3 + 1, none⟩ = some u1 := hu1; have hv2 : w2.cell? ⟨g, k * 3 + 2, none⟩ = some u2 := hu2; clear hu0 hu1 hu2)
   go_roundw
   case rel =>
    have h1 := fill_step HY.out HYS.out hx
    have h2 := hown2.set HY.out.symm k (by rw [HY.out]; exact hlt) x
    exact ⟨k + 1, ys.set k x, by omega, by go_num, h1.1, h1.2, h2.1, (hb.trans (hb2.mono (by rw [← Hg.out]; omega))).grown h2.2 (by have := hb.size; omega) (by have := Hg.out; simp; omega), Nat.lt_of_lt_of_le (Nat.lt_of_lt_of_le hgw hw2) h2.2.size⟩
   case measure => simp [intOf]; omega
  ·go_wp2
   go_ret
   have := fill_done HY.out hys (by omega)
   subst this
   exact ⟨_, rfl, by rw [← Hg.out, ← HY.out]; exact hown, hb⟩
def szPoint (_ : DPoint) : Nat := 0
def goodPoint (x : DPoint) : Prop := (Lit.int .i64 x.x).wf = true ∧ (Lit.int .i64 x.y).wf = true ∧ (Lit.int .i64 x.t).wf = true
theorem sumOf_szPoint (es : List DPoint) : sumOf szPoint es = 0 := by
 unfold sumOf; induction es with
 | nil => rfl
 | cons e es ih => simp only [List.map_cons, List.sum_cons, ih]; rfl
set_option maxRecDepth 100000 in
set_option maxHeartbeats 400000 in
theorem szPointS_any (v : Value) (es : List DPoint) (left : Int) (w : World) (h : Arr ePoint w v es) (_hs : ∀ x ∈ es, goodPoint x) (hl : 0 ≤ left) (hu : left ≤ 1048576) :
  Calls Tryz.prog 89 #[v, .int .i64 left] w (Ret (.int .i64 (szOf (es.length + sumOf szPoint es) left)) w) := by
 rw [sumOf_szPoint, Nat.add_zero]
 obtain ⟨b, off, ao, cap, rfl, hnc, hcm, hao, hc⟩ := h
 unfold maxLen at hcm
 by_cases h0 : left < es.length
 ·go_enter Tryz.func89, Tryz.ntmps89
  go_wp2
  go_ret
  exact ret_int (by rw [szOf_neg (by omega)]) (Below.refl _ _)
 ·go_enter Tryz.func89, Tryz.ntmps89
  go_wp2
  go_ret
  exact ret_int (by rw [szOf_pos (by omega)]) (Below.refl _ _)
set_option maxRecDepth 100000 in
set_option maxHeartbeats 400000 in
theorem eqPoint_any (x : DPoint) (w : World) :
  Calls Tryz.prog 161 #[.agg #[.int .i64 x.x, .int .i64 x.y, .int .i64 x.t], .agg #[.int .i64 x.x, .int .i64 x.y, .int .i64 x.t]] w (Ret (.bool true) w) := by
 go_enter Tryz.func161, Tryz.ntmps161
 go_wp2
 go_ret
 exact ret_bool rfl (((Below.refl _ _).alloc (Nat.le_refl _) _).alloc (by simp) _)
set_option maxRecDepth 100000 in
set_option maxHeartbeats 400000 in
theorem eqPointS_any (v1 v2 : Value) (es : List DPoint) (w : World) (h1 : Arr ePoint w v1 es) (h2 : Arr ePoint w v2 es) :
  Calls Tryz.prog 115 #[v1, v2] w (Ret (.bool true) w) := by
 obtain ⟨b, off, ao, cap, rfl, hnc, hcm, hao, hc⟩ := h1
 obtain ⟨b2, off2, ao2, cap2, rfl, hnc2, hcm2, hao2, hc2⟩ := h2
 unfold maxLen at hcm
 go_enter Tryz.func115, Tryz.ntmps115
 go_wp2
 go_loopw [5] (fun i wr => ∃ k : Nat, k ≤ es.length ∧ i = .int .i64 k ∧ Below w.heap.size w wr) (fun i _ => es.length - (intOf i).toNat)
 case atStart => exact ⟨0, Nat.zero_le _, rfl, Below.refl _ _⟩
 case round =>
  obtain ⟨k, hk, rfl, hb⟩ := hrel
  by_cases hlt : k < es.length
  ·obtain ⟨hao', hbw⟩ := hao (by omega)
   obtain ⟨hao2', hbw2⟩ := hao2 (by omega)
   subst hao' hao2'
   obtain ⟨x, hx⟩ : ∃ x, es[k]? = some x := ⟨_, List.getElem?_eq_getElem hlt⟩
   obtain ⟨c0, c1, c2⟩ := ePoint_cells (hc.below hb hbw) hx
   obtain ⟨d0, d1, d2⟩ := ePoint_cells (hc2.below hb hbw2) hx
   have c0 := ext_cell c0
   have c1 := ext_cell c1
   have c2 := ext_cell c2
   have d0 := ext_cell d0
   have d1 := ext_cell d1
   have d2 := ext_cell d2
   clear hao hao2
   have hli : (k : Int) < (es.length : Int) := by omega
   go_wp2
   refine wp_region_ext (by kernel_rfl) (by kernel_rfl) ?_
   repeat (go_big_quiet_step (((go_at_call 161; exact ret_ext (eqPoint_any _ _)))))
   refine wpQuiet_nil ?_
   intro _ hw'
   obtain ⟨nq, hw''⟩ := hw'
   subst hw''
   go_wp2
   go_roundw
   case rel => exact ⟨k + 1, by omega, by go_num, hb.trans ((ext_below _ _).mono hb.size)⟩
   case measure => simp [intOf]; omega
  ·go_wp2
   go_ret
   exact ret_bool rfl hb
/-- what markTS leaves -/
def mkPoint (k : Int) (n : Nat) : List DPoint := (List.range n).map fun (i : Nat) => ⟨k + 3 * (i : Int), k + 3 * (i : Int) + 1, k + 3 * (i : Int) + 1 + 1⟩
theorem mkPoint_len (k : Int) (n : Nat) : (mkPoint k n).length = n := by simp [mkPoint]
theorem mkPoint_get (k : Int) (n i : Nat) (h : i < n) : (mkPoint k n)[i]? = some ⟨k + 3 * (i : Int), k + 3 * (i : Int) + 1, k + 3 * (i : Int) + 1 + 1⟩ := by simp [mkPoint, h]
set_option maxHeartbeats 1000000 in
theorem markPointS_any (v : Value) (es : List DPoint) (lo hi : Nat) (k : Int) (w : World) (h : OwnIn ePoint 114 lo hi w v es) (hn : es.length ≤ 1048576) (hk0 : 0 ≤ k) (hk1 : k ≤ 20000000) :
  Calls Tryz.prog 75 #[v, .int .i64 k] w (RetMark (Rep.flat ePoint 114) (mkPoint k es.length) (k + 3 * (es.length : Int)) lo hi v w) := by
 have hsl : ∃ (ao : Option Addr) (cap g : Nat), v = .slice ao es.length cap ∧ (0 < es.length → ao = some ⟨g, 0, none⟩) := by
  rcases h.1.shape with ⟨rfl, rfl⟩ | ⟨g, cap, rfl, _, _⟩
  ·exact ⟨none, 0, 0, rfl, by simp⟩
  ·exact ⟨_, cap, g, rfl, fun _ => rfl⟩
 obtain ⟨ao, cap, g, rfl, hao⟩ := hsl
 go_enter Tryz.func75, Tryz.ntmps75
 go_wp2
 go_loopw [1, 5] (fun kv iv wr => ∃ (i : Nat) (ys : List DPoint), i ≤ es.length ∧ iv = .int .i64 i ∧ kv = .int .i64 (k + 3 * (i : Int)) ∧ ys.length = es.length ∧ (∀ j, j < i → ys[j]? = (mkPoint k es.length)[j]?) ∧
   OwnIn ePoint 114 lo hi wr (.slice ao es.length cap) ys ∧ Mk (fun T => T == 114) lo hi w wr) (fun _ i _ => es.length - (intOf i).toNat)
 case atStart => exact ⟨0, es, Nat.zero_le _, rfl, by simp, rfl, by simp, h, Mk.refl _ _ _ _⟩
 case round =>
  clear h
  obtain ⟨i, ys, hk, rfl, rfl, hyl, hys, ho, hch⟩ := hrel
  have HY := hid hyl
  have HYS := hid hys
  clear hyl hys
  by_cases hlt : i < es.length
  ·have hao' := hao (by omega)
   subst hao'
   clear hao
   obtain ⟨y, hy⟩ : ∃ y, ys[i]? = some y := ⟨_, List.getElem?_eq_getElem (by rw [HY.out]; exact hlt)⟩
   have Y0 := hid hy
   clear hy
   have O0 := ho
   clear ho
   obtain ⟨u0, hu0⟩ := O0.1.slot (by simp [HY.out]) i hlt 0 (by decide)
   obtain ⟨u1, hu1⟩ := O0.1.slot (by simp [HY.out]) i hlt 1 (by decide)
   obtain ⟨u2, hu2⟩ := O0.1.slot (by simp [HY.out]) i hlt 2 (by decide)
   have hv0 : wr.cell? ⟨g, i * 3, none⟩ = some u0 := hu0
   have hv1 : wr.cell? ⟨g, i * 3 + 1, none⟩ = some u1 := hu1
   have hv2 : wr.cell? ⟨g, i * 3 + 2, none⟩ = some u2 := hu2
   have hf := O0.1.free (by simp [HY.out])
   clear hu0 hu1 hu2
   go_wp2
   have S0 := O0.set1 (by simp [HY.out]) Y0.out (j := 0) (x' := (⟨k + 3 * (i : Int), y.y, y.t⟩ : DPoint)) (u := .int .i64 (k + 3 * (i : Int))) (by decide) rfl
   have O1 := S0.1
   have Y1 := hid (set_same (y := (⟨k + 3 * (i : Int), y.y, y.t⟩ : DPoint)) Y0.out)
   have S1 := O1.set1 (by simp [HY.out]) Y1.out (j := 1) (x' := (⟨k + 3 * (i : Int), k + 3 * (i : Int) + 1, y.t⟩ : DPoint)) (u := .int .i64 (k + 3 * (i : Int) + 1)) (by decide) rfl
   have O2 := S1.1
   rw [set_set] at O2
   have Y2 := hid (set_same (y := (⟨k + 3 * (i : Int), k + 3 * (i : Int) + 1, y.t⟩ : DPoint)) Y0.out)
   have S2 := O2.set1 (by simp [HY.out]) Y2.out (j := 2) (x' := (⟨k + 3 * (i : Int), k + 3 * (i : Int) + 1, k + 3 * (i : Int) + 1 + 1⟩ : DPoint)) (u := .int .i64 (k + 3 * (i : Int) + 1 + 1)) (by decide) rfl
   have O3 := S2.1
   rw [set_set] at O3
   have Y3 := hid (set_same (y := (⟨k + 3 * (i : Int), k + 3 * (i : Int) + 1, k + 3 * (i : Int) + 1 + 1⟩ : DPoint)) Y0.out)
   go_roundw
   case rel =>
    have h1 := fill_step (xs := mkPoint k es.length) (by rw [mkPoint_len]; exact HY.out) HYS.out (mkPoint_get k es.length i hlt)
    exact ⟨i + 1, ys.set i ⟨k + 3 * (i : Int), k + 3 * (i : Int) + 1, k + 3 * (i : Int) + 1 + 1⟩, by omega, by go_num, by go_num, by rw [h1.1, mkPoint_len], h1.2, O3, (((hch).trans S0.2).trans S1.2).trans S2.2⟩
   case measure => simp [intOf]; omega
  ·obtain rfl : i = es.length := by omega
   have := fill_done (xs := mkPoint k es.length) (by rw [mkPoint_len]; exact HY.out) HYS.out (by rw [mkPoint_len]; exact Nat.le_refl _)
   subst this
   clear HYS
   go_wp2
   go_ret
   exact ⟨rfl, ho, hch⟩
set_option maxRecDepth 100000 in
theorem decPoint (w : World) (cs : List Value) (h : Rd Tryz.prog w 212 cs) : ∃ x : DPoint, cs = ePoint.row x ∧ goodPoint x := by
 obtain ⟨hl, hf⟩ := rd_struct Tryz.underlying212 h
 rw [show Tryz.prog.cellsOf 212 = 3 by kernel_rfl] at hl
 obtain ⟨c0, c1, c2, rfl⟩ : ∃ c0 c1 c2, cs = [c0, c1, c2] := by
  match cs, hl with
  | [c0, c1, c2], _ => exact ⟨c0, c1, c2, rfl⟩
 have h0 : Rd Tryz.prog w 2 (([c0, c1, c2].drop 0).take (Tryz.prog.cellsOf 2)) := hf 0 _ rfl
 have h1 : Rd Tryz.prog w 2 (([c0, c1, c2].drop 1).take (Tryz.prog.cellsOf 2)) := hf 1 _ rfl
 have h2 : Rd Tryz.prog w 2 (([c0, c1, c2].drop 2).take (Tryz.prog.cellsOf 2)) := hf 2 _ rfl
 rw [show Tryz.prog.cellsOf 2 = 1 by kernel_rfl] at h0
 obtain ⟨s0, hs0, hg0⟩ := rd_int Tryz.underlying2 h0
 simp at hs0
 subst hs0
 rw [show Tryz.prog.cellsOf 2 = 1 by kernel_rfl] at h1
 obtain ⟨s1, hs1, hg1⟩ := rd_int Tryz.underlying2 h1
 simp at hs1
 subst hs1
 rw [show Tryz.prog.cellsOf 2 = 1 by kernel_rfl] at h2
 obtain ⟨s2, hs2, hg2⟩ := rd_int Tryz.underlying2 h2
 simp at hs2
 subst hs2
 exact ⟨⟨s0, s1, s2⟩, rfl, hg0, hg1, hg2⟩
end Go.Proofs.YtlnoelbeaolikaaGreat
namespace Go.Proofs.YtlnoelbeaolikaaGreat
open Go.ChangeShapes Go.WideShapes Go.ChangeAt Go.RowKit Go.Deep
abbrev XStroke := List DPoint
def rStroke : Rep XStroke := Rep.agg1 (Rep.flat ePoint 114)
def goodStroke (x : XStroke) : Prop := ∀ e ∈ x, goodPoint e
def sizeStroke (x : XStroke) : Nat := x.length + sumOf szPoint x
def okStroke (x : XStroke) : Prop := x.length ≤ 1048576
set_option maxRecDepth 100000 in
set_option maxHeartbeats 400000 in
theorem toStroke_any (v : Value) (x : XStroke) (w : World) {lo hi : Nat} (h : rStroke.at_ lo hi w v x) (hn : okStroke x) :
  Calls Tryz.prog 61 #[v] w (RetR rStroke x w) := by
 obtain ⟨u, rfl, h⟩ := h
 replace h := ArrIn.arr h
 go_enter Tryz.func61, Tryz.ntmps61
 go_wp2_with (go_at_call 100; refine (toPointS_any _ x _ (((h.alloc _).alloc _).alloc _) hn).mono ?_; rintro e w2 ⟨u, rfl, ho, hb⟩; obtain ⟨sa, sc, hu⟩ := ho.isSlice; subst hu; obtain ⟨hc, hf⟩ := bcell hb)
 refine bodyPost_ret (v := .agg #[.slice sa x.length sc]) (by simp [results, Tryz.results61, go_sem, hc]) rfl ⟨_, rfl, ⟨_, rfl, ⟨?_, ?_⟩⟩, ?_⟩
 ·exact (((ho.setBelow (by simp <;> omega) _).setBelow (by simp <;> omega) _)).mono (by simp <;> omega)
 ·intro g hg
  have := (World.ownsRow.lt ho g hg).2
  simpa using this
 ·exact (((((((Below.refl _ _).alloc (Nat.le_refl _) _).alloc (by simp) _).alloc (by simp <;> omega) _).trans (hb.mono (by simp <;> omega))).setCell (by simp <;> omega) _).setCell (by simp <;> omega) _)
set_option maxRecDepth 100000 in
set_option maxHeartbeats 400000 in
theorem szStroke_any (v : Value) (x : XStroke) (left : Int) (w : World) {lo hi : Nat} (h : rStroke.at_ lo hi w v x) (hs : goodStroke x) (hl : 0 ≤ left) (hu : left ≤ 1048576) :
  Calls Tryz.prog 51 #[v, .int .i64 left] w (Ret (.int .i64 (szOf (sizeStroke x) left)) w) := by
 obtain ⟨u, rfl, h⟩ := h
 replace h := ArrIn.arr h
 unfold sizeStroke
 by_cases hf : left < (x.length + sumOf szPoint x : Nat)
 all_goals
  go_enter Tryz.func51, Tryz.ntmps51
  go_wp2_with (go_at_call 89; refine (szPointS_any _ x _ _ (h.alloc _) hs hl hu).mono ?_; rintro e w2 ⟨rfl, hb⟩; first | rw [szOf_neg (by omega)] | rw [szOf_pos (by omega)])
  go_ret
  exact ret_int (by first | rw [szOf_neg (by omega)] | (rw [szOf_pos (by omega)]; omega)) (((Below.refl _ _).alloc (Nat.le_refl _) _).trans (hb.mono (by simp)))
set_option maxRecDepth 100000 in
set_option maxHeartbeats 400000 in
theorem eqStroke_any (v1 v2 : Value) (x : XStroke) (w : World) {lo1 hi1 lo2 hi2 : Nat} (h1 : rStroke.at_ lo1 hi1 w v1 x) (h2 : rStroke.at_ lo2 hi2 w v2 x) :
  Calls Tryz.prog 73 #[v1, v2] w (Ret (.bool true) w) := by
 obtain ⟨u1, rfl, h1⟩ := h1
 obtain ⟨u2, rfl, h2⟩ := h2
 replace h1 := ArrIn.arr h1
 replace h2 := ArrIn.arr h2
 go_enter Tryz.func73, Tryz.ntmps73
 go_wp2_with (go_at_call 115; refine (eqPointS_any _ _ x _ ((h1.alloc _).alloc _) ((h2.alloc _).alloc _)).mono ?_; rintro e w2 ⟨rfl, hb⟩)
 go_ret
 exact ret_bool rfl ((((Below.refl _ _).alloc (Nat.le_refl _) _).alloc (by simp) _).trans (hb.mono (by simp <;> omega)))
end Go.Proofs.YtlnoelbeaolikaaGreat
namespace Go.Proofs.YtlnoelbeaolikaaGreat
open Go.ChangeShapes Go.WideShapes Go.ChangeAt Go.RowKit Go.Deep
abbrev XInk := List XStroke
def rStrokeS : Rep XInk := Rep.nest ePoint 114 112
def rInk : Rep XInk := Rep.agg1 rStrokeS
def goodInk (x : XInk) : Prop := ∀ s ∈ x, goodStroke s
def totI (x : XInk) : Nat := sumOf List.length x
def sizeInk (x : XInk) : Nat := x.length + sumOf sizeStroke x
def okInk (x : XInk) : Prop := x.length + totI x ≤ 1048576
theorem sizeStroke_len (s : XStroke) : sizeStroke s = s.length := by unfold sizeStroke; rw [sumOf_szPoint]; rfl
theorem sizeInk_tot (x : XInk) : sumOf sizeStroke x = totI x := by
 unfold totI; congr 1; funext s; exact sizeStroke_len s
theorem okInk_of {x : XInk} (h : sizeInk x ≤ 1048576) : okInk x := by unfold sizeInk at h; rw [sizeInk_tot] at h; exact h
theorem okInk_st {x : XInk} (h : okInk x) {k : Nat} {s : XStroke} (hs : x[k]? = some s) : okStroke s := by
 have := sumOf_mem List.length hs
 unfold okInk totI at h; unfold okStroke; omega
def cntInk (x : XInk) : Int := 3 * (totI x : Int)
theorem cntInk_bd {x : XInk} (h : okInk x) : 0 ≤ cntInk x ∧ cntInk x ≤ 10000000 := by unfold okInk at h; unfold cntInk; omega
def mkXInk (k : Int) (x : XInk) : XInk := (List.range x.length).map fun i => mkPoint (k + 3 * (totI (x.take i) : Int)) ((x[i]?).getD []).length
theorem mkXInk_len (k : Int) (x : XInk) : (mkXInk k x).length = x.length := by simp [mkXInk]
theorem mkXInk_get (k : Int) {x : XInk} {i : Nat} {s : XStroke} (h : x[i]? = some s) : (mkXInk k x)[i]? = some (mkPoint (k + 3 * (totI (x.take i) : Int)) s.length) := by
 have hi := (List.getElem?_eq_some_iff.1 h).1
 simp [mkXInk, hi]
 have := (List.getElem?_eq_some_iff.1 h).2
 rw [this]
theorem nest_slice {lo hi : Nat} {w : World} {u : Value} {x : XInk} (h : rStrokeS.at_ lo hi w u x) : ∃ sa sc, u = .slice sa x.length sc := by
 obtain ⟨vs, h1, h2, _⟩ := h
 obtain ⟨sa, sc, rfl⟩ := (ArrIn.arr h1).isSlice
 exact ⟨sa, sc, by rw [h2]⟩
theorem shapeInk {lo hi : Nat} {w : World} {v : Value} {x : XInk} (h : rInk.at_ lo hi w v x) : ∃ sa sc, v = .agg #[.slice sa x.length sc] := by
 obtain ⟨u, rfl, h⟩ := h
 obtain ⟨sa, sc, rfl⟩ := nest_slice h
 exact ⟨sa, sc, rfl⟩
theorem stroke_at {w : World} {u : Value} {x : XStroke} (h : Arr ePoint w u x) : rStroke.at_ 0 w.heap.size w (.agg #[u]) x := ⟨u, rfl, h.in_⟩
/-- strokes that can be read -/
def Strokes (w : World) (u : Value) (X : XInk) : Prop := ∃ vs : List SV, Arr eS1 w u vs ∧ vs.length = X.length ∧ ∀ (i : Nat) (s : SV) (x : XStroke), vs[i]? = some s → X[i]? = some x → Arr ePoint w s.val x
theorem Strokes.below {w w' : World} {u : Value} {X : XInk} (h : Strokes w u X) (hb : Below w.heap.size w w') : Strokes w' u X := by
 obtain ⟨vs, h1, h2, h3⟩ := h
 exact ⟨vs, h1.below hb, h2, fun i s x hs hx => (h3 i s x hs hx).below hb⟩
theorem Strokes.alloc {w : World} {u : Value} {X : XInk} (h : Strokes w u X) (o : Obj) : Strokes (w.alloc o) u X := h.below (below_alloc _ _)
theorem Strokes.slice {w : World} {u : Value} {X : XInk} (h : Strokes w u X) : ∃ b off ao cap vs, u = .slice ao X.length cap ∧ X.length ≤ cap ∧ cap ≤ maxLen ∧ (0 < X.length → ao = some ⟨b, off, none⟩ ∧ b < w.heap.size) ∧ Cells eS1 w b off vs ∧ vs.length = X.length ∧
  ∀ (i : Nat) (s : SV) (x : XStroke), vs[i]? = some s → X[i]? = some x → Arr ePoint w s.val x := by
 obtain ⟨vs, ⟨b, off, ao, cap, hv, h1, h2, h3, h4⟩, hl, h5⟩ := h
 rw [hl] at hv h1 h3
 exact ⟨b, off, ao, cap, vs, hv, h1, h2, h3, h4, hl, h5⟩
theorem strokes_at {lo hi : Nat} {w : World} {u : Value} {x : XInk} (h : rStrokeS.at_ lo hi w u x) : Strokes w u x := NestIn.arr h
theorem infoStroke : (Tryz.prog.info? 112).map (fun i => (i.zero, i.size, i.bytes)) = some (some (.agg #[.slice none 0 0]), 1, 24) := by kernel_rfl
set_option maxHeartbeats 1000000 in
theorem toStrokeS_any (v : Value) (X : XInk) (w : World) (h : Strokes w v X) (hn : okInk X) :
  Calls Tryz.prog 31 #[v] w (RetR rStrokeS X w) := by
 obtain ⟨b, off, ao, cap, us, rfl, hnc, hcm, hao, hc, hul, hin⟩ := h.slice
 have hn0 : X.length ≤ 1048576 := by unfold okInk at hn; omega
 obtain ⟨i0, hi, hz0, hz1, hz2⟩ := info_parts infoStroke
 go_enter Tryz.func31, Tryz.ntmps31
 go_wp2_with (at_make; refine wpList_make_full _ rfl _ _ 39 rfl w.heap.size 112 i0 _ 1 Tryz.underlying39 hi hz0 hz1 _ _ _ _ X.length rfl rfl rfl rfl (by rw [hz2]; omega) (by unfold maxLen; omega) (Nat.le_refl _) ?_; intro w1 hown hgr)
 have hown := Own.made (E := eS1) (z := (⟨none, 0, 0⟩ : SV)) hown rfl
 obtain ⟨g, hg⟩ : ∃ g, g = w.heap.size := ⟨_, rfl⟩
 rw [← hg] at hown ⊢
 have hw1 : Below w.heap.size w w1 := (Below.refl _ _).grown hgr (Nat.le_refl _) (by simp)
 have hg1 : g < w1.heap.size := hown.lt.2
 have Hg := hid hg
 clear hg
 go_loopw [4] (fun i wr => ∃ (k : Nat) (ys : List SV), k ≤ X.length ∧ i = .int .i64 k ∧ ys.length = X.length ∧ NestTo ePoint 114 g X k ys wr ∧
   Own eS1 112 g wr (.slice (some ⟨g, 0, none⟩) X.length X.length) ys ∧ Below w.heap.size w wr ∧ g < wr.heap.size) (fun i _ => X.length - (intOf i).toNat)
 case atStart => exact ⟨0, _, Nat.zero_le _, rfl, by simp, NestTo.zero, hown, hw1, hg1⟩
 case round =>
  clear hown hgr hw1 hg1 hi hz0 hz1 hz2 hnc hcm h
  obtain ⟨k, ys, hk, rfl, hyl, hys, hown, hb, hgw⟩ := hrel
  have HY := hid hyl
  clear hyl
  by_cases hlt : k < X.length
  ·obtain ⟨hao', hbw⟩ := hao (by omega)
   subst hao'
   obtain ⟨x, hx⟩ : ∃ x, X[k]? = some x := ⟨_, List.getElem?_eq_getElem hlt⟩
   obtain ⟨s, hs⟩ : ∃ s, us[k]? = some s := ⟨_, List.getElem?_eq_getElem (by omega)⟩
   have hA := stroke_at ((hin k s x hs hx).below hb)
   have hok := okInk_st hn hx
   have c0 := eS1_cells (hc.below hb hbw) hs
   have HIN := hid hin
   have HYS := hid hys
   have HX := hid hx
   clear hao hin hys hx
   go_wp2_with (go_at_call 61; refine (toStroke_any _ x _ hA hok).mono ?_; rintro e w2 ⟨v2, rfl, ho2, hb2⟩; obtain ⟨u2, hv2, ho2⟩ := ho2; obtain ⟨sa, sc, hu2⟩ := ho2.1.isSlice; subst hu2; subst hv2; have hown2 := hown.below hb2; clear hown; have hw2 := hb2.size; obtain ⟨u0, hu0⟩ := hown2.slot HY.out.symm k hlt 0 (by decide); have hf := hown2.free HY.out.symm; have hv0 : w2.cell? ⟨g, k, none⟩ = some u0 := by { have e : k * eS1.sz + 0 = k := (by show k * 1 + 0 = k; omega); rw [e] at hu0; exact hu0 }; clear hu0)
   go_roundw
   case rel =>
    have h2 := hown2.set HY.out.symm k (by rw [HY.out]; exact hlt) (⟨sa, x.length, sc⟩ : SV)
    have e2 : storesAt w2 g (k * eS1.sz) (eS1.row (⟨sa, x.length, sc⟩ : SV)) = w2.setCell ⟨g, k, none⟩ (.slice sa x.length sc) := by
     show w2.setCell ⟨g, k * 1, none⟩ _ = _
     rw [Nat.mul_one]; rfl
    rw [e2] at h2
    exact ⟨k + 1, ys.set k ⟨sa, x.length, sc⟩, by omega, by go_num, by rw [List.length_set]; exact HY.out, HYS.out.step (s := ⟨sa, x.length, sc⟩) hb2 ho2 HX.out hgw HY.out (chg_set _ _ _ _), h2.1, (hb.trans (hb2.mono (by rw [← Hg.out]; omega))).grown h2.2 (by have := hb.size; omega) (by have := Hg.out; simp; omega), Nat.lt_of_lt_of_le (Nat.lt_of_lt_of_le hgw hw2) h2.2.size⟩
   case measure => simp [intOf]; omega
  ·obtain rfl : k = X.length := by omega
   go_wp2
   go_ret
   exact ⟨_, rfl, hys.done HY.out (by rw [Hg.out]; exact Nat.le_refl _) hown, hb⟩
set_option maxHeartbeats 400000 in
theorem toInk_any (v : Value) (x : XInk) (w : World) {lo hi : Nat} (h : rInk.at_ lo hi w v x) (hn : okInk x) :
  Calls Tryz.prog 9 #[v] w (RetR rInk x w) := by
 obtain ⟨u, rfl, h⟩ := h
 replace h := strokes_at h
 go_enter Tryz.func9, Tryz.ntmps9
 go_wp2_with (go_at_call 31; refine (toStrokeS_any _ x _ (((h.alloc _).alloc _).alloc _) hn).mono ?_; rintro e w2 ⟨u, rfl, ho, hb⟩; obtain ⟨sa, sc, hu⟩ := nest_slice (rStrokeS.own_at ho); subst hu; obtain ⟨hc, hf⟩ := bcell hb)
 refine bodyPost_ret (v := .agg #[.slice sa x.length sc]) (by simp [results, Tryz.results9, go_sem, hc]) rfl ⟨_, rfl, ⟨_, rfl, ?_⟩, ?_⟩
 ·exact rStrokeS.own_mono (rStrokeS.own_chg (rStrokeS.own_chg ho (chg_set _ _ _ _) (.inl (by simp <;> omega))) (chg_set _ _ _ _) (.inl (by simp <;> omega))) (by simp <;> omega) (by simp)
 ·exact (((((((Below.refl _ _).alloc (Nat.le_refl _) _).alloc (by simp) _).alloc (by simp <;> omega) _).trans (hb.mono (by simp <;> omega))).setCell (by simp <;> omega) _).setCell (by simp <;> omega) _)
set_option maxHeartbeats 400000 in
theorem szStrokeS_any (v : Value) (X : XInk) (left : Int) (w : World) (h : Strokes w v X) (hs : goodInk X) (hl : 0 ≤ left) (hu : left ≤ 1048576) :
  Calls Tryz.prog 25 #[v, .int .i64 left] w (Ret (.int .i64 (szOf (sizeInk X) left)) w) := by
 obtain ⟨b, off, ao, cap, us, rfl, hnc, hcm, hao, hc, hul, hin⟩ := h.slice
 unfold maxLen at hcm
 unfold sizeInk
 by_cases h0 : left < X.length
 ·go_enter Tryz.func25, Tryz.ntmps25
  go_wp2
  go_ret
  exact ret_int (by rw [szOf_neg (by omega)]) (Below.refl _ _)
 have hd : decide (left - (X.length : Int) < 0) = false := by simp; omega
 go_enter Tryz.func25, Tryz.ntmps25
 go_wp2
 go_loopw [1, 5] (fun l i wr => ∃ k : Nat, k ≤ X.length ∧ i = .int .i64 k ∧ l = .int .i64 (left - X.length - sumOf sizeStroke (X.take k)) ∧ 0 ≤ left - X.length - sumOf sizeStroke (X.take k) ∧ Below w.heap.size w wr) (fun _ i _ => X.length - (intOf i).toNat)
 case atStart => exact ⟨0, Nat.zero_le _, rfl, by simp [sumOf], by simp [sumOf]; omega, Below.refl _ _⟩
 case round =>
  obtain ⟨k, hk, rfl, rfl, hp, hb⟩ := hrel
  by_cases hlt : k < X.length
  ·obtain ⟨hao', hbw⟩ := hao (by omega)
   subst hao'
   obtain ⟨x, hx⟩ : ∃ x, X[k]? = some x := ⟨_, List.getElem?_eq_getElem hlt⟩
   obtain ⟨s, hsv⟩ : ∃ s, us[k]? = some s := ⟨_, List.getElem?_eq_getElem (by omega)⟩
   have c0 := eS1_cells (hc.below hb hbw) hsv
   have hA := stroke_at ((hin k s x hsv hx).below hb)
   have hxs := hid (hs x (List.mem_of_getElem? hx))
   have hsum := sumOf_take sizeStroke hx
   have hle := sumOf_take_le sizeStroke X (k + 1)
   rw [hsum] at hle
   obtain ⟨p, hpp⟩ : ∃ p, p = left - X.length - sumOf sizeStroke (X.take k) := ⟨_, rfl⟩
   rw [← hpp] at hp ⊢
   have hpu : p ≤ 1048576 := by omega
   have HS : Hid (sumOf sizeStroke (X.take (k + 1)) = sumOf sizeStroke (X.take k) + sizeStroke x) := hid hsum
   have HP := hid hpp
   have HIN := hid hin
   clear hao hs hsum hpp hin
   by_cases hf : p < sizeStroke x
   ·go_wp2_with (go_at_call 51; refine (szStroke_any _ x _ _ hA hxs.out (by omega) (by omega)).mono ?_; rintro e w2 ⟨rfl, hb2⟩; rw [szOf_neg hf])
    go_ret
    exact ret_int (by rw [szOf_neg (by have := HP.out; omega)]) (hb.trans (hb2.mono hb.size))
   ·go_wp2_with (go_at_call 51; refine (szStroke_any _ x _ _ hA hxs.out (by omega) (by omega)).mono ?_; rintro e w2 ⟨rfl, hb2⟩; rw [szOf_pos (by omega)])
    go_roundw
    case rel => exact ⟨k + 1, by omega, by go_num, by rw [HS.out, HP.out]; congr 1; omega, by rw [HS.out]; have := HP.out; omega, hb.trans (hb2.mono hb.size)⟩
    case measure => simp [intOf]; omega
  ·have hk' : X.length = k := by omega
   go_wp2
   go_ret
   rw [← hk', List.take_length] at hp
   exact ret_int (by rw [← hk', List.take_length, szOf_pos (by omega)]; omega) hb
set_option maxHeartbeats 400000 in
theorem szInk_any (v : Value) (x : XInk) (left : Int) (w : World) {lo hi : Nat} (h : rInk.at_ lo hi w v x) (hs : goodInk x) (hl : 0 ≤ left) (hu : left ≤ 1048576) :
  Calls Tryz.prog 6 #[v, .int .i64 left] w (Ret (.int .i64 (szOf (sizeInk x) left)) w) := by
 obtain ⟨u, rfl, h⟩ := h
 replace h := strokes_at h
 by_cases hf : left < (sizeInk x : Nat)
 all_goals
  go_enter Tryz.func6, Tryz.ntmps6
  go_wp2_with (go_at_call 25; refine (szStrokeS_any _ x _ _ (h.alloc _) hs hl hu).mono ?_; rintro e w2 ⟨rfl, hb⟩; first | rw [szOf_neg (by omega)] | rw [szOf_pos (by omega)])
  go_ret
  exact ret_int (by first | rw [szOf_neg (by omega)] | rw [szOf_pos (by omega)]) (((Below.refl _ _).alloc (Nat.le_refl _) _).trans (hb.mono (by simp)))
set_option maxHeartbeats 400000 in
theorem eqStrokeS_any (v1 v2 : Value) (X : XInk) (w : World) (h1 : Strokes w v1 X) (h2 : Strokes w v2 X) :
  Calls Tryz.prog 38 #[v1, v2] w (Ret (.bool true) w) := by
 obtain ⟨b, off, ao, cap, us, rfl, hnc, hcm, hao, hc, hul, hin⟩ := h1.slice
 obtain ⟨b2, off2, ao2, cap2, us2, rfl, hnc2, hcm2, hao2, hc2, hul2, hin2⟩ := h2.slice
 unfold maxLen at hcm
 go_enter Tryz.func38, Tryz.ntmps38
 go_wp2
 go_loopw [5] (fun i wr => ∃ k : Nat, k ≤ X.length ∧ i = .int .i64 k ∧ Below w.heap.size w wr) (fun i _ => X.length - (intOf i).toNat)
 case atStart => exact ⟨0, Nat.zero_le _, rfl, Below.refl _ _⟩
 case round =>
  obtain ⟨k, hk, rfl, hb⟩ := hrel
  by_cases hlt : k < X.length
  ·obtain ⟨hao', hbw⟩ := hao (by omega)
   obtain ⟨hao2', hbw2⟩ := hao2 (by omega)
   subst hao' hao2'
   obtain ⟨x, hx⟩ : ∃ x, X[k]? = some x := ⟨_, List.getElem?_eq_getElem hlt⟩
   obtain ⟨s, hsv⟩ : ∃ s, us[k]? = some s := ⟨_, List.getElem?_eq_getElem (by omega)⟩
   obtain ⟨s2, hsv2⟩ : ∃ s, us2[k]? = some s := ⟨_, List.getElem?_eq_getElem (by omega)⟩
   have c0 := eS1_cells (hc.below hb hbw) hsv
   have d0 := eS1_cells (hc2.below hb hbw2) hsv2
   have a0 := ext_cell c0
   have b0 := ext_cell d0
   have hA := (hin k s x hsv hx).below hb
   have hB := (hin2 k s2 x hsv2 hx).below hb
   have HIN := hid hin
   have HIN2 := hid hin2
   clear hao hao2 hin hin2
   have hli : (k : Int) < (X.length : Int) := by omega
   go_wp2
   refine wp_region_ext (by kernel_rfl) (by kernel_rfl) ?_
   repeat (go_big_quiet_step (((go_at_call 73; exact ret_ext (eqStroke_any _ _ x _ (stroke_at (ext_arr hA _)) (stroke_at (ext_arr hB _)))))))
   refine wpQuiet_nil ?_
   intro _ hw'
   obtain ⟨nq, hw''⟩ := hw'
   subst hw''
   go_wp2
   go_roundw
   case rel => exact ⟨k + 1, by omega, by go_num, hb.trans ((ext_below _ _).mono hb.size)⟩
   case measure => simp [intOf]; omega
  ·go_wp2
   go_ret
   exact ret_bool rfl hb
set_option maxHeartbeats 400000 in
theorem eqInk_any (v1 v2 : Value) (x : XInk) (w : World) {lo1 hi1 lo2 hi2 : Nat} (h1 : rInk.at_ lo1 hi1 w v1 x) (h2 : rInk.at_ lo2 hi2 w v2 x) :
  Calls Tryz.prog 14 #[v1, v2] w (Ret (.bool true) w) := by
 obtain ⟨u1, rfl, h1⟩ := h1
 obtain ⟨u2, rfl, h2⟩ := h2
 replace h1 := strokes_at h1
 replace h2 := strokes_at h2
 go_enter Tryz.func14, Tryz.ntmps14
 go_wp2_with (go_at_call 38; refine (eqStrokeS_any _ _ x _ ((h1.alloc _).alloc _) ((h2.alloc _).alloc _)).mono ?_; rintro e w2 ⟨rfl, hb⟩)
 go_ret
 exact ret_bool rfl ((((Below.refl _ _).alloc (Nat.le_refl _) _).alloc (by simp) _).trans (hb.mono (by simp <;> omega)))
set_option maxHeartbeats 1000000 in
theorem markStrokeS_any (v : Value) (X : XInk) (lo hi : Nat) (k : Int) (w : World) (h : rStrokeS.own lo hi w v X) (hn : okInk X) (hk0 : 0 ≤ k) (hk1 : k ≤ 10000000) :
  Calls Tryz.prog 40 #[v, .int .i64 k] w (RetMark rStrokeS (mkXInk k X) (k + cntInk X) lo hi v w) := by
 obtain ⟨vs, h1, h2, h3, h4⟩ := h
 have hst : NestSt ePoint 114 112 lo hi v vs X w := ⟨h1, h2, h3, h4⟩
 have hsl : ∃ (ao : Option Addr) (cap g : Nat), v = .slice ao X.length cap ∧ X.length ≤ 1048576 ∧ (0 < X.length → ao = some ⟨g, 0, none⟩) := by
  have hx : X.length ≤ 1048576 := by unfold okInk at hn; omega
  rcases h1.1.shape with ⟨hv, h0⟩ | ⟨g, cap, hv, _, _⟩
  ·rw [h0] at h2; have h2 : X.length = 0 := h2.symm; exact ⟨none, 0, 0, by rw [hv, h2], hx, by omega⟩
  ·exact ⟨_, cap, g, by rw [hv, h2], hx, fun _ => rfl⟩
 clear h1 h2 h3 h4
 obtain ⟨ao, cap, g, rfl, hxl, hao⟩ := hsl
 go_enter Tryz.func40, Tryz.ntmps40
 go_wp2
 go_loopw [1, 5] (fun kv iv wr => ∃ (i : Nat) (Y : XInk), i ≤ X.length ∧ iv = .int .i64 i ∧ kv = .int .i64 (k + 3 * (totI (X.take i) : Int)) ∧ Y.length = X.length ∧ (∀ j, j < i → Y[j]? = (mkXInk k X)[j]?) ∧ (∀ j, i ≤ j → Y[j]? = X[j]?) ∧
   NestSt ePoint 114 112 lo hi (.slice ao X.length cap) vs Y wr ∧ Mk rStrokeS.ty lo hi w wr) (fun _ i _ => X.length - (intOf i).toNat)
 case atStart => exact ⟨0, X, Nat.zero_le _, rfl, by simp [totI, sumOf], rfl, by simp, fun _ _ => rfl, hst, Mk.refl _ _ _ _⟩
 case round =>
  clear hst
  obtain ⟨i, Y, hk, rfl, rfl, hyl, hys, hyr, ho, hch⟩ := hrel
  have HY := hid hyl
  have HYS := hid hys
  have HYR := hid hyr
  clear hyl hys hyr
  by_cases hlt : i < X.length
  ·have hao' := hao (by omega)
   subst hao'
   clear hao
   obtain ⟨x, hx⟩ : ∃ x, X[i]? = some x := ⟨_, List.getElem?_eq_getElem hlt⟩
   obtain ⟨s, hs⟩ : ∃ s, vs[i]? = some s := ⟨_, List.getElem?_eq_getElem (by rw [ho.len, HY.out]; exact hlt)⟩
   have hYx : Y[i]? = some x := (HYR.out i (Nat.le_refl _)).trans hx
   have hin := ho.inner i s x hs hYx
   obtain ⟨lo', hi', hl, hnar, hout, hblk⟩ := hin.narrow
   have HX := hid hx
   have c0 : wr.cell? ⟨g, i, none⟩ = some (.slice s.a s.n s.c) := by
    obtain ⟨b, off, ao, cap', hv, _, _, hb0, hcl⟩ := ho.outer.1.arr
    simp at hv
    obtain ⟨rfl, _, rfl⟩ := hv
    have := hb0 (by rw [ho.len, HY.out]; omega)
    simp at this
    obtain ⟨⟨rfl, rfl⟩, _⟩ := this
    have := eS1_cells hcl hs
    rwa [Nat.zero_add] at this
   have hok := okInk_st hn hx
   have hsum := sumOf_take List.length hx
   have hle := sumOf_take_le List.length X i
   have hb0 : (totI (X.take i)) ≤ 1048576 := by unfold okInk at hn; unfold totI at hn ⊢; omega
   have HS : Hid (totI (X.take (i + 1)) = totI (X.take i) + x.length) := hid hsum
   clear hsum hle hx
   have HO := hid ho
   have HB := hid hblk
   have HU := hid hout
   have HC := hid hch
   clear ho hblk hout hch hin
   go_wp2_with (go_at_call 75; refine (markPointS_any _ x lo' hi' _ _ hnar hok (by omega) (by omega)).mono ?_; rintro e w2 ⟨rfl, ho2, hm2⟩)
   go_roundw
   case rel =>
    have hn2 := HO.out.mark (by rfl) hs hYx hl HU.out HB.out ho2 hm2
    have h1 := fill_step (xs := mkXInk k X) (by rw [mkXInk_len]; exact HY.out) HYS.out (mkXInk_get k HX.out)
    refine ⟨i + 1, _, by omega, by go_num, by rw [HS.out]; congr 1; push_cast; omega, ?_, h1.2, fun j hj => ?_, hn2.1, HC.out.trans hn2.2⟩
    ·rw [List.length_set]; exact HY.out
    ·rw [List.getElem?_set_ne (by omega)]; exact HYR.out j (by omega)
   case measure => simp [intOf]; omega
  ·obtain rfl : i = X.length := by omega
   have := fill_done (xs := mkXInk k X) (by rw [mkXInk_len]; exact HY.out) HYS.out (by rw [mkXInk_len]; exact Nat.le_refl _)
   subst this
   clear HYS
   rw [List.take_length]
   go_wp2
   go_ret
   exact ⟨rfl, ho.own, hch⟩
set_option maxHeartbeats 400000 in
theorem markInk_any (v : Value) (x : XInk) (lo hi : Nat) (k : Int) (w : World) (h : rInk.own lo hi w v x) (hn : okInk x) (hk0 : 0 ≤ k) (hk1 : k ≤ 10000000) :
  Calls Tryz.prog 16 #[v, .int .i64 k] w (RetMark rInk (mkXInk k x) (k + cntInk x) lo hi v w) := by
 obtain ⟨u, rfl, h⟩ := h
 go_enter Tryz.func16, Tryz.ntmps16
 go_wp2_with (go_at_call 40; refine (markStrokeS_any _ x lo hi _ _ (rStrokeS.own_alloc h _) hn hk0 hk1).mono ?_; rintro e w2 ⟨rfl, ho, hc⟩)
 go_ret
 exact ⟨rfl, ⟨_, rfl, ho⟩, (Mk.of_below (below_alloc _ _)).trans hc⟩
theorem ArrR.strokes {w : World} {v : Value} {X : XInk} (h : ArrR (fun w cs x => ∃ s : SV, cs = [s.val] ∧ Arr ePoint w s.val x ∧ goodStroke x) 1 w v X) : rStrokeS.at_ 0 w.heap.size w v X ∧ goodInk X := by
 obtain ⟨b, off, ao, cap, hv, h1, h2, h3, h4⟩ := h
 obtain ⟨vs, hl, hvs⟩ := list_of_lt (p := fun i s => ∃ x, X[i]? = some x ∧ Arr ePoint w (SV.val s) x ∧ goodStroke x ∧ w.cell? ⟨b, off + i, none⟩ = some s.val) X.length fun i hi => by
  obtain ⟨cs, _, ⟨s, rfl, hA, hg⟩, h5⟩ := h4 i X[i] (List.getElem?_eq_getElem hi)
  have := h5 0 s.val rfl
  have e : off + i * 1 + 0 = off + i := by omega
  rw [e] at this
  exact ⟨s, X[i], List.getElem?_eq_getElem hi, hA, hg, this⟩
 refine ⟨⟨vs, ⟨b, off, ao, cap, by rw [hl]; exact hv, by rw [hl]; exact h1, h2, fun h0 => ⟨(h3 (by omega)).1, Nat.zero_le _, (h3 (by omega)).2⟩, fun k s hs j u hu => ?_⟩, hl, fun i s x hs hx => ?_⟩, fun x hx => ?_⟩
 ·obtain ⟨x, _, _, _, hc⟩ := hvs k s hs
  have hj : j = 0 := by have := (List.getElem?_eq_some_iff.1 hu).1; rw [eS1.len] at this; have : eS1.sz = 1 := rfl; omega
  subst hj
  have e : off + k * eS1.sz + 0 = off + k := by show off + k * 1 + 0 = off + k; omega
  have hu' : some s.val = some u := hu
  cases hu'
  rw [e]; exact hc
 ·obtain ⟨y, hy, hA, _⟩ := hvs i s hs
  rw [hx] at hy; cases hy
  exact hA.in_
 ·obtain ⟨i, hi⟩ := List.mem_iff_getElem?.1 hx
  obtain ⟨s, hs⟩ : ∃ s, vs[i]? = some s := ⟨_, List.getElem?_eq_getElem (by rw [hl]; exact (List.getElem?_eq_some_iff.1 hi).1)⟩
  obtain ⟨y, hy, _, hg, _⟩ := hvs i s hs
  rw [hi] at hy; cases hy
  exact hg
set_option maxRecDepth 100000 in
theorem decStroke (w : World) (cs : List Value) (h : Rd Tryz.prog w 101 cs) : ∃ x : XStroke, ∃ s : SV, cs = [s.val] ∧ Arr ePoint w s.val x ∧ goodStroke x := by
 obtain ⟨hl, hf⟩ := rd_struct Tryz.underlying101 h
 rw [show Tryz.prog.cellsOf 101 = 1 by kernel_rfl] at hl
 obtain ⟨u, rfl⟩ : ∃ u, cs = [u] := by
  match cs, hl with
  | [u], _ => exact ⟨u, rfl⟩
 have h0 : Rd Tryz.prog w 99 (([u].drop 0).take (Tryz.prog.cellsOf 99)) := hf 0 _ rfl
 rw [show Tryz.prog.cellsOf 99 = 1 by kernel_rfl] at h0
 obtain ⟨xs, hx⟩ := rd_slice (R := fun _ cs x => cs = ePoint.row x ∧ goodPoint x) (sz := 3) Tryz.underlying99 (by kernel_rfl) (by omega) (decPoint w) (v := u) (by simpa using h0)
 obtain ⟨sa, sc, rfl⟩ := hx.arr.1.isSlice
 exact ⟨xs, ⟨sa, xs.length, sc⟩, rfl, hx.arr.1, hx.arr.2⟩
set_option maxRecDepth 100000 in
theorem openInk {H : Type} {enc : TypeId × Value → H} {W : World} {base : Nat} {spare : Nat → Bool} {held : Bool} {v : Value} {d : DataW H} {ps : List MemPlace} {b0 : Nat} {r : Reach}
  (hv : Value.okWide Tryz.prog W r b0 27 v) (h : DataW.Trod enc Tryz.prog W base spare held 27 v d ps) : ∃ x, rInk.at_ 0 W.heap.size W v x ∧ goodInk x := by
 obtain ⟨cs, rfl, hsz⟩ := okWide_struct Tryz.underlying27 hv
 have hr := rd_of_trod h
 obtain ⟨hl, hf⟩ := rd_struct Tryz.underlying27 hr
 rw [show Tryz.prog.cellsOf 27 = 1 by kernel_rfl] at hsz
 obtain ⟨u, rfl⟩ : ∃ u, cs = #[u] := by
  match cs, hsz with
  | ⟨[u]⟩, _ => exact ⟨u, rfl⟩
 have h0 : Rd Tryz.prog W 25 (([u].drop 0).take (Tryz.prog.cellsOf 25)) := hf 0 _ rfl
 rw [show Tryz.prog.cellsOf 25 = 1 by kernel_rfl] at h0
 obtain ⟨xs, hx⟩ := rd_slice (R := fun w cs x => ∃ s : SV, cs = [s.val] ∧ Arr ePoint w s.val x ∧ goodStroke x) (sz := 1) Tryz.underlying25 (by kernel_rfl) (by omega) (decStroke W) (v := u) (by simpa [Value.cells] using h0)
 exact ⟨xs, ⟨u, rfl, hx.strokes.1⟩, hx.strokes.2⟩
end Go.Proofs.YtlnoelbeaolikaaGreat
namespace Go.Proofs.YtlnoelbeaolikaaGreat
open Go.ChangeShapes Go.WideShapes Go.ChangeAt Go.RowKit Go.Deep
abbrev XLattice := Int × List DEdge
def rLattice : Rep XLattice := Rep.aggP (fun n => Value.int .i64 n) (Rep.flat eEdge 89)
def okLattice (x : XLattice) : Prop := x.2.length ≤ 1048576
def cntLattice (x : XLattice) : Int := 4 * (x.2.length : Int)
theorem cntLattice_bd {x : XLattice} (h : okLattice x) : 0 ≤ cntLattice x ∧ cntLattice x ≤ 10000000 := by unfold okLattice at h; unfold cntLattice; omega
def mkXLattice (k : Int) (x : XLattice) : XLattice := (x.1, mkEdge k x.2.length)
theorem shapeLattice {lo hi : Nat} {w : World} {v : Value} {x : XLattice} (h : rLattice.at_ lo hi w v x) : ∃ sa sc, v = .agg #[.int .i64 x.1, .slice sa x.2.length sc] := by
 obtain ⟨u, rfl, h⟩ := h
 obtain ⟨sa, sc, rfl⟩ := (ArrIn.arr h).isSlice
 exact ⟨sa, sc, rfl⟩
set_option maxRecDepth 100000 in
set_option maxHeartbeats 400000 in
theorem eqLattice_any (v1 v2 : Value) (x : XLattice) (w : World) {lo1 hi1 lo2 hi2 : Nat} (h1 : rLattice.at_ lo1 hi1 w v1 x) (h2 : rLattice.at_ lo2 hi2 w v2 x) :
  Calls Tryz.prog 21 #[v1, v2] w (Ret (.bool true) w) := by
 obtain ⟨u1, rfl, h1⟩ := h1
 obtain ⟨u2, rfl, h2⟩ := h2
 replace h1 := ArrIn.arr h1
 replace h2 := ArrIn.arr h2
 go_enter Tryz.func21, Tryz.ntmps21
 go_wp2_with (go_at_call 47; refine (eqEdgeS_any _ _ x.2 _ ((h1.alloc _).alloc _) ((h2.alloc _).alloc _)).mono ?_; rintro e w2 ⟨rfl, hb⟩)
 go_ret
 exact ret_bool rfl ((((Below.refl _ _).alloc (Nat.le_refl _) _).alloc (by simp) _).trans (hb.mono (by simp <;> omega)))
set_option maxRecDepth 100000 in
set_option maxHeartbeats 400000 in
theorem markLattice_any (v : Value) (x : XLattice) (lo hi : Nat) (k : Int) (w : World) (h : rLattice.own lo hi w v x) (hn : okLattice x) (hk0 : 0 ≤ k) (hk1 : k ≤ 20000000) :
  Calls Tryz.prog 22 #[v, .int .i64 k] w (RetMark rLattice (mkXLattice k x) (k + cntLattice x) lo hi v w) := by
 obtain ⟨u, rfl, h⟩ := h
 go_enter Tryz.func22, Tryz.ntmps22
 go_wp2_with (go_at_call 48; refine (markEdgeS_any _ x.2 lo hi _ _ ((Rep.flat eEdge 89).own_alloc h _) hn hk0 hk1).mono ?_; rintro e w2 ⟨rfl, ho, hc⟩)
 go_ret
 exact ⟨rfl, ⟨_, rfl, ho⟩, (Mk.of_below (below_alloc _ _)).trans hc⟩
set_option maxRecDepth 100000 in
set_option maxHeartbeats 400000 in
theorem heldLattice_any (v : Value) (x : XLattice) (k : Int) (w : World) {lo hi : Nat} (h : rLattice.at_ lo hi w v (mkXLattice k x)) (hn : okLattice x) (hk0 : 0 ≤ k) (hk1 : k ≤ 20000000) :
  Calls Tryz.prog 23 #[v, .int .i64 k] w (Ret (.int .i64 (k + cntLattice x)) w) := by
 obtain ⟨u, rfl, h⟩ := h
 replace h := ArrIn.arr h
 have hp : 0 ≤ k + 4 * (x.2.length : Int) := by omega
 go_enter Tryz.func23, Tryz.ntmps23
 go_wp2_with (go_at_call 49; refine (heldEdgeS_any _ x.2.length _ _ (h.alloc _) hn hk0 hk1).mono ?_; rintro e w2 ⟨rfl, hb⟩)
 go_ret
 exact ret_int rfl (((Below.refl _ _).alloc (Nat.le_refl _) _).trans (hb.mono (by simp)))
end Go.Proofs.YtlnoelbeaolikaaGreat
namespace Go.Proofs.YtlnoelbeaolikaaGreat
open Go.RowKit
theorem len_toList (s : ByteArray) : s.data.toList.length = s.size := Array.length_toList
def letB (n : Int) : Bool := inB n 97 122
set_option maxHeartbeats 400000 in
theorem within_any (n l h : Int) (w : World) :
  Calls Tryz.prog 62 #[.int .i64 n, .int .i64 l, .int .i64 h] w fun e w' => e = .returned (.bool (inB n l h)) ∧ w = w' := by
 go_enter Tryz.func62, Tryz.ntmps62
 go_wp2
 ·go_ret
  exact ⟨by rw [← inB_t (by assumption)]; rfl, rfl⟩
 ·go_ret
  exact ⟨by rw [← inB_f (by assumption)]; rfl, rfl⟩
set_option maxHeartbeats 400000 in
theorem l00In_any (n l h : Int) (w : World) :
  Calls Tryz.prog 53 #[.int .i64 n, .int .i64 l, .int .i64 h] w fun e w' => e = .returned (.bool (inB n l h)) ∧ w = w' := by
 go_enter Tryz.func53, Tryz.ntmps53
 go_wp2
 ·go_ret
  exact ⟨by rw [← inB_t (by assumption)]; rfl, rfl⟩
 ·go_ret
  exact ⟨by rw [← inB_f (by assumption)]; rfl, rfl⟩
set_option maxHeartbeats 400000 in
theorem isLetter_any (n : Int) (w : World) :
  Calls Tryz.prog 147 #[.int .u8 n] w fun e w' => e = .returned (.bool (letB n)) ∧ w = w' := by
 go_enter Tryz.func147, Tryz.ntmps147
 go_wp2
 ·go_ret
  exact ⟨by rw [letB, ← inB_t (by assumption)]; rfl, rfl⟩
 ·go_ret
  exact ⟨by rw [letB, ← inB_f (by assumption)]; rfl, rfl⟩
set_option maxHeartbeats 400000 in
theorem l01Small_any (n : Int) (w : World) :
  Calls Tryz.prog 179 #[.int .u8 n] w fun e w' => e = .returned (.bool (letB n)) ∧ w = w' := by
 go_enter Tryz.func179, Tryz.ntmps179
 go_wp2
 ·go_ret
  exact ⟨by rw [letB, ← inB_t (by assumption)]; rfl, rfl⟩
 ·go_ret
  exact ⟨by rw [letB, ← inB_f (by assumption)]; rfl, rfl⟩
end Go.Proofs.YtlnoelbeaolikaaGreat
namespace Go.Proofs.YtlnoelbeaolikaaGreat
open Go.RowKit
def signL : List UInt8 := [43, 45, 42, 47, 61, 40, 41, 46, 44]
def labB (b : UInt8) : Bool := signL.contains b || (letB b.toNat || inB b.toNat 48 57)
def isLabelB (s : ByteArray) : Bool := match s.data.toList with
 | [b] => labB b
 | _ => false
theorem isLabel_len {s : ByteArray} (h : s.size ≠ 1) : isLabelB s = false := by
 unfold isLabelB
 split
 ·rename_i b hb
  have := congrArg List.length hb
  rw [len_toList] at this
  simp at this
  omega
 ·rfl
theorem one_byte {s : ByteArray} (h : s.size = 1) : ∃ b : UInt8, s = ⟨#[b]⟩ := by
 obtain ⟨⟨l⟩⟩ := s
 have : l.length = 1 := h
 obtain ⟨b, rfl⟩ := List.length_eq_one_iff.1 this
 exact ⟨b, rfl⟩
theorem u8_all {p : UInt8 → Bool} (h : (List.range 256).all (fun i => p (UInt8.ofNat i)) = true) (b : UInt8) : p b = true := by
 rw [List.all_eq_true] at h
 have := h b.toNat (by simp; exact UInt8.toNat_lt b)
 simpa using this
theorem lab_all (b : UInt8) : signL.contains b = ((b.toNat : Int) == 43 || (b.toNat : Int) == 45 || (b.toNat : Int) == 42 || (b.toNat : Int) == 47 || (b.toNat : Int) == 61 || (b.toNat : Int) == 40 || (b.toNat : Int) == 41 || (b.toNat : Int) == 46 || (b.toNat : Int) == 44) := by
 have := u8_all (p := fun b => signL.contains b == ((b.toNat : Int) == 43 || (b.toNat : Int) == 45 || (b.toNat : Int) == 42 || (b.toNat : Int) == 47 || (b.toNat : Int) == 61 || (b.toNat : Int) == 40 || (b.toNat : Int) == 41 || (b.toNat : Int) == 46 || (b.toNat : Int) == 44)) (by decide +kernel) b
 simpa using this
set_option maxHeartbeats 1000000 in
theorem l11Label_any (b : UInt8) (w : World) :
  Calls Tryz.prog 136 #[.int .u8 b.toNat] w fun e w' => e = .returned (.bool (labB b)) ∧ w = w' := by
 have hsg := lab_all b
 obtain ⟨n, hn⟩ : ∃ n : Int, n = (b.toNat : Int) := ⟨_, rfl⟩
 have hL : labB b = (signL.contains b || (letB n || inB n 48 57)) := by rw [hn]; rfl
 rw [hL, hsg, ← hn]
 clear hL hsg hn
 go_enter Tryz.func136, Tryz.ntmps136
 go_wp2_with (go_at_call 179; refine (l01Small_any _ _).mono ?_; rintro e w' ⟨rfl, rfl⟩)
 all_goals
  go_ret
  refine ⟨?_, rfl⟩
  simp [*, inB] <;> omega
set_option maxHeartbeats 400000 in
theorem specIsLabel_any (s : ByteArray) (w : World) (hs : s.size ≤ 9223372036854775807) :
  Calls Tryz.prog 90 #[.string s] w fun e w' => e = .returned (.bool (isLabelB s)) ∧ w = w' := by
 by_cases h1 : s.size = 1
 ·obtain ⟨b, rfl⟩ := one_byte h1
  clear h1 hs
  go_enter Tryz.func90, Tryz.ntmps90
  go_wp2_with (go_at_call 136; refine (l11Label_any _ _).mono ?_; rintro e w' ⟨rfl, rfl⟩)
  go_ret
  exact ⟨rfl, rfl⟩
 ·have h2 := isLabel_len h1
  have h1i : ((s.size : Int) == 1) = false := by rw [beq_eq_false_iff_ne]; omega
  clear h1
  have H2 := hid h2
  clear h2
  go_enter Tryz.func90, Tryz.ntmps90
  go_wp2_with fail
  go_ret
  exact ⟨by rw [H2.out]; rfl, rfl⟩
set_option maxHeartbeats 1000000 in
set_option maxRecDepth 100000 in
theorem liteIndexByte_any (s : ByteArray) (c : Int) (w : World) :
  Calls Tryz.prog 226 #[.string s, .int .u8 c] w fun e w' => e = .returned (.int .i64 (Lib.indexByte s.data.toList c.toNat.toUInt8)) ∧ w = w' := by
 go_enter Tryz.func226, Tryz.ntmps226
 go_wp2
 rw [run_callFunc_extern Tryz.func233 (by kernel_rfl) (by kernel_rfl) (by kernel_rfl) (e := Extern.BytealgIndexByte.indexByte) (by kernel_rfl), Lib.run_indexByteString]
 simp only [Result.andThen]
 rw [Oper.upon_value]
 go_wp2
 go_ret
 exact ⟨rfl, rfl⟩
set_option maxHeartbeats 2000000 in
set_option maxRecDepth 100000 in
theorem liteIndex_one (s : ByteArray) (c : UInt8) (w : World) :
  Calls Tryz.prog 214 #[.string s, .string ⟨#[c]⟩] w fun e w' => e = .returned (.int .i64 (Lib.indexByte s.data.toList c)) ∧ w = w' := by
 go_enter Tryz.func214, Tryz.ntmps214
 go_wp2_with (go_at_call 226; refine (liteIndexByte_any _ _ _).mono ?_; rintro e w' ⟨rfl, rfl⟩)
 ·have h : ([c] == s.toList) = true := by assumption
  go_ret
  refine ⟨?_, rfl⟩
  have e : s.data.toList = [c] := by rw [← Lib.toList_data]; exact (beq_iff_eq.1 h).symm
  rw [e]
  simp [Lib.indexByte]
 ·go_ret
  exact ⟨rfl, rfl⟩
set_option maxHeartbeats 1000000 in
theorem stringsIndex_one (s : ByteArray) (c : UInt8) (w : World) :
  Calls Tryz.prog 188 #[.string s, .string ⟨#[c]⟩] w fun e w' => e = .returned (.int .i64 (Lib.indexByte s.data.toList c)) ∧ w = w' := by
 go_enter Tryz.func188, Tryz.ntmps188
 go_wp2_with (go_at_call 214; refine (liteIndex_one _ _ _).mono ?_; rintro e w' ⟨rfl, rfl⟩)
 go_ret
 exact ⟨rfl, rfl⟩
set_option maxHeartbeats 1000000 in
theorem stringsContains_one (s : ByteArray) (c : UInt8) (w : World) :
  Calls Tryz.prog 148 #[.string s, .string ⟨#[c]⟩] w fun e w' => e = .returned (.bool (decide (0 ≤ Lib.indexByte s.data.toList c))) ∧ w = w' := by
 go_enter Tryz.func148, Tryz.ntmps148
 go_wp2_with (go_at_call 188; refine (stringsIndex_one _ _ _).mono ?_; rintro e w' ⟨rfl, rfl⟩)
 go_ret
 exact ⟨rfl, rfl⟩
theorem lab_impl (b : UInt8) : labB b = (letB b.toNat || decide (0 ≤ Lib.indexByte [48, 49, 50, 51, 52, 53, 54, 55, 56, 57, 43, 45, 42, 47, 61, 40, 41, 46, 44] b)) := by
 have := u8_all (p := fun b => labB b == (letB b.toNat || decide (0 ≤ Lib.indexByte [48, 49, 50, 51, 52, 53, 54, 55, 56, 57, 43, 45, 42, 47, 61, 40, 41, 46, 44] b))) (by decide +kernel) b
 simpa using this
set_option maxHeartbeats 1000000 in
theorem implIsLabel_any (s : ByteArray) (w : World) (hs : s.size ≤ 9223372036854775807) :
  Calls Tryz.prog 102 #[.string s] w fun e w' => e = .returned (.bool (isLabelB s)) ∧ w = w' := by
 by_cases h1 : s.size = 1
 ·obtain ⟨b, rfl⟩ := one_byte h1
  clear h1 hs
  have hb : isLabelB ⟨#[b]⟩ = labB b := rfl
  rw [hb, lab_impl b]
  clear hb
  have HL : ∀ w, Calls Tryz.prog 147 #[.int .u8 b.toNat] w fun e w' => e = .returned (.bool (letB b.toNat)) ∧ w = w' := fun w => isLetter_any _ w
  cases hl : letB b.toNat
  all_goals rw [hl] at HL
  ·go_enter Tryz.func102, Tryz.ntmps102
   go_wp2_with (first | (go_at_call 147; refine (HL _).mono ?_; rintro e w' ⟨rfl, rfl⟩) | (go_at_call 148; refine (stringsContains_one _ _ _).mono ?_; rintro e w' ⟨rfl, rfl⟩))
   go_ret
   exact ⟨rfl, rfl⟩
  ·go_enter Tryz.func102, Tryz.ntmps102
   go_wp2_with (first | (go_at_call 147; refine (HL _).mono ?_; rintro e w' ⟨rfl, rfl⟩) | (go_at_call 148; refine (stringsContains_one _ _ _).mono ?_; rintro e w' ⟨rfl, rfl⟩))
   go_ret
   exact ⟨rfl, rfl⟩
 ·have h2 := isLabel_len h1
  have h1i : ((s.size : Int) == 1) = false := by rw [beq_eq_false_iff_ne]; omega
  clear h1
  have H2 := hid h2
  clear h2
  go_enter Tryz.func102, Tryz.ntmps102
  go_wp2_with fail
  go_ret
  exact ⟨by rw [H2.out]; rfl, rfl⟩
end Go.Proofs.YtlnoelbeaolikaaGreat
namespace Go.Proofs.YtlnoelbeaolikaaGreat
open Go.ChangeShapes Go.WideShapes Go.ChangeAt Go.RowKit Go.Deep
theorem cell3c {w : World} {a b : Obj} {cs : Array Value} {t : TypeId} {i : Nat} : (((w.alloc a).alloc b).alloc (.cells cs t)).cell? ⟨w.heap.size + 1 + 1, i, none⟩ = cs[i]? := by
 have h := World.cell?_alloc_new ((w.alloc a).alloc b) cs t i
 simpa using h
structure DSetting where
 points : Int
 most : Int
 pen : Int
set_option maxRecDepth 100000 in
theorem openPSetting {H : Type} {enc : TypeId × Value → H} {W : World} {base : Nat} {spare : Nat → Bool} {held : Bool} {v : Value} {d : DataW H} {ps : List MemPlace} {b0 : Nat} {r : Reach}
  (hv : Value.okWide Tryz.prog W r b0 29 v) (h : DataW.Trod enc Tryz.prog W base spare held 29 v d ps) : ∃ x : DSetting, v = .agg #[.int .i64 x.points, .int .i64 x.most, .int .i64 x.pen] ∧ True := by
 obtain ⟨cs, rfl, _⟩ := okWide_struct Tryz.underlying29 hv
 obtain ⟨hl, hf⟩ := rd_struct Tryz.underlying29 (rd_of_trod h)
 rw [show Tryz.prog.cellsOf 29 = 3 by kernel_rfl] at hl
 obtain ⟨l⟩ := cs
 simp only [Value.cells] at hl hf
 obtain ⟨c0, c1, c2, rfl⟩ : ∃ c0 c1 c2, l = [c0, c1, c2] := by
  match l, hl with
  | [c0, c1, c2], _ => exact ⟨c0, c1, c2, rfl⟩
 have h0 : Rd Tryz.prog W 2 (([c0, c1, c2].drop 0).take (Tryz.prog.cellsOf 2)) := hf 0 _ rfl
 have h1 : Rd Tryz.prog W 2 (([c0, c1, c2].drop 1).take (Tryz.prog.cellsOf 2)) := hf 1 _ rfl
 have h2 : Rd Tryz.prog W 2 (([c0, c1, c2].drop 2).take (Tryz.prog.cellsOf 2)) := hf 2 _ rfl
 rw [show Tryz.prog.cellsOf 2 = 1 by kernel_rfl] at h0 h1 h2
 obtain ⟨s0, hs0, _⟩ := rd_int Tryz.underlying2 h0
 obtain ⟨s1, hs1, _⟩ := rd_int Tryz.underlying2 h1
 obtain ⟨s2, hs2, _⟩ := rd_int Tryz.underlying2 h2
 simp at hs0 hs1 hs2
 subst hs0 hs1 hs2
 exact ⟨⟨s0, s1, s2⟩, rfl, trivial⟩
set_option maxHeartbeats 400000 in
theorem toSetting_any (x : DSetting) (w : World) :
  Calls Tryz.prog 10 #[.agg #[.int .i64 x.points, .int .i64 x.most, .int .i64 x.pen]] w (Ret (.agg #[.int .i64 x.points, .int .i64 x.most, .int .i64 x.pen]) w) := by
 go_enter Tryz.func10, Tryz.ntmps10
 go_wp2
 exact bodyPost_ret (v := .agg #[.int .i64 x.points, .int .i64 x.most, .int .i64 x.pen]) (by simp [results, Tryz.results10, go_sem]) rfl
  (ret_ret rfl ((((Below.refl _ _).alloc (Nat.le_refl _) _).alloc (by simp) _).alloc (by simp <;> omega) _))
def validSet (x : DSetting) : Bool := inB x.points 2 24 && inB x.most 1 8 && inB x.pen 0 1000
set_option maxHeartbeats 400000 in
theorem l13Setting_any (p : Nat) (x : DSetting) (w : World) (c0 : w.cell? ⟨p, 0, none⟩ = some (.int .i64 x.points)) (c1 : w.cell? ⟨p, 1, none⟩ = some (.int .i64 x.most)) (c2 : w.cell? ⟨p, 2, none⟩ = some (.int .i64 x.pen)) :
  Calls Tryz.prog 28 #[.pointer (some ⟨p, 0, none⟩)] w fun e w' => e = .returned (.bool (validSet x)) ∧ w = w' := by
 cases h1 : inB x.points 2 24 <;> cases h2 : inB x.most 1 8
 all_goals
  go_enter Tryz.func28, Tryz.ntmps28
  go_wp2_with (go_at_call 53; refine (l00In_any _ _ _ _).mono ?_; rintro e w' ⟨rfl, rfl⟩; first | rw [h1] | rw [h2] | skip)
  go_ret
  exact ⟨by simp [validSet, h1, h2], rfl⟩
set_option maxHeartbeats 400000 in
theorem implValidSetting_any (x : DSetting) (w : World) :
  Calls Tryz.prog 34 #[.agg #[.int .i64 x.points, .int .i64 x.most, .int .i64 x.pen]] w (Ret (.bool (validSet x)) w) := by
 cases h1 : inB x.points 2 24 <;> cases h2 : inB x.most 1 8
 all_goals
  go_enter Tryz.func34, Tryz.ntmps34
  go_wp2_with (go_at_call 62; refine (within_any _ _ _ _).mono ?_; rintro e w' ⟨rfl, rfl⟩; first | rw [h1] | rw [h2] | skip)
  go_ret
  exact ret_bool (by simp [validSet, h1, h2]) (below_alloc _ _)
end Go.Proofs.YtlnoelbeaolikaaGreat
