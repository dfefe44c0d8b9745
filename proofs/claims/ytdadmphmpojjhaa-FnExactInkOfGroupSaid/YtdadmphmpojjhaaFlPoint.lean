/- The type Point: how its values lie in cells, and what the laws' functions over it do: every function here is shown for every argument that can be read. -/
import Derived.Test.YtdadmphmpojjhaaRows
import Derived.Test.YtdadmphmpojjhaaMark
import Derived.Test.YtdadmphmpojjhaaRep
import Derived.Test.YtdadmphmpojjhaaReg
import Derived.Test.YtdadmphmpojjhaaOpen
namespace Go.Proofs.Ytdadmphmpojjhaa
open Go.RowKit

structure DPoint where
  x : Int
  y : Int
  t : Int
def ePoint : Enc DPoint := ⟨fun x => [.int .i64 x.x, .int .i64 x.y, .int .i64 x.t], 3, fun _ => rfl, by decide, fun x u hu => by simp at hu; rcases hu with rfl | rfl | rfl <;> rfl⟩

theorem ePoint_cells {w : World} {b off : Nat} {es : List DPoint} (h : Cells ePoint w b off es) {k : Nat} {x : DPoint} (hx : es[k]? = some x) :
    w.cell? ⟨b, off + k * 3, none⟩ = some (.int .i64 x.x) ∧ w.cell? ⟨b, off + k * 3 + 1, none⟩ = some (.int .i64 x.y) ∧ w.cell? ⟨b, off + k * 3 + 2, none⟩ = some (.int .i64 x.t) :=
  ⟨h k x hx 0 _ rfl, h k x hx 1 _ rfl, h k x hx 2 _ rfl⟩

set_option maxRecDepth 100000 in
set_option maxHeartbeats 400000 in
theorem toPoint_any (x : DPoint) (w : World) :
    Calls Try.prog 54 #[.agg #[.int .i64 x.x, .int .i64 x.y, .int .i64 x.t]] w (Ret (.agg #[.int .i64 x.x, .int .i64 x.y, .int .i64 x.t]) w) := by
  go_enter Try.func54, Try.ntmps54
  go_wp2
  exact bodyPost_ret (v := .agg #[.int .i64 x.x, .int .i64 x.y, .int .i64 x.t]) (by simp [results, Try.results54, go_sem]) rfl
    (ret_ret rfl ((((Below.refl _ _).alloc (Nat.le_refl _) _).alloc (by simp) _).alloc (by simp <;> omega) _))
theorem infoPoint : (Try.prog.info? 59).map (fun i => (i.zero, i.size, i.bytes)) = some (some (.agg #[.int .i64 0, .int .i64 0, .int .i64 0]), 3, 24) := by kernel_rfl

set_option maxRecDepth 100000 in
set_option maxHeartbeats 400000 in
theorem toPointS_any (v : Value) (es : List DPoint) (w : World) (h : Arr ePoint w v es) (hn : es.length ≤ 1048576) :
    Calls Try.prog 42 #[v] w (RetOwn ePoint 59 es w) := by
  obtain ⟨b, off, ao, cap, rfl, hnc, hcm, hao, hc⟩ := h
  obtain ⟨i0, hi, hz0, hz1, hz2⟩ := info_parts infoPoint
  go_enter Try.func42, Try.ntmps42
  go_wp2_with (at_make; refine wpList_make_full _ rfl _ _ 55 rfl w.heap.size 59 i0 _ 3 Try.underlying55 hi hz0 hz1 _ _ _ _ es.length rfl rfl rfl rfl (by rw [hz2]; omega) (by unfold maxLen; omega) (Nat.le_refl _) ?_; intro w1 hown hgr)
  have hown := Own.made (E := ePoint) (z := (⟨0, 0, 0⟩ : DPoint)) hown rfl
  obtain ⟨g, hg⟩ : ∃ g, g = w.heap.size := ⟨_, rfl⟩
  rw [← hg] at hown ⊢
  have hw1 : Below w.heap.size w w1 := (Below.refl _ _).grown hgr (Nat.le_refl _) (by simp)
  have hg1 : g < w1.heap.size := hown.lt.2
  have Hg := hid hg
  clear hg
  go_loopw [4] (fun i wr => ∃ (k : Nat) (ys : List DPoint), k ≤ es.length ∧ i = .int .i64 k ∧ ys.length = es.length ∧ (∀ j, j < k → ys[j]? = es[j]?) ∧
      Own ePoint 59 g wr (.slice (some ⟨g, 0, none⟩) es.length es.length) ys ∧ Below w.heap.size w wr ∧ g < wr.heap.size) (fun i _ => es.length - (intOf i).toNat)
  case atStart => exact ⟨0, _, Nat.zero_le _, rfl, by simp, by simp, hown, hw1, hg1⟩
  case round =>
    clear hown hgr hw1 hg1 hi hz0 hz1 hz2 hnc hcm
    obtain ⟨k, ys, hk, rfl, hyl, hys, hown, hb, hgw⟩ := hrel
    have HY := hid hyl
    clear hyl
    by_cases hlt : k < es.length
    · obtain ⟨hao', hbw⟩ := hao (by omega)
      subst hao'
      obtain ⟨x, hx⟩ : ∃ x, es[k]? = some x := ⟨_, List.getElem?_eq_getElem hlt⟩
      obtain ⟨c0, c1, c2⟩ := ePoint_cells (hc.below hb hbw) hx
      clear hao
      have HYS := hid hys
      clear hys
      go_wp2_with (go_at_call 54; refine (toPoint_any _ _).mono ?_; rintro e w2 ⟨rfl, hb2⟩; have hown2 := hown.below hb2; clear hown; have hw2 := hb2.size; obtain ⟨u0, hu0⟩ := hown2.slot HY.out.symm k hlt 0 (by decide); obtain ⟨u1, hu1⟩ := hown2.slot HY.out.symm k hlt 1 (by decide); obtain ⟨u2, hu2⟩ := hown2.slot HY.out.symm k hlt 2 (by decide); have hf := hown2.free HY.out.symm; have hv0 : w2.cell? ⟨g, k * 3, none⟩ = some u0 := hu0; have hv1 : w2.cell? ⟨g, k * 3 + 1, none⟩ = some u1 := hu1; have hv2 : w2.cell? ⟨g, k * 3 + 2, none⟩ = some u2 := hu2; clear hu0 hu1 hu2)
      go_roundw
      case rel =>
        have h1 := fill_step HY.out HYS.out hx
        have h2 := hown2.set HY.out.symm k (by rw [HY.out]; exact hlt) x
        exact ⟨k + 1, ys.set k x, by omega, by go_num, h1.1, h1.2, h2.1, (hb.trans (hb2.mono (by rw [← Hg.out]; omega))).grown h2.2 (by have := hb.size; omega) (by have := Hg.out; simp; omega), Nat.lt_of_lt_of_le (Nat.lt_of_lt_of_le hgw hw2) h2.2.size⟩
      case measure => simp [intOf]; omega
    · go_wp2
      go_ret
      have := fill_done HY.out hys (by omega)
      subst this
      exact ⟨_, rfl, by rw [← Hg.out, ← HY.out]; exact hown, hb⟩

def szPoint (_ : DPoint) : Nat := 0
def goodPoint (x : DPoint) : Prop := (Lit.int .i64 x.x).wf = true ∧ (Lit.int .i64 x.y).wf = true ∧ (Lit.int .i64 x.t).wf = true

theorem sumOf_szPoint (es : List DPoint) : sumOf szPoint es = 0 := by
  unfold sumOf; induction es with
  | nil => rfl
  | cons e es ih => simp only [List.map_cons, List.sum_cons, ih]; rfl
set_option maxRecDepth 100000 in
set_option maxHeartbeats 400000 in
theorem szPointS_any (v : Value) (es : List DPoint) (left : Int) (w : World) (h : Arr ePoint w v es) (_hs : ∀ x ∈ es, goodPoint x) (hl : 0 ≤ left) (hu : left ≤ 1048576) :
    Calls Try.prog 38 #[v, .int .i64 left] w (Ret (.int .i64 (szOf (es.length + sumOf szPoint es) left)) w) := by
  rw [sumOf_szPoint, Nat.add_zero]
  obtain ⟨b, off, ao, cap, rfl, hnc, hcm, hao, hc⟩ := h
  unfold maxLen at hcm
  by_cases h0 : left < es.length
  · go_enter Try.func38, Try.ntmps38
    go_wp2
    go_ret
    exact ret_int (by rw [szOf_neg (by omega)]) (Below.refl _ _)
  · go_enter Try.func38, Try.ntmps38
    go_wp2
    go_ret
    exact ret_int (by rw [szOf_pos (by omega)]) (Below.refl _ _)

set_option maxRecDepth 100000 in
set_option maxHeartbeats 400000 in
theorem eqPoint_any (x : DPoint) (w : World) :
    Calls Try.prog 70 #[.agg #[.int .i64 x.x, .int .i64 x.y, .int .i64 x.t], .agg #[.int .i64 x.x, .int .i64 x.y, .int .i64 x.t]] w (Ret (.bool true) w) := by
  go_enter Try.func70, Try.ntmps70
  go_wp2
  go_ret
  exact ret_bool rfl (((Below.refl _ _).alloc (Nat.le_refl _) _).alloc (by simp) _)
set_option maxRecDepth 100000 in
set_option maxHeartbeats 400000 in
theorem eqPointS_any (v1 v2 : Value) (es : List DPoint) (w : World) (h1 : Arr ePoint w v1 es) (h2 : Arr ePoint w v2 es) :
    Calls Try.prog 49 #[v1, v2] w (Ret (.bool true) w) := by
  obtain ⟨b, off, ao, cap, rfl, hnc, hcm, hao, hc⟩ := h1
  obtain ⟨b2, off2, ao2, cap2, rfl, hnc2, hcm2, hao2, hc2⟩ := h2
  unfold maxLen at hcm
  go_enter Try.func49, Try.ntmps49
  go_wp2
  go_loopw [5] (fun i wr => ∃ k : Nat, k ≤ es.length ∧ i = .int .i64 k ∧ Below w.heap.size w wr) (fun i _ => es.length - (intOf i).toNat)
  case atStart => exact ⟨0, Nat.zero_le _, rfl, Below.refl _ _⟩
  case round =>
    obtain ⟨k, hk, rfl, hb⟩ := hrel
    by_cases hlt : k < es.length
    · obtain ⟨hao', hbw⟩ := hao (by omega)
      obtain ⟨hao2', hbw2⟩ := hao2 (by omega)
      subst hao' hao2'
      obtain ⟨x, hx⟩ : ∃ x, es[k]? = some x := ⟨_, List.getElem?_eq_getElem hlt⟩
      obtain ⟨c0, c1, c2⟩ := ePoint_cells (hc.below hb hbw) hx
      obtain ⟨d0, d1, d2⟩ := ePoint_cells (hc2.below hb hbw2) hx
      have c0 := ext_cell c0
      have c1 := ext_cell c1
      have c2 := ext_cell c2
      have d0 := ext_cell d0
      have d1 := ext_cell d1
      have d2 := ext_cell d2
      clear hao hao2
      have hli : (k : Int) < (es.length : Int) := by omega
      go_wp2
      refine wp_region_ext (by kernel_rfl) (by kernel_rfl) ?_
      repeat (go_big_quiet_step (((go_at_call 70; exact ret_ext (eqPoint_any _ _)))))
      refine wpQuiet_nil ?_
      intro _ hw'
      obtain ⟨nq, hw''⟩ := hw'
      subst hw''
      go_wp2
      go_roundw
      case rel => exact ⟨k + 1, by omega, by go_num, hb.trans ((ext_below _ _).mono hb.size)⟩
      case measure => simp [intOf]; omega
    · go_wp2
      go_ret
      exact ret_bool rfl hb

/-- what markTS leaves -/
def mkPoint (k : Int) (n : Nat) : List DPoint := (List.range n).map fun (i : Nat) => ⟨k + 3 * (i : Int), k + 3 * (i : Int) + 1, k + 3 * (i : Int) + 1 + 1⟩
theorem mkPoint_len (k : Int) (n : Nat) : (mkPoint k n).length = n := by simp [mkPoint]
theorem mkPoint_get (k : Int) (n i : Nat) (h : i < n) : (mkPoint k n)[i]? = some ⟨k + 3 * (i : Int), k + 3 * (i : Int) + 1, k + 3 * (i : Int) + 1 + 1⟩ := by simp [mkPoint, h]

set_option maxHeartbeats 1000000 in
theorem markPointS_any (v : Value) (es : List DPoint) (lo hi : Nat) (k : Int) (w : World) (h : OwnIn ePoint 59 lo hi w v es) (hn : es.length ≤ 1048576) (hk0 : 0 ≤ k) (hk1 : k ≤ 20000000) :
    Calls Try.prog 36 #[v, .int .i64 k] w (RetMark (Rep.flat ePoint 59) (mkPoint k es.length) (k + 3 * (es.length : Int)) lo hi v w) := by
  have hsl : ∃ (ao : Option Addr) (cap g : Nat), v = .slice ao es.length cap ∧ (0 < es.length → ao = some ⟨g, 0, none⟩) := by
    rcases h.1.shape with ⟨rfl, rfl⟩ | ⟨g, cap, rfl, _, _⟩
    · exact ⟨none, 0, 0, rfl, by simp⟩
    · exact ⟨_, cap, g, rfl, fun _ => rfl⟩
  obtain ⟨ao, cap, g, rfl, hao⟩ := hsl
  go_enter Try.func36, Try.ntmps36
  go_wp2
  go_loopw [1, 5] (fun kv iv wr => ∃ (i : Nat) (ys : List DPoint), i ≤ es.length ∧ iv = .int .i64 i ∧ kv = .int .i64 (k + 3 * (i : Int)) ∧ ys.length = es.length ∧ (∀ j, j < i → ys[j]? = (mkPoint k es.length)[j]?) ∧
      OwnIn ePoint 59 lo hi wr (.slice ao es.length cap) ys ∧ Mk (fun T => T == 59) lo hi w wr) (fun _ i _ => es.length - (intOf i).toNat)
  case atStart => exact ⟨0, es, Nat.zero_le _, rfl, by simp, rfl, by simp, h, Mk.refl _ _ _ _⟩
  case round =>
    clear h
    obtain ⟨i, ys, hk, rfl, rfl, hyl, hys, ho, hch⟩ := hrel
    have HY := hid hyl
    have HYS := hid hys
    clear hyl hys
    by_cases hlt : i < es.length
    · have hao' := hao (by omega)
      subst hao'
      clear hao
      obtain ⟨y, hy⟩ : ∃ y, ys[i]? = some y := ⟨_, List.getElem?_eq_getElem (by rw [HY.out]; exact hlt)⟩
      have Y0 := hid hy
      clear hy
      have O0 := ho
      clear ho
      obtain ⟨u0, hu0⟩ := O0.1.slot (by simp [HY.out]) i hlt 0 (by decide)
      obtain ⟨u1, hu1⟩ := O0.1.slot (by simp [HY.out]) i hlt 1 (by decide)
      obtain ⟨u2, hu2⟩ := O0.1.slot (by simp [HY.out]) i hlt 2 (by decide)
      have hv0 : wr.cell? ⟨g, i * 3, none⟩ = some u0 := hu0
      have hv1 : wr.cell? ⟨g, i * 3 + 1, none⟩ = some u1 := hu1
      have hv2 : wr.cell? ⟨g, i * 3 + 2, none⟩ = some u2 := hu2
      have hf := O0.1.free (by simp [HY.out])
      clear hu0 hu1 hu2
      go_wp2
      have S0 := O0.set1 (by simp [HY.out]) Y0.out (j := 0) (x' := (⟨k + 3 * (i : Int), y.y, y.t⟩ : DPoint)) (u := .int .i64 (k + 3 * (i : Int))) (by decide) rfl
      have O1 := S0.1
      have Y1 := hid (set_same (y := (⟨k + 3 * (i : Int), y.y, y.t⟩ : DPoint)) Y0.out)
      have S1 := O1.set1 (by simp [HY.out]) Y1.out (j := 1) (x' := (⟨k + 3 * (i : Int), k + 3 * (i : Int) + 1, y.t⟩ : DPoint)) (u := .int .i64 (k + 3 * (i : Int) + 1)) (by decide) rfl
      have O2 := S1.1
      rw [set_set] at O2
      have Y2 := hid (set_same (y := (⟨k + 3 * (i : Int), k + 3 * (i : Int) + 1, y.t⟩ : DPoint)) Y0.out)
      have S2 := O2.set1 (by simp [HY.out]) Y2.out (j := 2) (x' := (⟨k + 3 * (i : Int), k + 3 * (i : Int) + 1, k + 3 * (i : Int) + 1 + 1⟩ : DPoint)) (u := .int .i64 (k + 3 * (i : Int) + 1 + 1)) (by decide) rfl
      have O3 := S2.1
      rw [set_set] at O3
      have Y3 := hid (set_same (y := (⟨k + 3 * (i : Int), k + 3 * (i : Int) + 1, k + 3 * (i : Int) + 1 + 1⟩ : DPoint)) Y0.out)
      go_roundw
      case rel =>
        have h1 := fill_step (xs := mkPoint k es.length) (by rw [mkPoint_len]; exact HY.out) HYS.out (mkPoint_get k es.length i hlt)
        exact ⟨i + 1, ys.set i ⟨k + 3 * (i : Int), k + 3 * (i : Int) + 1, k + 3 * (i : Int) + 1 + 1⟩, by omega, by go_num, by go_num, by rw [h1.1, mkPoint_len], h1.2, O3, (((hch).trans S0.2).trans S1.2).trans S2.2⟩
      case measure => simp [intOf]; omega
    · obtain rfl : i = es.length := by omega
      have := fill_done (xs := mkPoint k es.length) (by rw [mkPoint_len]; exact HY.out) HYS.out (by rw [mkPoint_len]; exact Nat.le_refl _)
      subst this
      clear HYS
      go_wp2
      go_ret
      exact ⟨rfl, ho, hch⟩
set_option maxHeartbeats 1000000 in
theorem heldPointS_any (v : Value) (n : Nat) (k : Int) (w : World) (h : Arr ePoint w v (mkPoint k n)) (hn : n ≤ 1048576) (hk0 : 0 ≤ k) (hk1 : k ≤ 20000000) :
    Calls Try.prog 37 #[v, .int .i64 k] w (Ret (.int .i64 (k + 3 * (n : Int))) w) := by
  obtain ⟨b, off, ao, cap, rfl, hnc, hcm, hao, hc⟩ := h
  simp only [mkPoint_len] at *
  unfold maxLen at hcm
  go_enter Try.func37, Try.ntmps37
  go_wp2
  go_loopw [1, 5] (fun kv iv wr => ∃ (i : Nat), i ≤ n ∧ iv = .int .i64 i ∧ kv = .int .i64 (k + 3 * (i : Int)) ∧ Below w.heap.size w wr) (fun _ i _ => n - (intOf i).toNat)
  case atStart => exact ⟨0, Nat.zero_le _, rfl, by simp, Below.refl _ _⟩
  case round =>
    obtain ⟨i, hk, rfl, rfl, hb⟩ := hrel
    by_cases hlt : i < n
    · obtain ⟨hao', hbw⟩ := hao (by omega)
      subst hao'
      clear hao
      obtain ⟨c0, c1, c2⟩ := ePoint_cells (hc.below hb hbw) (mkPoint_get k n i hlt)
      have hli : (i : Int) < (n : Int) := by omega
      go_wp2
      go_roundw
      case rel => exact ⟨i + 1, by omega, by go_num, by go_num, hb⟩
      case measure => simp [intOf]; omega
    · obtain rfl : i = n := by omega
      go_wp2
      go_ret
      exact ret_int rfl hb

set_option maxRecDepth 100000 in
theorem decPoint (w : World) (cs : List Value) (h : Rd Try.prog w 90 cs) : ∃ x : DPoint, cs = ePoint.row x ∧ goodPoint x := by
  obtain ⟨hl, hf⟩ := rd_struct Try.underlying90 h
  rw [show Try.prog.cellsOf 90 = 3 by kernel_rfl] at hl
  obtain ⟨c0, c1, c2, rfl⟩ : ∃ c0 c1 c2, cs = [c0, c1, c2] := by
    match cs, hl with
    | [c0, c1, c2], _ => exact ⟨c0, c1, c2, rfl⟩
  have h0 : Rd Try.prog w 2 (([c0, c1, c2].drop 0).take (Try.prog.cellsOf 2)) := hf 0 _ rfl
  have h1 : Rd Try.prog w 2 (([c0, c1, c2].drop 1).take (Try.prog.cellsOf 2)) := hf 1 _ rfl
  have h2 : Rd Try.prog w 2 (([c0, c1, c2].drop 2).take (Try.prog.cellsOf 2)) := hf 2 _ rfl
  rw [show Try.prog.cellsOf 2 = 1 by kernel_rfl] at h0
  obtain ⟨s0, hs0, hg0⟩ := rd_int Try.underlying2 h0
  simp at hs0
  subst hs0
  rw [show Try.prog.cellsOf 2 = 1 by kernel_rfl] at h1
  obtain ⟨s1, hs1, hg1⟩ := rd_int Try.underlying2 h1
  simp at hs1
  subst hs1
  rw [show Try.prog.cellsOf 2 = 1 by kernel_rfl] at h2
  obtain ⟨s2, hs2, hg2⟩ := rd_int Try.underlying2 h2
  simp at hs2
  subst hs2
  exact ⟨⟨s0, s1, s2⟩, rfl, hg0, hg1, hg2⟩
end Go.Proofs.Ytdadmphmpojjhaa
