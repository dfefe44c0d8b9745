/- The type Edge: how its values lie in cells, and what the laws' functions over it do: every function here is shown for every argument that can be read. -/
import Derived.Test.YtcikndmmbfompaaGreatDoorRows
import Derived.Test.YtcikndmmbfompaaGreatDoorMark
import Derived.Test.YtcikndmmbfompaaGreatDoorRep
import Derived.Test.YtcikndmmbfompaaGreatDoorReg
import Derived.Test.YtcikndmmbfompaaGreatDoorOpen
namespace Go.Proofs.YtcikndmmbfompaaGreatDoor
open Go.RowKit

structure DEdge where
  frm : Int
  to_ : Int
  label : ByteArray
  cost : Int
def eEdge : Enc DEdge := ⟨fun x => [.int .i64 x.frm, .int .i64 x.to_, .string x.label, .int .i64 x.cost], 4, fun _ => rfl, by decide, fun x u hu => by simp at hu; rcases hu with rfl | rfl | rfl | rfl <;> rfl⟩

theorem eEdge_cells {w : World} {b off : Nat} {es : List DEdge} (h : Cells eEdge w b off es) {k : Nat} {x : DEdge} (hx : es[k]? = some x) :
    w.cell? ⟨b, off + k * 4, none⟩ = some (.int .i64 x.frm) ∧ w.cell? ⟨b, off + k * 4 + 1, none⟩ = some (.int .i64 x.to_) ∧ w.cell? ⟨b, off + k * 4 + 2, none⟩ = some (.string x.label) ∧ w.cell? ⟨b, off + k * 4 + 3, none⟩ = some (.int .i64 x.cost) :=
  ⟨h k x hx 0 _ rfl, h k x hx 1 _ rfl, h k x hx 2 _ rfl, h k x hx 3 _ rfl⟩

set_option maxRecDepth 100000 in
set_option maxHeartbeats 400000 in
theorem toEdge_any (x : DEdge) (w : World) :
    Calls Tryz.prog 36 #[.agg #[.int .i64 x.frm, .int .i64 x.to_, .string x.label, .int .i64 x.cost]] w (Ret (.agg #[.int .i64 x.frm, .int .i64 x.to_, .string x.label, .int .i64 x.cost]) w) := by
  go_enter Tryz.func36, Tryz.ntmps36
  go_wp2
  exact bodyPost_ret (v := .agg #[.int .i64 x.frm, .int .i64 x.to_, .string x.label, .int .i64 x.cost]) (by simp [results, Tryz.results36, go_sem]) rfl
    (ret_ret rfl ((((Below.refl _ _).alloc (Nat.le_refl _) _).alloc (by simp) _).alloc (by simp <;> omega) _))
theorem infoEdge : (Tryz.prog.info? 81).map (fun i => (i.zero, i.size, i.bytes)) = some (some (.agg #[.int .i64 0, .int .i64 0, .string ByteArray.empty, .int .i64 0]), 4, 40) := by kernel_rfl

set_option maxRecDepth 100000 in
set_option maxHeartbeats 400000 in
theorem toEdgeS_any (v : Value) (es : List DEdge) (w : World) (h : Arr eEdge w v es) (hn : es.length ≤ 1048576) :
    Calls Tryz.prog 18 #[v] w (RetOwn eEdge 81 es w) := by
  obtain ⟨b, off, ao, cap, rfl, hnc, hcm, hao, hc⟩ := h
  obtain ⟨i0, hi, hz0, hz1, hz2⟩ := info_parts infoEdge
  go_enter Tryz.func18, Tryz.ntmps18
  go_wp2_with (at_make; refine wpList_make_full _ rfl _ _ 31 rfl w.heap.size 81 i0 _ 4 Tryz.underlying31 hi hz0 hz1 _ _ _ _ es.length rfl rfl rfl rfl (by rw [hz2]; omega) (by unfold maxLen; omega) (Nat.le_refl _) ?_; intro w1 hown hgr)
  have hown := Own.made (E := eEdge) (z := (⟨0, 0, ByteArray.empty, 0⟩ : DEdge)) hown rfl
  obtain ⟨g, hg⟩ : ∃ g, g = w.heap.size := ⟨_, rfl⟩
  rw [← hg] at hown ⊢
  have hw1 : Below w.heap.size w w1 := (Below.refl _ _).grown hgr (Nat.le_refl _) (by simp)
  have hg1 : g < w1.heap.size := hown.lt.2
  have Hg := hid hg
  clear hg
  go_loopw [4] (fun i wr => ∃ (k : Nat) (ys : List DEdge), k ≤ es.length ∧ i = .int .i64 k ∧ ys.length = es.length ∧ (∀ j, j < k → ys[j]? = es[j]?) ∧
      Own eEdge 81 g wr (.slice (some ⟨g, 0, none⟩) es.length es.length) ys ∧ Below w.heap.size w wr ∧ g < wr.heap.size) (fun i _ => es.length - (intOf i).toNat)
  case atStart => exact ⟨0, _, Nat.zero_le _, rfl, by simp, by simp, hown, hw1, hg1⟩
  case round =>
    clear hown hgr hw1 hg1 hi hz0 hz1 hz2 hnc hcm
    obtain ⟨k, ys, hk, rfl, hyl, hys, hown, hb, hgw⟩ := hrel
    have HY := hid hyl
    clear hyl
    by_cases hlt : k < es.length
    · obtain ⟨hao', hbw⟩ := hao (by omega)
      subst hao'
      obtain ⟨x, hx⟩ : ∃ x, es[k]? = some x := ⟨_, List.getElem?_eq_getElem hlt⟩
      obtain ⟨c0, c1, c2, c3⟩ := eEdge_cells (hc.below hb hbw) hx
      clear hao
      have HYS := hid hys
      clear hys
      go_wp2_with (go_at_call 36; refine (toEdge_any _ _).mono ?_; rintro e w2 ⟨rfl, hb2⟩; have hown2 := hown.below hb2; clear hown; have hw2 := hb2.size; obtain ⟨u0, hu0⟩ := hown2.slot HY.out.symm k hlt 0 (by decide); obtain ⟨u1, hu1⟩ := hown2.slot HY.out.symm k hlt 1 (by decide); obtain ⟨u2, hu2⟩ := hown2.slot HY.out.symm k hlt 2 (by decide); obtain ⟨u3, hu3⟩ := hown2.slot HY.out.symm k hlt 3 (by decide); have hf := hown2.free HY.out.symm; have hv0 : w2.cell? ⟨g, k * 4, none⟩ = some u0 := hu0; have hv1 : w2.cell? ⟨g, k * 4 + 1, none⟩ = some u1 := hu1; have hv2 : w2.cell? ⟨g, k * 4 + 2, none⟩ = some u2 := hu2; have hv3 : w2.cell? ⟨g, k * 4 + 3, none⟩ = some u3 := hu3; clear hu0 hu1 hu2 hu3)
      go_roundw
      case rel =>
        have h1 := fill_step HY.out HYS.out hx
        have h2 := hown2.set HY.out.symm k (by rw [HY.out]; exact hlt) x
        exact ⟨k + 1, ys.set k x, by omega, by go_num, h1.1, h1.2, h2.1, (hb.trans (hb2.mono (by rw [← Hg.out]; omega))).grown h2.2 (by have := hb.size; omega) (by have := Hg.out; simp; omega), Nat.lt_of_lt_of_le (Nat.lt_of_lt_of_le hgw hw2) h2.2.size⟩
      case measure => simp [intOf]; omega
    · go_wp2
      go_ret
      have := fill_done HY.out hys (by omega)
      subst this
      exact ⟨_, rfl, by rw [← Hg.out, ← HY.out]; exact hown, hb⟩

def szEdge (x : DEdge) : Nat := x.label.size
def goodEdge (x : DEdge) : Prop := (Lit.int .i64 x.frm).wf = true ∧ (Lit.int .i64 x.to_).wf = true ∧ x.label.size ≤ maxLen ∧ (Lit.int .i64 x.cost).wf = true

set_option maxRecDepth 100000 in
set_option maxHeartbeats 400000 in
theorem szEdge_any (x : DEdge) (left : Int) (w : World) (hs : goodEdge x) (hl : 0 ≤ left) (hu : left ≤ 1048576) :
    Calls Tryz.prog 26 #[.agg #[.int .i64 x.frm, .int .i64 x.to_, .string x.label, .int .i64 x.cost], .int .i64 left] w (Ret (.int .i64 (szOf (szEdge x) left)) w) := by
  have hs := hs.2.2.1
  unfold maxLen at hs
  go_enter Tryz.func26, Tryz.ntmps26
  go_wp2
  · go_ret
    exact ret_int (by rw [szOf_neg (by unfold szEdge; omega)]) ((Below.refl _ _).alloc (Nat.le_refl _) _)
  · go_ret
    exact ret_int (by rw [szOf_pos (by unfold szEdge; omega)]; rfl) ((Below.refl _ _).alloc (Nat.le_refl _) _)
set_option maxRecDepth 100000 in
set_option maxHeartbeats 400000 in
theorem szEdgeS_any (v : Value) (es : List DEdge) (left : Int) (w : World) (h : Arr eEdge w v es) (hs : ∀ x ∈ es, goodEdge x) (hl : 0 ≤ left) (hu : left ≤ 1048576) :
    Calls Tryz.prog 12 #[v, .int .i64 left] w (Ret (.int .i64 (szOf (es.length + sumOf szEdge es) left)) w) := by
  obtain ⟨b, off, ao, cap, rfl, hnc, hcm, hao, hc⟩ := h
  unfold maxLen at hcm
  by_cases h0 : left < es.length
  · go_enter Tryz.func12, Tryz.ntmps12
    go_wp2
    go_ret
    exact ret_int (by rw [szOf_neg (by omega)]) (Below.refl _ _)
  have hd : decide (left - (es.length : Int) < 0) = false := by simp; omega
  go_enter Tryz.func12, Tryz.ntmps12
  go_wp2
  go_loopw [1, 5] (fun l i wr => ∃ k : Nat, k ≤ es.length ∧ i = .int .i64 k ∧ l = .int .i64 (left - es.length - sumOf szEdge (es.take k)) ∧ 0 ≤ left - es.length - sumOf szEdge (es.take k) ∧ Below w.heap.size w wr) (fun _ i _ => es.length - (intOf i).toNat)
  case atStart => exact ⟨0, Nat.zero_le _, rfl, by simp [sumOf], by simp [sumOf]; omega, Below.refl _ _⟩
  case round =>
    obtain ⟨k, hk, rfl, rfl, hp, hb⟩ := hrel
    by_cases hlt : k < es.length
    · obtain ⟨hao', hbw⟩ := hao (by omega)
      subst hao'
      obtain ⟨x, hx⟩ : ∃ x, es[k]? = some x := ⟨_, List.getElem?_eq_getElem hlt⟩
      obtain ⟨c0, c1, c2, c3⟩ := eEdge_cells (hc.below hb hbw) hx
      have hxs := hid (hs x (List.mem_of_getElem? hx))
      have hsum := sumOf_take szEdge hx
      have hle := sumOf_take_le szEdge es (k + 1)
      rw [hsum] at hle
      obtain ⟨p, hpp⟩ : ∃ p, p = left - es.length - sumOf szEdge (es.take k) := ⟨_, rfl⟩
      rw [← hpp] at hp ⊢
      have hpu : p ≤ 1048576 := by omega
      have HS : Hid (sumOf szEdge (es.take (k + 1)) = sumOf szEdge (es.take k) + szEdge x) := hid hsum
      have HP := hid hpp
      clear hao hs hsum hpp
      by_cases hf : p < szEdge x
      · go_wp2_with (go_at_call 26; refine (szEdge_any _ _ _ hxs.out (by omega) (by omega)).mono ?_; rintro e w2 ⟨rfl, hb2⟩; rw [szOf_neg hf])
        go_ret
        exact ret_int (by rw [szOf_neg (by have := HP.out; omega)]) (hb.trans (hb2.mono hb.size))
      · go_wp2_with (go_at_call 26; refine (szEdge_any _ _ _ hxs.out (by omega) (by omega)).mono ?_; rintro e w2 ⟨rfl, hb2⟩; rw [szOf_pos (by omega)])
        go_roundw
        case rel => exact ⟨k + 1, by omega, by go_num, by rw [HS.out, HP.out]; congr 1; omega, by rw [HS.out]; have := HP.out; omega, hb.trans (hb2.mono hb.size)⟩
        case measure => simp [intOf]; omega
    · have hk' : es.length = k := by omega
      go_wp2
      go_ret
      rw [← hk', List.take_length] at hp
      exact ret_int (by rw [← hk', List.take_length, szOf_pos (by omega)]; omega) hb

set_option maxRecDepth 100000 in
set_option maxHeartbeats 400000 in
theorem eqEdge_any (x : DEdge) (w : World) :
    Calls Tryz.prog 48 #[.agg #[.int .i64 x.frm, .int .i64 x.to_, .string x.label, .int .i64 x.cost], .agg #[.int .i64 x.frm, .int .i64 x.to_, .string x.label, .int .i64 x.cost]] w (Ret (.bool true) w) := by
  go_enter Tryz.func48, Tryz.ntmps48
  go_wp2
  go_ret
  exact ret_bool rfl (((Below.refl _ _).alloc (Nat.le_refl _) _).alloc (by simp) _)
set_option maxRecDepth 100000 in
set_option maxHeartbeats 400000 in
theorem eqEdgeS_any (v1 v2 : Value) (es : List DEdge) (w : World) (h1 : Arr eEdge w v1 es) (h2 : Arr eEdge w v2 es) :
    Calls Tryz.prog 24 #[v1, v2] w (Ret (.bool true) w) := by
  obtain ⟨b, off, ao, cap, rfl, hnc, hcm, hao, hc⟩ := h1
  obtain ⟨b2, off2, ao2, cap2, rfl, hnc2, hcm2, hao2, hc2⟩ := h2
  unfold maxLen at hcm
  go_enter Tryz.func24, Tryz.ntmps24
  go_wp2
  go_loopw [5] (fun i wr => ∃ k : Nat, k ≤ es.length ∧ i = .int .i64 k ∧ Below w.heap.size w wr) (fun i _ => es.length - (intOf i).toNat)
  case atStart => exact ⟨0, Nat.zero_le _, rfl, Below.refl _ _⟩
  case round =>
    obtain ⟨k, hk, rfl, hb⟩ := hrel
    by_cases hlt : k < es.length
    · obtain ⟨hao', hbw⟩ := hao (by omega)
      obtain ⟨hao2', hbw2⟩ := hao2 (by omega)
      subst hao' hao2'
      obtain ⟨x, hx⟩ : ∃ x, es[k]? = some x := ⟨_, List.getElem?_eq_getElem hlt⟩
      obtain ⟨c0, c1, c2, c3⟩ := eEdge_cells (hc.below hb hbw) hx
      obtain ⟨d0, d1, d2, d3⟩ := eEdge_cells (hc2.below hb hbw2) hx
      have c0 := ext_cell c0
      have c1 := ext_cell c1
      have c2 := ext_cell c2
      have c3 := ext_cell c3
      have d0 := ext_cell d0
      have d1 := ext_cell d1
      have d2 := ext_cell d2
      have d3 := ext_cell d3
      clear hao hao2
      have hli : (k : Int) < (es.length : Int) := by omega
      go_wp2
      refine wp_region_ext (by kernel_rfl) (by kernel_rfl) ?_
      repeat (go_big_quiet_step (((go_at_call 48; exact ret_ext (eqEdge_any _ _)))))
      refine wpQuiet_nil ?_
      intro _ hw'
      obtain ⟨nq, hw''⟩ := hw'
      subst hw''
      go_wp2
      go_roundw
      case rel => exact ⟨k + 1, by omega, by go_num, hb.trans ((ext_below _ _).mono hb.size)⟩
      case measure => simp [intOf]; omega
    · go_wp2
      go_ret
      exact ret_bool rfl hb

/-- what markTS leaves -/
def mkEdge (k : Int) (n : Nat) : List DEdge := (List.range n).map fun (i : Nat) => ⟨k + 4 * (i : Int), k + 4 * (i : Int) + 1, mt (k + 4 * (i : Int) + 1 + 1), k + 4 * (i : Int) + 1 + 1 + 1⟩
theorem mkEdge_len (k : Int) (n : Nat) : (mkEdge k n).length = n := by simp [mkEdge]
theorem mkEdge_get (k : Int) (n i : Nat) (h : i < n) : (mkEdge k n)[i]? = some ⟨k + 4 * (i : Int), k + 4 * (i : Int) + 1, mt (k + 4 * (i : Int) + 1 + 1), k + 4 * (i : Int) + 1 + 1 + 1⟩ := by simp [mkEdge, h]

set_option maxRecDepth 100000 in
theorem decEdge (w : World) (cs : List Value) (h : Rd Tryz.prog w 62 cs) : ∃ x : DEdge, cs = eEdge.row x ∧ goodEdge x := by
  obtain ⟨hl, hf⟩ := rd_struct Tryz.underlying62 h
  rw [show Tryz.prog.cellsOf 62 = 4 by kernel_rfl] at hl
  obtain ⟨c0, c1, c2, c3, rfl⟩ : ∃ c0 c1 c2 c3, cs = [c0, c1, c2, c3] := by
    match cs, hl with
    | [c0, c1, c2, c3], _ => exact ⟨c0, c1, c2, c3, rfl⟩
  have h0 : Rd Tryz.prog w 2 (([c0, c1, c2, c3].drop 0).take (Tryz.prog.cellsOf 2)) := hf 0 _ rfl
  have h1 : Rd Tryz.prog w 2 (([c0, c1, c2, c3].drop 1).take (Tryz.prog.cellsOf 2)) := hf 1 _ rfl
  have h2 : Rd Tryz.prog w 9 (([c0, c1, c2, c3].drop 2).take (Tryz.prog.cellsOf 9)) := hf 2 _ rfl
  have h3 : Rd Tryz.prog w 2 (([c0, c1, c2, c3].drop 3).take (Tryz.prog.cellsOf 2)) := hf 3 _ rfl
  rw [show Tryz.prog.cellsOf 2 = 1 by kernel_rfl] at h0
  obtain ⟨s0, hs0, hg0⟩ := rd_int Tryz.underlying2 h0
  simp at hs0
  subst hs0
  rw [show Tryz.prog.cellsOf 2 = 1 by kernel_rfl] at h1
  obtain ⟨s1, hs1, hg1⟩ := rd_int Tryz.underlying2 h1
  simp at hs1
  subst hs1
  rw [show Tryz.prog.cellsOf 9 = 1 by kernel_rfl] at h2
  obtain ⟨s2, hs2, hg2⟩ := rd_string Tryz.underlying9 h2
  simp at hs2
  subst hs2
  rw [show Tryz.prog.cellsOf 2 = 1 by kernel_rfl] at h3
  obtain ⟨s3, hs3, hg3⟩ := rd_int Tryz.underlying2 h3
  simp at hs3
  subst hs3
  exact ⟨⟨s0, s1, s2, s3⟩, rfl, hg0, hg1, hg2, hg3⟩
end Go.Proofs.YtcikndmmbfompaaGreatDoor
