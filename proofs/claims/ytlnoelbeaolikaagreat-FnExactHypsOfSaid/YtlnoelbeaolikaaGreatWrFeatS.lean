/- Slices of strings: how their values lie in memory, and what the laws' functions over them do. -/
import Derived.Test.YtlnoelbeaolikaaGreatRows
import Derived.Test.YtlnoelbeaolikaaGreatMark
import Derived.Test.YtlnoelbeaolikaaGreatRep
import Derived.Test.YtlnoelbeaolikaaGreatReg
import Derived.Test.YtlnoelbeaolikaaGreatOpen
namespace Go.Proofs.YtlnoelbeaolikaaGreat
open Go.ChangeShapes Go.WideShapes Go.ChangeAt Go.RowKit Go.Deep

def eStr : Enc ByteArray := ⟨fun x => [.string x], 1, fun _ => rfl, by decide, fun x u hu => by simp at hu; subst hu; rfl⟩
abbrev XStringS := List ByteArray
def rStringS : Rep XStringS := Rep.flat eStr 9
def goodStringS (x : XStringS) : Prop := ∀ s ∈ x, s.size ≤ maxLen
def okStringS (x : XStringS) : Prop := x.length ≤ 1048576
def szStr (s : ByteArray) : Nat := s.size
def sizeStringS (x : XStringS) : Nat := x.length + sumOf szStr x
theorem okStringS_of {x : XStringS} (h : sizeStringS x ≤ 1048576) : okStringS x := by unfold sizeStringS at h; unfold okStringS; omega
def cntStringS (x : XStringS) : Int := (x.length : Int)
theorem cntStringS_bd {x : XStringS} (h : okStringS x) : 0 ≤ cntStringS x ∧ cntStringS x ≤ 10000000 := by unfold okStringS at h; unfold cntStringS; omega
def mkStr (k : Int) (n : Nat) : List ByteArray := (List.range n).map fun (i : Nat) => mt (k + (i : Int))
theorem mkStr_len (k : Int) (n : Nat) : (mkStr k n).length = n := by simp [mkStr]
theorem mkStr_get (k : Int) (n i : Nat) (h : i < n) : (mkStr k n)[i]? = some (mt (k + (i : Int))) := by simp [mkStr, h]
def mkXStringS (k : Int) (x : XStringS) : XStringS := mkStr k x.length
theorem shapeStringS {lo hi : Nat} {w : World} {v : Value} {x : XStringS} (h : rStringS.at_ lo hi w v x) : ∃ sa sc, v = .slice sa x.length sc := (ArrIn.arr h).isSlice
theorem rStringS_arr {lo hi : Nat} {w : World} {v : Value} {x : XStringS} (h : rStringS.at_ lo hi w v x) : Arr eStr w v x := ArrIn.arr h
theorem rStringS_own {w w' : World} {B : Nat} {u : Value} {x : XStringS} (h : Own eStr 9 B w' u x) (hB : w.heap.size ≤ B) : rStringS.own w.heap.size w'.heap.size w' u x := (h.mono hB).in_
theorem eStr_cell {w : World} {b off : Nat} {es : List ByteArray} (h : Cells eStr w b off es) {k : Nat} {x : ByteArray} (hx : es[k]? = some x) : w.cell? ⟨b, off + k, none⟩ = some (.string x) := by
  have := h k x hx 0 _ rfl
  have e : off + k * eStr.sz + 0 = off + k := by show off + k * 1 + 0 = off + k; omega
  rw [e] at this
  exact this
theorem infoStr : (Tryz.prog.info? 9).map (fun i => (i.zero, i.size, i.bytes)) = some (some (.string ByteArray.empty), 1, 16) := by kernel_rfl
theorem ownS_slot {B g cap n : Nat} {w : World} {xs : List ByteArray} (h : Own eStr 9 B w (.slice (some ⟨g, 0, none⟩) n cap) xs) (hn : n = xs.length) {k : Nat} (hk : k < n) : ∃ u, w.cell? ⟨g, k, none⟩ = some u := by
  obtain ⟨u, hu⟩ := h.slot hn k hk 0 (by decide)
  have e : k * eStr.sz + 0 = k := by show k * 1 + 0 = k; omega
  rw [e] at hu
  exact ⟨u, hu⟩
end Go.Proofs.YtlnoelbeaolikaaGreat
namespace Go.Proofs.YtlnoelbeaolikaaGreat
open Go.RowKit

structure DFeat where
  x : Int
  y : Int
  d : Int
def eFeat : Enc DFeat := ⟨fun x => [.int .i64 x.x, .int .i64 x.y, .int .i64 x.d], 3, fun _ => rfl, by decide, fun x u hu => by simp at hu; rcases hu with rfl | rfl | rfl <;> rfl⟩

theorem eFeat_cells {w : World} {b off : Nat} {es : List DFeat} (h : Cells eFeat w b off es) {k : Nat} {x : DFeat} (hx : es[k]? = some x) :
    w.cell? ⟨b, off + k * 3, none⟩ = some (.int .i64 x.x) ∧ w.cell? ⟨b, off + k * 3 + 1, none⟩ = some (.int .i64 x.y) ∧ w.cell? ⟨b, off + k * 3 + 2, none⟩ = some (.int .i64 x.d) :=
  ⟨h k x hx 0 _ rfl, h k x hx 1 _ rfl, h k x hx 2 _ rfl⟩

set_option maxRecDepth 100000 in
set_option maxHeartbeats 400000 in
theorem toFeat_any (x : DFeat) (w : World) :
    Calls Tryz.prog 145 #[.agg #[.int .i64 x.x, .int .i64 x.y, .int .i64 x.d]] w (Ret (.agg #[.int .i64 x.x, .int .i64 x.y, .int .i64 x.d]) w) := by
  go_enter Tryz.func145, Tryz.ntmps145
  go_wp2
  exact bodyPost_ret (v := .agg #[.int .i64 x.x, .int .i64 x.y, .int .i64 x.d]) (by simp [results, Tryz.results145, go_sem]) rfl
    (ret_ret rfl ((((Below.refl _ _).alloc (Nat.le_refl _) _).alloc (by simp) _).alloc (by simp <;> omega) _))
theorem infoFeat : (Tryz.prog.info? 176).map (fun i => (i.zero, i.size, i.bytes)) = some (some (.agg #[.int .i64 0, .int .i64 0, .int .i64 0]), 3, 24) := by kernel_rfl

set_option maxRecDepth 100000 in
set_option maxHeartbeats 400000 in
theorem toFeatS_any (v : Value) (es : List DFeat) (w : World) (h : Arr eFeat w v es) (hn : es.length ≤ 1048576) :
    Calls Tryz.prog 99 #[v] w (RetOwn eFeat 176 es w) := by
  obtain ⟨b, off, ao, cap, rfl, hnc, hcm, hao, hc⟩ := h
  obtain ⟨i0, hi, hz0, hz1, hz2⟩ := info_parts infoFeat
  go_enter Tryz.func99, Tryz.ntmps99
  go_wp2_with (at_make; refine wpList_make_full _ rfl _ _ 104 rfl w.heap.size 176 i0 _ 3 Tryz.underlying104 hi hz0 hz1 _ _ _ _ es.length rfl rfl rfl rfl (by rw [hz2]; omega) (by unfold maxLen; omega) (Nat.le_refl _) ?_; intro w1 hown hgr)
  have hown := Own.made (E := eFeat) (z := (⟨0, 0, 0⟩ : DFeat)) hown rfl
  obtain ⟨g, hg⟩ : ∃ g, g = w.heap.size := ⟨_, rfl⟩
  rw [← hg] at hown ⊢
  have hw1 : Below w.heap.size w w1 := (Below.refl _ _).grown hgr (Nat.le_refl _) (by simp)
  have hg1 : g < w1.heap.size := hown.lt.2
  have Hg := hid hg
  clear hg
  go_loopw [4] (fun i wr => ∃ (k : Nat) (ys : List DFeat), k ≤ es.length ∧ i = .int .i64 k ∧ ys.length = es.length ∧ (∀ j, j < k → ys[j]? = es[j]?) ∧
      Own eFeat 176 g wr (.slice (some ⟨g, 0, none⟩) es.length es.length) ys ∧ Below w.heap.size w wr ∧ g < wr.heap.size) (fun i _ => es.length - (intOf i).toNat)
  case atStart => exact ⟨0, _, Nat.zero_le _, rfl, by simp, by simp, hown, hw1, hg1⟩
  case round =>
    clear hown hgr hw1 hg1 hi hz0 hz1 hz2 hnc hcm
    obtain ⟨k, ys, hk, rfl, hyl, hys, hown, hb, hgw⟩ := hrel
    have HY := hid hyl
    clear hyl
    by_cases hlt : k < es.length
    · obtain ⟨hao', hbw⟩ := hao (by omega)
      subst hao'
      obtain ⟨x, hx⟩ : ∃ x, es[k]? = some x := ⟨_, List.getElem?_eq_getElem hlt⟩
      obtain ⟨c0, c1, c2⟩ := eFeat_cells (hc.below hb hbw) hx
      clear hao
      have HYS := hid hys
      clear hys
      go_wp2_with (go_at_call 145; refine (toFeat_any _ _).mono ?_; rintro e w2 ⟨rfl, hb2⟩; have hown2 := hown.below hb2; clear hown; have hw2 := hb2.size; obtain ⟨u0, hu0⟩ := hown2.slot HY.out.symm k hlt 0 (by decide); obtain ⟨u1, hu1⟩ := hown2.slot HY.out.symm k hlt 1 (by decide); obtain ⟨u2, hu2⟩ := hown2.slot HY.out.symm k hlt 2 (by decide); have hf := hown2.free HY.out.symm; have hv0 : w2.cell? ⟨g, k * 3, none⟩ = some u0 := hu0; have hv1 : w2.cell? ⟨g, k * 3 + 1, none⟩ = some u1 := hu1; have hv2 : w2.cell? ⟨g, k * 3 + 2, none⟩ = some u2 := hu2; clear hu0 hu1 hu2)
      go_roundw
      case rel =>
        have h1 := fill_step HY.out HYS.out hx
        have h2 := hown2.set HY.out.symm k (by rw [HY.out]; exact hlt) x
        exact ⟨k + 1, ys.set k x, by omega, by go_num, h1.1, h1.2, h2.1, (hb.trans (hb2.mono (by rw [← Hg.out]; omega))).grown h2.2 (by have := hb.size; omega) (by have := Hg.out; simp; omega), Nat.lt_of_lt_of_le (Nat.lt_of_lt_of_le hgw hw2) h2.2.size⟩
      case measure => simp [intOf]; omega
    · go_wp2
      go_ret
      have := fill_done HY.out hys (by omega)
      subst this
      exact ⟨_, rfl, by rw [← Hg.out, ← HY.out]; exact hown, hb⟩

def szFeat (_ : DFeat) : Nat := 0
def goodFeat (x : DFeat) : Prop := (Lit.int .i64 x.x).wf = true ∧ (Lit.int .i64 x.y).wf = true ∧ (Lit.int .i64 x.d).wf = true

theorem sumOf_szFeat (es : List DFeat) : sumOf szFeat es = 0 := by
  unfold sumOf; induction es with
  | nil => rfl
  | cons e es ih => simp only [List.map_cons, List.sum_cons, ih]; rfl
set_option maxRecDepth 100000 in
set_option maxHeartbeats 400000 in
theorem szFeatS_any (v : Value) (es : List DFeat) (left : Int) (w : World) (h : Arr eFeat w v es) (_hs : ∀ x ∈ es, goodFeat x) (hl : 0 ≤ left) (hu : left ≤ 1048576) :
    Calls Tryz.prog 88 #[v, .int .i64 left] w (Ret (.int .i64 (szOf (es.length + sumOf szFeat es) left)) w) := by
  rw [sumOf_szFeat, Nat.add_zero]
  obtain ⟨b, off, ao, cap, rfl, hnc, hcm, hao, hc⟩ := h
  unfold maxLen at hcm
  by_cases h0 : left < es.length
  · go_enter Tryz.func88, Tryz.ntmps88
    go_wp2
    go_ret
    exact ret_int (by rw [szOf_neg (by omega)]) (Below.refl _ _)
  · go_enter Tryz.func88, Tryz.ntmps88
    go_wp2
    go_ret
    exact ret_int (by rw [szOf_pos (by omega)]) (Below.refl _ _)

set_option maxRecDepth 100000 in
set_option maxHeartbeats 400000 in
theorem eqFeat_any (x : DFeat) (w : World) :
    Calls Tryz.prog 160 #[.agg #[.int .i64 x.x, .int .i64 x.y, .int .i64 x.d], .agg #[.int .i64 x.x, .int .i64 x.y, .int .i64 x.d]] w (Ret (.bool true) w) := by
  go_enter Tryz.func160, Tryz.ntmps160
  go_wp2
  go_ret
  exact ret_bool rfl (((Below.refl _ _).alloc (Nat.le_refl _) _).alloc (by simp) _)
set_option maxRecDepth 100000 in
set_option maxHeartbeats 400000 in
theorem eqFeatS_any (v1 v2 : Value) (es : List DFeat) (w : World) (h1 : Arr eFeat w v1 es) (h2 : Arr eFeat w v2 es) :
    Calls Tryz.prog 114 #[v1, v2] w (Ret (.bool true) w) := by
  obtain ⟨b, off, ao, cap, rfl, hnc, hcm, hao, hc⟩ := h1
  obtain ⟨b2, off2, ao2, cap2, rfl, hnc2, hcm2, hao2, hc2⟩ := h2
  unfold maxLen at hcm
  go_enter Tryz.func114, Tryz.ntmps114
  go_wp2
  go_loopw [5] (fun i wr => ∃ k : Nat, k ≤ es.length ∧ i = .int .i64 k ∧ Below w.heap.size w wr) (fun i _ => es.length - (intOf i).toNat)
  case atStart => exact ⟨0, Nat.zero_le _, rfl, Below.refl _ _⟩
  case round =>
    obtain ⟨k, hk, rfl, hb⟩ := hrel
    by_cases hlt : k < es.length
    · obtain ⟨hao', hbw⟩ := hao (by omega)
      obtain ⟨hao2', hbw2⟩ := hao2 (by omega)
      subst hao' hao2'
      obtain ⟨x, hx⟩ : ∃ x, es[k]? = some x := ⟨_, List.getElem?_eq_getElem hlt⟩
      obtain ⟨c0, c1, c2⟩ := eFeat_cells (hc.below hb hbw) hx
      obtain ⟨d0, d1, d2⟩ := eFeat_cells (hc2.below hb hbw2) hx
      have c0 := ext_cell c0
      have c1 := ext_cell c1
      have c2 := ext_cell c2
      have d0 := ext_cell d0
      have d1 := ext_cell d1
      have d2 := ext_cell d2
      clear hao hao2
      have hli : (k : Int) < (es.length : Int) := by omega
      go_wp2
      refine wp_region_ext (by kernel_rfl) (by kernel_rfl) ?_
      repeat (go_big_quiet_step (((go_at_call 160; exact ret_ext (eqFeat_any _ _)))))
      refine wpQuiet_nil ?_
      intro _ hw'
      obtain ⟨nq, hw''⟩ := hw'
      subst hw''
      go_wp2
      go_roundw
      case rel => exact ⟨k + 1, by omega, by go_num, hb.trans ((ext_below _ _).mono hb.size)⟩
      case measure => simp [intOf]; omega
    · go_wp2
      go_ret
      exact ret_bool rfl hb

/-- what markTS leaves -/
def mkFeat (k : Int) (n : Nat) : List DFeat := (List.range n).map fun (i : Nat) => ⟨k + 3 * (i : Int), k + 3 * (i : Int) + 1, k + 3 * (i : Int) + 1 + 1⟩
theorem mkFeat_len (k : Int) (n : Nat) : (mkFeat k n).length = n := by simp [mkFeat]
theorem mkFeat_get (k : Int) (n i : Nat) (h : i < n) : (mkFeat k n)[i]? = some ⟨k + 3 * (i : Int), k + 3 * (i : Int) + 1, k + 3 * (i : Int) + 1 + 1⟩ := by simp [mkFeat, h]

set_option maxHeartbeats 1000000 in
theorem markFeatS_any (v : Value) (es : List DFeat) (lo hi : Nat) (k : Int) (w : World) (h : OwnIn eFeat 176 lo hi w v es) (hn : es.length ≤ 1048576) (hk0 : 0 ≤ k) (hk1 : k ≤ 20000000) :
    Calls Tryz.prog 74 #[v, .int .i64 k] w (RetMark (Rep.flat eFeat 176) (mkFeat k es.length) (k + 3 * (es.length : Int)) lo hi v w) := by
  have hsl : ∃ (ao : Option Addr) (cap g : Nat), v = .slice ao es.length cap ∧ (0 < es.length → ao = some ⟨g, 0, none⟩) := by
    rcases h.1.shape with ⟨rfl, rfl⟩ | ⟨g, cap, rfl, _, _⟩
    · exact ⟨none, 0, 0, rfl, by simp⟩
    · exact ⟨_, cap, g, rfl, fun _ => rfl⟩
  obtain ⟨ao, cap, g, rfl, hao⟩ := hsl
  go_enter Tryz.func74, Tryz.ntmps74
  go_wp2
  go_loopw [1, 5] (fun kv iv wr => ∃ (i : Nat) (ys : List DFeat), i ≤ es.length ∧ iv = .int .i64 i ∧ kv = .int .i64 (k + 3 * (i : Int)) ∧ ys.length = es.length ∧ (∀ j, j < i → ys[j]? = (mkFeat k es.length)[j]?) ∧
      OwnIn eFeat 176 lo hi wr (.slice ao es.length cap) ys ∧ Mk (fun T => T == 176) lo hi w wr) (fun _ i _ => es.length - (intOf i).toNat)
  case atStart => exact ⟨0, es, Nat.zero_le _, rfl, by simp, rfl, by simp, h, Mk.refl _ _ _ _⟩
  case round =>
    clear h
    obtain ⟨i, ys, hk, rfl, rfl, hyl, hys, ho, hch⟩ := hrel
    have HY := hid hyl
    have HYS := hid hys
    clear hyl hys
    by_cases hlt : i < es.length
    · have hao' := hao (by omega)
      subst hao'
      clear hao
      obtain ⟨y, hy⟩ : ∃ y, ys[i]? = some y := ⟨_, List.getElem?_eq_getElem (by rw [HY.out]; exact hlt)⟩
      have Y0 := hid hy
      clear hy
      have O0 := ho
      clear ho
      obtain ⟨u0, hu0⟩ := O0.1.slot (by simp [HY.out]) i hlt 0 (by decide)
      obtain ⟨u1, hu1⟩ := O0.1.slot (by simp [HY.out]) i hlt 1 (by decide)
      obtain ⟨u2, hu2⟩ := O0.1.slot (by simp [HY.out]) i hlt 2 (by decide)
      have hv0 : wr.cell? ⟨g, i * 3, none⟩ = some u0 := hu0
      have hv1 : wr.cell? ⟨g, i * 3 + 1, none⟩ = some u1 := hu1
      have hv2 : wr.cell? ⟨g, i * 3 + 2, none⟩ = some u2 := hu2
      have hf := O0.1.free (by simp [HY.out])
      clear hu0 hu1 hu2
      go_wp2
      have S0 := O0.set1 (by simp [HY.out]) Y0.out (j := 0) (x' := (⟨k + 3 * (i : Int), y.y, y.d⟩ : DFeat)) (u := .int .i64 (k + 3 * (i : Int))) (by decide) rfl
      have O1 := S0.1
      have Y1 := hid (set_same (y := (⟨k + 3 * (i : Int), y.y, y.d⟩ : DFeat)) Y0.out)
      have S1 := O1.set1 (by simp [HY.out]) Y1.out (j := 1) (x' := (⟨k + 3 * (i : Int), k + 3 * (i : Int) + 1, y.d⟩ : DFeat)) (u := .int .i64 (k + 3 * (i : Int) + 1)) (by decide) rfl
      have O2 := S1.1
      rw [set_set] at O2
      have Y2 := hid (set_same (y := (⟨k + 3 * (i : Int), k + 3 * (i : Int) + 1, y.d⟩ : DFeat)) Y0.out)
      have S2 := O2.set1 (by simp [HY.out]) Y2.out (j := 2) (x' := (⟨k + 3 * (i : Int), k + 3 * (i : Int) + 1, k + 3 * (i : Int) + 1 + 1⟩ : DFeat)) (u := .int .i64 (k + 3 * (i : Int) + 1 + 1)) (by decide) rfl
      have O3 := S2.1
      rw [set_set] at O3
      have Y3 := hid (set_same (y := (⟨k + 3 * (i : Int), k + 3 * (i : Int) + 1, k + 3 * (i : Int) + 1 + 1⟩ : DFeat)) Y0.out)
      go_roundw
      case rel =>
        have h1 := fill_step (xs := mkFeat k es.length) (by rw [mkFeat_len]; exact HY.out) HYS.out (mkFeat_get k es.length i hlt)
        exact ⟨i + 1, ys.set i ⟨k + 3 * (i : Int), k + 3 * (i : Int) + 1, k + 3 * (i : Int) + 1 + 1⟩, by omega, by go_num, by go_num, by rw [h1.1, mkFeat_len], h1.2, O3, (((hch).trans S0.2).trans S1.2).trans S2.2⟩
      case measure => simp [intOf]; omega
    · obtain rfl : i = es.length := by omega
      have := fill_done (xs := mkFeat k es.length) (by rw [mkFeat_len]; exact HY.out) HYS.out (by rw [mkFeat_len]; exact Nat.le_refl _)
      subst this
      clear HYS
      go_wp2
      go_ret
      exact ⟨rfl, ho, hch⟩

set_option maxRecDepth 100000 in
theorem decFeat (w : World) (cs : List Value) (h : Rd Tryz.prog w 210 cs) : ∃ x : DFeat, cs = eFeat.row x ∧ goodFeat x := by
  obtain ⟨hl, hf⟩ := rd_struct Tryz.underlying210 h
  rw [show Tryz.prog.cellsOf 210 = 3 by kernel_rfl] at hl
  obtain ⟨c0, c1, c2, rfl⟩ : ∃ c0 c1 c2, cs = [c0, c1, c2] := by
    match cs, hl with
    | [c0, c1, c2], _ => exact ⟨c0, c1, c2, rfl⟩
  have h0 : Rd Tryz.prog w 2 (([c0, c1, c2].drop 0).take (Tryz.prog.cellsOf 2)) := hf 0 _ rfl
  have h1 : Rd Tryz.prog w 2 (([c0, c1, c2].drop 1).take (Tryz.prog.cellsOf 2)) := hf 1 _ rfl
  have h2 : Rd Tryz.prog w 2 (([c0, c1, c2].drop 2).take (Tryz.prog.cellsOf 2)) := hf 2 _ rfl
  rw [show Tryz.prog.cellsOf 2 = 1 by kernel_rfl] at h0
  obtain ⟨s0, hs0, hg0⟩ := rd_int Tryz.underlying2 h0
  simp at hs0
  subst hs0
  rw [show Tryz.prog.cellsOf 2 = 1 by kernel_rfl] at h1
  obtain ⟨s1, hs1, hg1⟩ := rd_int Tryz.underlying2 h1
  simp at hs1
  subst hs1
  rw [show Tryz.prog.cellsOf 2 = 1 by kernel_rfl] at h2
  obtain ⟨s2, hs2, hg2⟩ := rd_int Tryz.underlying2 h2
  simp at hs2
  subst hs2
  exact ⟨⟨s0, s1, s2⟩, rfl, hg0, hg1, hg2⟩
end Go.Proofs.YtlnoelbeaolikaaGreat
namespace Go.Proofs.YtlnoelbeaolikaaGreat
open Go.ChangeShapes Go.WideShapes Go.ChangeAt Go.RowKit Go.Deep

abbrev XFeatS := List DFeat
def rFeatS : Rep XFeatS := Rep.flat eFeat 176
def goodFeatS (x : XFeatS) : Prop := ∀ e ∈ x, goodFeat e
def sizeFeatS (x : XFeatS) : Nat := x.length + sumOf szFeat x
def okFeatS (x : XFeatS) : Prop := x.length ≤ 1048576
theorem okFeatS_of {x : XFeatS} (h : sizeFeatS x ≤ 1048576) : okFeatS x := by unfold sizeFeatS at h; unfold okFeatS; omega
def cntFeatS (x : XFeatS) : Int := 3 * (x.length : Int)
theorem cntFeatS_bd {x : XFeatS} (h : okFeatS x) : 0 ≤ cntFeatS x ∧ cntFeatS x ≤ 10000000 := by unfold okFeatS at h; unfold cntFeatS; omega
def mkXFeatS (k : Int) (x : XFeatS) : XFeatS := mkFeat k x.length
theorem shapeFeatS {lo hi : Nat} {w : World} {v : Value} {x : XFeatS} (h : rFeatS.at_ lo hi w v x) : ∃ sa sc, v = .slice sa x.length sc := (ArrIn.arr h).isSlice
theorem rFeatS_arr {lo hi : Nat} {w : World} {v : Value} {x : XFeatS} (h : rFeatS.at_ lo hi w v x) : Arr eFeat w v x := ArrIn.arr h
theorem rFeatS_own {w w' : World} {B : Nat} {u : Value} {x : XFeatS} (h : Own eFeat 176 B w' u x) (hB : w.heap.size ≤ B) : rFeatS.own w.heap.size w'.heap.size w' u x := (h.mono hB).in_

theorem toFeatSR_any (v : Value) (x : XFeatS) (w : World) {lo hi : Nat} (h : rFeatS.at_ lo hi w v x) (hn : okFeatS x) :
    Calls Tryz.prog 99 #[v] w (RetR rFeatS x w) :=
  (toFeatS_any v x w (ArrIn.arr h) hn).mono fun _ _ ⟨u, he, ho, hb⟩ => ⟨u, he, ho.in_, hb⟩
theorem szFeatSR_any (v : Value) (x : XFeatS) (left : Int) (w : World) {lo hi : Nat} (h : rFeatS.at_ lo hi w v x) (hs : goodFeatS x) (hl : 0 ≤ left) (hu : left ≤ 1048576) :
    Calls Tryz.prog 88 #[v, .int .i64 left] w (Ret (.int .i64 (szOf (sizeFeatS x) left)) w) :=
  szFeatS_any v x left w (ArrIn.arr h) hs hl hu
theorem eqFeatSR_any (v1 v2 : Value) (x : XFeatS) (w : World) {lo1 hi1 lo2 hi2 : Nat} (h1 : rFeatS.at_ lo1 hi1 w v1 x) (h2 : rFeatS.at_ lo2 hi2 w v2 x) :
    Calls Tryz.prog 114 #[v1, v2] w (Ret (.bool true) w) :=
  eqFeatS_any v1 v2 x w (ArrIn.arr h1) (ArrIn.arr h2)
theorem markFeatSR_any (v : Value) (x : XFeatS) (lo hi : Nat) (k : Int) (w : World) (h : rFeatS.own lo hi w v x) (hn : okFeatS x) (hk0 : 0 ≤ k) (hk1 : k ≤ 20000000) :
    Calls Tryz.prog 74 #[v, .int .i64 k] w (RetMark rFeatS (mkXFeatS k x) (k + cntFeatS x) lo hi v w) :=
  markFeatS_any v x lo hi k w h hn hk0 hk1
set_option maxRecDepth 100000 in
theorem openFeatS {H : Type} {enc : TypeId × Value → H} {W : World} {base : Nat} {spare : Nat → Bool} {held : Bool} {v : Value} {d : DataW H} {ps : List MemPlace} {b0 : Nat} {r : Reach}
    (hv : Value.okWide Tryz.prog W r b0 95 v) (h : DataW.Trod enc Tryz.prog W base spare held 95 v d ps) : ∃ x, rFeatS.at_ 0 W.heap.size W v x ∧ goodFeatS x := by
  have hr := rd_of_trod h
  obtain ⟨a, len, cap, rfl⟩ := okWide_slice Tryz.underlying95 hv
  obtain ⟨xs, hx⟩ := rd_slice (R := fun _ cs x => cs = eFeat.row x ∧ goodFeat x) (sz := 3) Tryz.underlying95 (by kernel_rfl) (by omega) (decFeat W) (v := .slice a len cap) (by simpa [Value.cells] using hr)
  exact ⟨xs, (hx.arr.1).in_, hx.arr.2⟩
end Go.Proofs.YtlnoelbeaolikaaGreat
