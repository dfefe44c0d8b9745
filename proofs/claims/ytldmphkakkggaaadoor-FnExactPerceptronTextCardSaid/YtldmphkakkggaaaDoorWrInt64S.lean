/- Slices of int64: how their values lie in memory, and what the laws' functions over them do. -/
import Derived.Test.YtldmphkakkggaaaDoorRows
import Derived.Test.YtldmphkakkggaaaDoorMark
import Derived.Test.YtldmphkakkggaaaDoorRep
import Derived.Test.YtldmphkakkggaaaDoorReg
import Derived.Test.YtldmphkakkggaaaDoorOpen
namespace Go.Proofs.YtldmphkakkggaaaDoor
open Go.ChangeShapes Go.WideShapes Go.ChangeAt Go.RowKit Go.Deep

def eI : Enc Int := ⟨fun x => [.int .i64 x], 1, fun _ => rfl, by decide, fun x u hu => by simp at hu; subst hu; rfl⟩
abbrev XInt64S := List Int
def rInt64S : Rep XInt64S := Rep.flat eI 2
def okInt64S (x : XInt64S) : Prop := x.length ≤ 1048576
def cntInt64S (x : XInt64S) : Int := (x.length : Int)
theorem cntInt64S_bd {x : XInt64S} (h : okInt64S x) : 0 ≤ cntInt64S x ∧ cntInt64S x ≤ 10000000 := by unfold okInt64S at h; unfold cntInt64S; omega
def mkInt (k : Int) (n : Nat) : List Int := (List.range n).map fun (i : Nat) => k + (i : Int)
theorem mkInt_len (k : Int) (n : Nat) : (mkInt k n).length = n := by simp [mkInt]
theorem mkInt_get (k : Int) (n i : Nat) (h : i < n) : (mkInt k n)[i]? = some (k + (i : Int)) := by simp [mkInt, h]
def mkXInt64S (k : Int) (x : XInt64S) : XInt64S := mkInt k x.length
theorem shapeInt64S {lo hi : Nat} {w : World} {v : Value} {x : XInt64S} (h : rInt64S.at_ lo hi w v x) : ∃ sa sc, v = .slice sa x.length sc := (ArrIn.arr h).isSlice
theorem rInt64S_arr {lo hi : Nat} {w : World} {v : Value} {x : XInt64S} (h : rInt64S.at_ lo hi w v x) : Arr eI w v x := ArrIn.arr h
theorem rInt64S_own {w w' : World} {B : Nat} {u : Value} {x : XInt64S} (h : Own eI 2 B w' u x) (hB : w.heap.size ≤ B) : rInt64S.own w.heap.size w'.heap.size w' u x := (h.mono hB).in_
theorem eI_cell {w : World} {b off : Nat} {es : List Int} (h : Cells eI w b off es) {k : Nat} {x : Int} (hx : es[k]? = some x) : w.cell? ⟨b, off + k, none⟩ = some (.int .i64 x) := by
  have := h k x hx 0 _ rfl
  have e : off + k * eI.sz + 0 = off + k := by show off + k * 1 + 0 = off + k; omega
  rw [e] at this
  exact this
theorem infoI : (Tryd.prog.info? 2).map (fun i => (i.zero, i.size, i.bytes)) = some (some (.int .i64 0), 1, 8) := by kernel_rfl
theorem ownN_slot {α : Type} {E : Enc α} {e : TypeId} {B g cap n : Nat} {w : World} {xs : List α} (h : Own E e B w (.slice (some ⟨g, 0, none⟩) n cap) xs) (hn : n = xs.length) (h1 : E.sz = 1) {k : Nat} (hk : k < n) : ∃ u, w.cell? ⟨g, k, none⟩ = some u := by
  obtain ⟨u, hu⟩ := h.slot hn k hk 0 (by omega)
  rw [h1] at hu
  exact ⟨u, by simpa using hu⟩

set_option maxHeartbeats 1000000 in
theorem toInt64S_any (v : Value) (es : XInt64S) (w : World) (h : Arr eI w v es) (hn : es.length ≤ 1048576) :
    Calls Tryd.prog 89 #[v] w (RetOwn eI 2 es w) := by
  obtain ⟨b, off, ao, cap, rfl, hnc, hcm, hao, hc⟩ := h
  obtain ⟨i0, hi, hz0, hz1, hz2⟩ := info_parts infoI
  go_enter Tryd.func89, Tryd.ntmps89
  go_wp2_with (at_make; refine wpList_make_full _ rfl _ _ 111 rfl w.heap.size 2 i0 _ 1 Tryd.underlying111 hi hz0 hz1 _ _ _ _ es.length rfl rfl rfl rfl (by rw [hz2]; omega) (by unfold maxLen; omega) (Nat.le_refl _) ?_; intro w1 hown hgr)
  have hown := Own.made (E := eI) (z := (0 : Int)) hown rfl
  obtain ⟨g, hg⟩ : ∃ g, g = w.heap.size := ⟨_, rfl⟩
  rw [← hg] at hown ⊢
  have hw1 : Below w.heap.size w w1 := (Below.refl _ _).grown hgr (Nat.le_refl _) (by simp)
  have hg1 : g < w1.heap.size := hown.lt.2
  have Hg := hid hg
  clear hg
  go_loopw [4] (fun i wr => ∃ (k : Nat) (ys : List Int), k ≤ es.length ∧ i = .int .i64 k ∧ ys.length = es.length ∧ (∀ j, j < k → ys[j]? = es[j]?) ∧
      Own eI 2 g wr (.slice (some ⟨g, 0, none⟩) es.length es.length) ys ∧ Below w.heap.size w wr ∧ g < wr.heap.size) (fun i _ => es.length - (intOf i).toNat)
  case atStart => exact ⟨0, _, Nat.zero_le _, rfl, by simp, by simp, hown, hw1, hg1⟩
  case round =>
    clear hown hgr hw1 hg1 hi hz0 hz1 hz2 hnc hcm
    obtain ⟨k, ys, hk, rfl, hyl, hys, hown, hb, hgw⟩ := hrel
    have HY := hid hyl
    clear hyl
    by_cases hlt : k < es.length
    · obtain ⟨hao', hbw⟩ := hao (by omega)
      subst hao'
      obtain ⟨x, hx⟩ : ∃ x, es[k]? = some x := ⟨_, List.getElem?_eq_getElem hlt⟩
      have c0 := eI_cell (hc.below hb hbw) hx
      clear hao
      have HYS := hid hys
      have HX := hid hx
      have HO := hid hown
      obtain ⟨u0, hv0⟩ := ownN_slot hown HY.out.symm rfl hlt
      have hf := hown.free HY.out.symm
      clear hys hx hown
      go_wp2
      go_roundw
      case rel =>
        have h1 := fill_step HY.out HYS.out HX.out
        have h2 := HO.out.set1 HY.out.symm (k := k) (j := 0) (x' := x) (u := .int .i64 x) (List.getElem?_eq_getElem (by rw [HY.out]; exact hlt)) (by decide) rfl
        rw [show k * eI.sz + 0 = k by show k * 1 + 0 = k; omega] at h2
        exact ⟨k + 1, ys.set k x, by omega, by go_num, h1.1, h1.2, h2.1, hb.grown h2.2 hb.size (by have := Hg.out; simp; omega), Nat.lt_of_lt_of_le hgw h2.2.size⟩
      case measure => simp [intOf]; omega
    · go_wp2
      go_ret
      have := fill_done HY.out hys (by omega)
      subst this
      exact ⟨_, rfl, by rw [← Hg.out, ← HY.out]; exact hown, hb⟩
theorem toInt64SR_any (v : Value) (x : XInt64S) (w : World) {lo hi : Nat} (h : rInt64S.at_ lo hi w v x) (hn : okInt64S x) :
    Calls Tryd.prog 89 #[v] w (RetR rInt64S x w) :=
  (toInt64S_any v x w (rInt64S_arr h) hn).mono fun _ _ ⟨u, he, ho, hb⟩ => ⟨u, he, ho.in_, hb⟩
set_option maxHeartbeats 400000 in
theorem szInt64SR_any (v : Value) (es : XInt64S) (left : Int) (w : World) {lo hi : Nat} (h : rInt64S.at_ lo hi w v es) (_ : True) (hl : 0 ≤ left) (hu : left ≤ 1048576) :
    Calls Tryd.prog 87 #[v, .int .i64 left] w (Ret (.int .i64 (szOf es.length left)) w) := by
  obtain ⟨b, off, ao, cap, rfl, hnc, hcm, hao, hc⟩ := rInt64S_arr h
  unfold maxLen at hcm
  clear h
  by_cases h0 : left < es.length
  · go_enter Tryd.func87, Tryd.ntmps87
    go_wp2
    go_ret
    exact ret_int (by rw [szOf_neg (by omega)]) (Below.refl _ _)
  · have hd : decide (left - (es.length : Int) < 0) = false := by simp; omega
    go_enter Tryd.func87, Tryd.ntmps87
    go_wp2
    go_ret
    exact ret_int (by rw [szOf_pos (by omega)]) (Below.refl _ _)
set_option maxHeartbeats 400000 in
theorem eqInt64SR_any (v1 v2 : Value) (es : XInt64S) (w : World) {lo1 hi1 lo2 hi2 : Nat} (h1 : rInt64S.at_ lo1 hi1 w v1 es) (h2 : rInt64S.at_ lo2 hi2 w v2 es) :
    Calls Tryd.prog 94 #[v1, v2] w (Ret (.bool true) w) := by
  obtain ⟨b, off, ao, cap, rfl, hnc, hcm, hao, hc⟩ := rInt64S_arr h1
  obtain ⟨b2, off2, ao2, cap2, rfl, hnc2, hcm2, hao2, hc2⟩ := rInt64S_arr h2
  unfold maxLen at hcm
  clear h1 h2
  go_enter Tryd.func94, Tryd.ntmps94
  go_wp2
  go_loopw [5] (fun i wr => ∃ k : Nat, k ≤ es.length ∧ i = .int .i64 k ∧ Below w.heap.size w wr) (fun i _ => es.length - (intOf i).toNat)
  case atStart => exact ⟨0, Nat.zero_le _, rfl, Below.refl _ _⟩
  case round =>
    obtain ⟨k, hk, rfl, hb⟩ := hrel
    by_cases hlt : k < es.length
    · obtain ⟨hao', hbw⟩ := hao (by omega)
      obtain ⟨hao2', hbw2⟩ := hao2 (by omega)
      subst hao' hao2'
      obtain ⟨x, hx⟩ : ∃ x, es[k]? = some x := ⟨_, List.getElem?_eq_getElem hlt⟩
      have c0 := eI_cell (hc.below hb hbw) hx
      have d0 := eI_cell (hc2.below hb hbw2) hx
      clear hao hao2
      have hli : (k : Int) < (es.length : Int) := by omega
      go_wp2
      go_region
      go_wp2
      go_roundw
      case rel => exact ⟨k + 1, by omega, by go_num, hb.drew⟩
      case measure => simp [intOf]; omega
    · go_wp2
      go_ret
      exact ret_bool rfl hb
end Go.Proofs.YtldmphkakkggaaaDoor
