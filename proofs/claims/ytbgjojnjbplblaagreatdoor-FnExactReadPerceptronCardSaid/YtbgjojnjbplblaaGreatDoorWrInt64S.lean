/- Slices of int64: how their values lie in memory, and what the laws' functions over them do. -/
import Derived.Test.YtbgjojnjbplblaaGreatDoorRows
import Derived.Test.YtbgjojnjbplblaaGreatDoorMark
import Derived.Test.YtbgjojnjbplblaaGreatDoorRep
import Derived.Test.YtbgjojnjbplblaaGreatDoorReg
import Derived.Test.YtbgjojnjbplblaaGreatDoorOpen
namespace Go.Proofs.YtbgjojnjbplblaaGreatDoor
open Go.ChangeShapes Go.WideShapes Go.ChangeAt Go.RowKit Go.Deep

def eI : Enc Int := ⟨fun x => [.int .i64 x], 1, fun _ => rfl, by decide, fun x u hu => by simp at hu; subst hu; rfl⟩
abbrev XInt64S := List Int
def rInt64S : Rep XInt64S := Rep.flat eI 2
def okInt64S (x : XInt64S) : Prop := x.length ≤ 1048576
def cntInt64S (x : XInt64S) : Int := (x.length : Int)
theorem cntInt64S_bd {x : XInt64S} (h : okInt64S x) : 0 ≤ cntInt64S x ∧ cntInt64S x ≤ 10000000 := by unfold okInt64S at h; unfold cntInt64S; omega
def mkInt (k : Int) (n : Nat) : List Int := (List.range n).map fun (i : Nat) => k + (i : Int)
theorem mkInt_len (k : Int) (n : Nat) : (mkInt k n).length = n := by simp [mkInt]
theorem mkInt_get (k : Int) (n i : Nat) (h : i < n) : (mkInt k n)[i]? = some (k + (i : Int)) := by simp [mkInt, h]
def mkXInt64S (k : Int) (x : XInt64S) : XInt64S := mkInt k x.length
theorem shapeInt64S {lo hi : Nat} {w : World} {v : Value} {x : XInt64S} (h : rInt64S.at_ lo hi w v x) : ∃ sa sc, v = .slice sa x.length sc := (ArrIn.arr h).isSlice
theorem rInt64S_arr {lo hi : Nat} {w : World} {v : Value} {x : XInt64S} (h : rInt64S.at_ lo hi w v x) : Arr eI w v x := ArrIn.arr h
theorem rInt64S_own {w w' : World} {B : Nat} {u : Value} {x : XInt64S} (h : Own eI 2 B w' u x) (hB : w.heap.size ≤ B) : rInt64S.own w.heap.size w'.heap.size w' u x := (h.mono hB).in_
theorem eI_cell {w : World} {b off : Nat} {es : List Int} (h : Cells eI w b off es) {k : Nat} {x : Int} (hx : es[k]? = some x) : w.cell? ⟨b, off + k, none⟩ = some (.int .i64 x) := by
  have := h k x hx 0 _ rfl
  have e : off + k * eI.sz + 0 = off + k := by show off + k * 1 + 0 = off + k; omega
  rw [e] at this
  exact this
theorem infoI : (Tryz.prog.info? 2).map (fun i => (i.zero, i.size, i.bytes)) = some (some (.int .i64 0), 1, 8) := by kernel_rfl
theorem ownN_slot {α : Type} {E : Enc α} {e : TypeId} {B g cap n : Nat} {w : World} {xs : List α} (h : Own E e B w (.slice (some ⟨g, 0, none⟩) n cap) xs) (hn : n = xs.length) (h1 : E.sz = 1) {k : Nat} (hk : k < n) : ∃ u, w.cell? ⟨g, k, none⟩ = some u := by
  obtain ⟨u, hu⟩ := h.slot hn k hk 0 (by omega)
  rw [h1] at hu
  exact ⟨u, by simpa using hu⟩

set_option maxHeartbeats 400000 in
theorem eqInt64SR_any (v1 v2 : Value) (es : XInt64S) (w : World) {lo1 hi1 lo2 hi2 : Nat} (h1 : rInt64S.at_ lo1 hi1 w v1 es) (h2 : rInt64S.at_ lo2 hi2 w v2 es) :
    Calls Tryz.prog 59 #[v1, v2] w (Ret (.bool true) w) := by
  obtain ⟨b, off, ao, cap, rfl, hnc, hcm, hao, hc⟩ := rInt64S_arr h1
  obtain ⟨b2, off2, ao2, cap2, rfl, hnc2, hcm2, hao2, hc2⟩ := rInt64S_arr h2
  unfold maxLen at hcm
  clear h1 h2
  go_enter Tryz.func59, Tryz.ntmps59
  go_wp2
  go_loopw [5] (fun i wr => ∃ k : Nat, k ≤ es.length ∧ i = .int .i64 k ∧ Below w.heap.size w wr) (fun i _ => es.length - (intOf i).toNat)
  case atStart => exact ⟨0, Nat.zero_le _, rfl, Below.refl _ _⟩
  case round =>
    obtain ⟨k, hk, rfl, hb⟩ := hrel
    by_cases hlt : k < es.length
    · obtain ⟨hao', hbw⟩ := hao (by omega)
      obtain ⟨hao2', hbw2⟩ := hao2 (by omega)
      subst hao' hao2'
      obtain ⟨x, hx⟩ : ∃ x, es[k]? = some x := ⟨_, List.getElem?_eq_getElem hlt⟩
      have c0 := eI_cell (hc.below hb hbw) hx
      have d0 := eI_cell (hc2.below hb hbw2) hx
      clear hao hao2
      have hli : (k : Int) < (es.length : Int) := by omega
      go_wp2
      go_region
      go_wp2
      go_roundw
      case rel => exact ⟨k + 1, by omega, by go_num, hb.drew⟩
      case measure => simp [intOf]; omega
    · go_wp2
      go_ret
      exact ret_bool rfl hb
set_option maxHeartbeats 1000000 in
theorem markInt64SR_any (v : Value) (es : XInt64S) (lo hi : Nat) (k : Int) (w : World) (h : rInt64S.own lo hi w v es) (hn : okInt64S es) (hk0 : 0 ≤ k) (hk1 : k ≤ 20000000) :
    Calls Tryz.prog 60 #[v, .int .i64 k] w (RetMark rInt64S (mkXInt64S k es) (k + cntInt64S es) lo hi v w) := by
  replace h : OwnIn eI 2 lo hi w v es := h
  unfold okInt64S at hn
  have hsl : ∃ (ao : Option Addr) (cap g : Nat), v = .slice ao es.length cap ∧ (0 < es.length → ao = some ⟨g, 0, none⟩) := by
    rcases h.1.shape with ⟨rfl, rfl⟩ | ⟨g, cap, rfl, _, _⟩
    · exact ⟨none, 0, 0, rfl, by simp⟩
    · exact ⟨_, cap, g, rfl, fun _ => rfl⟩
  obtain ⟨ao, cap, g, rfl, hao⟩ := hsl
  go_enter Tryz.func60, Tryz.ntmps60
  go_wp2
  go_loopw [1, 5] (fun kv iv wr => ∃ (i : Nat) (ys : List Int), i ≤ es.length ∧ iv = .int .i64 i ∧ kv = .int .i64 (k + (i : Int)) ∧ ys.length = es.length ∧ (∀ j, j < i → ys[j]? = (mkInt k es.length)[j]?) ∧
      OwnIn eI 2 lo hi wr (.slice ao es.length cap) ys ∧ Mk (fun T => T == 2) lo hi w wr) (fun _ i _ => es.length - (intOf i).toNat)
  case atStart => exact ⟨0, es, Nat.zero_le _, rfl, by simp, rfl, by simp, h, Mk.refl _ _ _ _⟩
  case round =>
    clear h
    obtain ⟨i, ys, hk, rfl, rfl, hyl, hys, ho, hch⟩ := hrel
    have HY := hid hyl
    have HYS := hid hys
    clear hyl hys
    by_cases hlt : i < es.length
    · have hao' := hao (by omega)
      subst hao'
      clear hao
      obtain ⟨y, hy⟩ : ∃ y, ys[i]? = some y := ⟨_, List.getElem?_eq_getElem (by rw [HY.out]; exact hlt)⟩
      have Y0 := hid hy
      clear hy
      have O0 := ho
      clear ho
      obtain ⟨u0, hv0⟩ := ownN_slot O0.1 (by simp [HY.out]) rfl hlt
      have hf := O0.1.free (by simp [HY.out])
      go_wp2
      have S0 := O0.set1 (by simp [HY.out]) Y0.out (j := 0) (x' := k + (i : Int)) (u := .int .i64 (k + (i : Int))) (by decide) rfl
      rw [show i * eI.sz + 0 = i by show i * 1 + 0 = i; omega] at S0
      go_roundw
      case rel =>
        have h1 := fill_step (xs := mkInt k es.length) (by rw [mkInt_len]; exact HY.out) HYS.out (mkInt_get k es.length i hlt)
        exact ⟨i + 1, ys.set i (k + (i : Int)), by omega, by go_num, by go_num, by rw [h1.1, mkInt_len], h1.2, S0.1, hch.trans S0.2⟩
      case measure => simp [intOf]; omega
    · obtain rfl : i = es.length := by omega
      have := fill_done (xs := mkInt k es.length) (by rw [mkInt_len]; exact HY.out) HYS.out (by rw [mkInt_len]; exact Nat.le_refl _)
      subst this
      clear HYS
      go_wp2
      go_ret
      exact ⟨rfl, ho, hch⟩
set_option maxHeartbeats 400000 in
theorem heldInt64SR_any (v : Value) (x : XInt64S) (k : Int) (w : World) {lo hi : Nat} (h : rInt64S.at_ lo hi w v (mkXInt64S k x)) (hn : okInt64S x) (hk0 : 0 ≤ k) (hk1 : k ≤ 20000000) :
    Calls Tryz.prog 61 #[v, .int .i64 k] w (Ret (.int .i64 (k + cntInt64S x)) w) := by
  replace h : Arr eI w v (mkInt k x.length) := rInt64S_arr h
  unfold cntInt64S
  unfold okInt64S at hn
  obtain ⟨n, hnn⟩ : ∃ n, n = x.length := ⟨_, rfl⟩
  rw [← hnn] at h hn ⊢
  clear hnn
  obtain ⟨b, off, ao, cap, rfl, hnc, hcm, hao, hc⟩ := h
  simp only [mkInt_len] at *
  unfold maxLen at hcm
  go_enter Tryz.func61, Tryz.ntmps61
  go_wp2
  go_loopw [1, 5] (fun kv iv wr => ∃ (i : Nat), i ≤ n ∧ iv = .int .i64 i ∧ kv = .int .i64 (k + (i : Int)) ∧ Below w.heap.size w wr) (fun _ i _ => n - (intOf i).toNat)
  case atStart => exact ⟨0, Nat.zero_le _, rfl, by simp, Below.refl _ _⟩
  case round =>
    obtain ⟨i, hk, rfl, rfl, hb⟩ := hrel
    by_cases hlt : i < n
    · obtain ⟨hao', hbw⟩ := hao (by omega)
      subst hao'
      clear hao
      have c0 := eI_cell (hc.below hb hbw) (mkInt_get k n i hlt)
      have hli : (i : Int) < (n : Int) := by omega
      go_wp2
      go_roundw
      case rel => exact ⟨i + 1, by omega, by go_num, by go_num, hb⟩
      case measure => simp [intOf]; omega
    · obtain rfl : i = n := by omega
      go_wp2
      go_ret
      exact ret_int rfl hb
end Go.Proofs.YtbgjojnjbplblaaGreatDoor
