/- The type Hyp: how its values lie in cells, and what the laws' functions over it do: every function here is shown for every argument that can be read. -/
import Derived.Test.YtlnoelbeaolikaaGreatRows
import Derived.Test.YtlnoelbeaolikaaGreatMark
import Derived.Test.YtlnoelbeaolikaaGreatRep
import Derived.Test.YtlnoelbeaolikaaGreatReg
import Derived.Test.YtlnoelbeaolikaaGreatOpen
namespace Go.Proofs.YtlnoelbeaolikaaGreat
open Go.RowKit

structure DHyp where
  label : ByteArray
  cost : Int
def eHyp : Enc DHyp := ⟨fun x => [.string x.label, .int .i64 x.cost], 2, fun _ => rfl, by decide, fun x u hu => by simp at hu; rcases hu with rfl | rfl <;> rfl⟩

theorem eHyp_cells {w : World} {b off : Nat} {es : List DHyp} (h : Cells eHyp w b off es) {k : Nat} {x : DHyp} (hx : es[k]? = some x) :
    w.cell? ⟨b, off + k * 2, none⟩ = some (.string x.label) ∧ w.cell? ⟨b, off + k * 2 + 1, none⟩ = some (.int .i64 x.cost) :=
  ⟨h k x hx 0 _ rfl, h k x hx 1 _ rfl⟩


def szHyp (x : DHyp) : Nat := x.label.size
def goodHyp (x : DHyp) : Prop := x.label.size ≤ maxLen ∧ (Lit.int .i64 x.cost).wf = true


set_option maxRecDepth 100000 in
set_option maxHeartbeats 400000 in
theorem eqHyp_any (x : DHyp) (w : World) :
    Calls Tryz.prog 36 #[.agg #[.string x.label, .int .i64 x.cost], .agg #[.string x.label, .int .i64 x.cost]] w (Ret (.bool true) w) := by
  go_enter Tryz.func36, Tryz.ntmps36
  go_wp2
  go_ret
  exact ret_bool rfl (((Below.refl _ _).alloc (Nat.le_refl _) _).alloc (by simp) _)
set_option maxRecDepth 100000 in
set_option maxHeartbeats 400000 in
theorem eqHypS_any (v1 v2 : Value) (es : List DHyp) (w : World) (h1 : Arr eHyp w v1 es) (h2 : Arr eHyp w v2 es) :
    Calls Tryz.prog 12 #[v1, v2] w (Ret (.bool true) w) := by
  obtain ⟨b, off, ao, cap, rfl, hnc, hcm, hao, hc⟩ := h1
  obtain ⟨b2, off2, ao2, cap2, rfl, hnc2, hcm2, hao2, hc2⟩ := h2
  unfold maxLen at hcm
  go_enter Tryz.func12, Tryz.ntmps12
  go_wp2
  go_loopw [5] (fun i wr => ∃ k : Nat, k ≤ es.length ∧ i = .int .i64 k ∧ Below w.heap.size w wr) (fun i _ => es.length - (intOf i).toNat)
  case atStart => exact ⟨0, Nat.zero_le _, rfl, Below.refl _ _⟩
  case round =>
    obtain ⟨k, hk, rfl, hb⟩ := hrel
    by_cases hlt : k < es.length
    · obtain ⟨hao', hbw⟩ := hao (by omega)
      obtain ⟨hao2', hbw2⟩ := hao2 (by omega)
      subst hao' hao2'
      obtain ⟨x, hx⟩ : ∃ x, es[k]? = some x := ⟨_, List.getElem?_eq_getElem hlt⟩
      obtain ⟨c0, c1⟩ := eHyp_cells (hc.below hb hbw) hx
      obtain ⟨d0, d1⟩ := eHyp_cells (hc2.below hb hbw2) hx
      have c0 := ext_cell c0
      have c1 := ext_cell c1
      have d0 := ext_cell d0
      have d1 := ext_cell d1
      clear hao hao2
      have hli : (k : Int) < (es.length : Int) := by omega
      go_wp2
      refine wp_region_ext (by kernel_rfl) (by kernel_rfl) ?_
      repeat (go_big_quiet_step (((go_at_call 36; exact ret_ext (eqHyp_any _ _)))))
      refine wpQuiet_nil ?_
      intro _ hw'
      obtain ⟨nq, hw''⟩ := hw'
      subst hw''
      go_wp2
      go_roundw
      case rel => exact ⟨k + 1, by omega, by go_num, hb.trans ((ext_below _ _).mono hb.size)⟩
      case measure => simp [intOf]; omega
    · go_wp2
      go_ret
      exact ret_bool rfl hb

/-- what markTS leaves -/
def mkHyp (k : Int) (n : Nat) : List DHyp := (List.range n).map fun (i : Nat) => ⟨mt (k + 2 * (i : Int)), k + 2 * (i : Int) + 1⟩
theorem mkHyp_len (k : Int) (n : Nat) : (mkHyp k n).length = n := by simp [mkHyp]
theorem mkHyp_get (k : Int) (n i : Nat) (h : i < n) : (mkHyp k n)[i]? = some ⟨mt (k + 2 * (i : Int)), k + 2 * (i : Int) + 1⟩ := by simp [mkHyp, h]

set_option maxHeartbeats 1000000 in
theorem markHypS_any (v : Value) (es : List DHyp) (lo hi : Nat) (k : Int) (w : World) (h : OwnIn eHyp 76 lo hi w v es) (hn : es.length ≤ 1048576) (hk0 : 0 ≤ k) (hk1 : k ≤ 20000000) :
    Calls Tryz.prog 17 #[v, .int .i64 k] w (RetMark (Rep.flat eHyp 76) (mkHyp k es.length) (k + 2 * (es.length : Int)) lo hi v w) := by
  have hsl : ∃ (ao : Option Addr) (cap g : Nat), v = .slice ao es.length cap ∧ (0 < es.length → ao = some ⟨g, 0, none⟩) := by
    rcases h.1.shape with ⟨rfl, rfl⟩ | ⟨g, cap, rfl, _, _⟩
    · exact ⟨none, 0, 0, rfl, by simp⟩
    · exact ⟨_, cap, g, rfl, fun _ => rfl⟩
  obtain ⟨ao, cap, g, rfl, hao⟩ := hsl
  go_enter Tryz.func17, Tryz.ntmps17
  go_wp2
  go_loopw [1, 5] (fun kv iv wr => ∃ (i : Nat) (ys : List DHyp), i ≤ es.length ∧ iv = .int .i64 i ∧ kv = .int .i64 (k + 2 * (i : Int)) ∧ ys.length = es.length ∧ (∀ j, j < i → ys[j]? = (mkHyp k es.length)[j]?) ∧
      OwnIn eHyp 76 lo hi wr (.slice ao es.length cap) ys ∧ Mk (fun T => T == 76) lo hi w wr) (fun _ i _ => es.length - (intOf i).toNat)
  case atStart => exact ⟨0, es, Nat.zero_le _, rfl, by simp, rfl, by simp, h, Mk.refl _ _ _ _⟩
  case round =>
    clear h
    obtain ⟨i, ys, hk, rfl, rfl, hyl, hys, ho, hch⟩ := hrel
    have HY := hid hyl
    have HYS := hid hys
    clear hyl hys
    by_cases hlt : i < es.length
    · have hao' := hao (by omega)
      subst hao'
      clear hao
      obtain ⟨y, hy⟩ : ∃ y, ys[i]? = some y := ⟨_, List.getElem?_eq_getElem (by rw [HY.out]; exact hlt)⟩
      have Y0 := hid hy
      clear hy
      have O0 := ho
      clear ho
      obtain ⟨u0, hu0⟩ := O0.1.slot (by simp [HY.out]) i hlt 0 (by decide)
      obtain ⟨u1, hu1⟩ := O0.1.slot (by simp [HY.out]) i hlt 1 (by decide)
      have hv0 : wr.cell? ⟨g, i * 2, none⟩ = some u0 := hu0
      have hv1 : wr.cell? ⟨g, i * 2 + 1, none⟩ = some u1 := hu1
      have hf := O0.1.free (by simp [HY.out])
      clear hu0 hu1
      go_wp2_with fail
      refine (markText_any _ _ (by omega)).mono ?_
      rintro e w2 ⟨rfl, hb2⟩
      clear hf hv0 hv1
      have P0 := O0
      have O0b := (Rep.flat eHyp 76).own_below O0 hb2
      obtain ⟨u0, hu0⟩ := O0b.1.slot (by simp [HY.out]) i hlt 0 (by decide)
      obtain ⟨u1, hu1⟩ := O0b.1.slot (by simp [HY.out]) i hlt 1 (by decide)
      have hv0 : w2.cell? ⟨g, i * 2, none⟩ = some u0 := hu0
      have hv1 : w2.cell? ⟨g, i * 2 + 1, none⟩ = some u1 := hu1
      have hf := O0b.1.free (by simp [HY.out])
      clear hu0 hu1
      have S0 := O0b.set1 (by simp [HY.out]) Y0.out (j := 0) (x' := (⟨mt (k + 2 * (i : Int)), y.cost⟩ : DHyp)) (u := .string (mt (k + 2 * (i : Int)))) (by decide) rfl
      have O1 := S0.1
      have Y1 := hid (set_same (y := (⟨mt (k + 2 * (i : Int)), y.cost⟩ : DHyp)) Y0.out)
      have S1 := O1.set1 (by simp [HY.out]) Y1.out (j := 1) (x' := (⟨mt (k + 2 * (i : Int)), k + 2 * (i : Int) + 1⟩ : DHyp)) (u := .int .i64 (k + 2 * (i : Int) + 1)) (by decide) rfl
      have O2 := S1.1
      rw [set_set] at O2
      have Y2 := hid (set_same (y := (⟨mt (k + 2 * (i : Int)), k + 2 * (i : Int) + 1⟩ : DHyp)) Y0.out)
      go_wp2
      go_roundw
      case rel =>
        have h1 := fill_step (xs := mkHyp k es.length) (by rw [mkHyp_len]; exact HY.out) HYS.out (mkHyp_get k es.length i hlt)
        exact ⟨i + 1, ys.set i ⟨mt (k + 2 * (i : Int)), k + 2 * (i : Int) + 1⟩, by omega, by go_num, by go_num, by rw [h1.1, mkHyp_len], h1.2, O2, (((hch).trans (Mk.of_below hb2)).trans S0.2).trans S1.2⟩
      case measure => simp [intOf]; omega
    · obtain rfl : i = es.length := by omega
      have := fill_done (xs := mkHyp k es.length) (by rw [mkHyp_len]; exact HY.out) HYS.out (by rw [mkHyp_len]; exact Nat.le_refl _)
      subst this
      clear HYS
      go_wp2
      go_ret
      exact ⟨rfl, ho, hch⟩
set_option maxHeartbeats 1000000 in
theorem heldHypS_any (v : Value) (n : Nat) (k : Int) (w : World) (h : Arr eHyp w v (mkHyp k n)) (hn : n ≤ 1048576) (hk0 : 0 ≤ k) (hk1 : k ≤ 20000000) :
    Calls Tryz.prog 18 #[v, .int .i64 k] w (Ret (.int .i64 (k + 2 * (n : Int))) w) := by
  obtain ⟨b, off, ao, cap, rfl, hnc, hcm, hao, hc⟩ := h
  simp only [mkHyp_len] at *
  unfold maxLen at hcm
  go_enter Tryz.func18, Tryz.ntmps18
  go_wp2
  go_loopw [1, 5] (fun kv iv wr => ∃ (i : Nat), i ≤ n ∧ iv = .int .i64 i ∧ kv = .int .i64 (k + 2 * (i : Int)) ∧ Below w.heap.size w wr) (fun _ i _ => n - (intOf i).toNat)
  case atStart => exact ⟨0, Nat.zero_le _, rfl, by simp, Below.refl _ _⟩
  case round =>
    obtain ⟨i, hk, rfl, rfl, hb⟩ := hrel
    by_cases hlt : i < n
    · obtain ⟨hao', hbw⟩ := hao (by omega)
      subst hao'
      clear hao
      obtain ⟨c0, c1⟩ := eHyp_cells (hc.below hb hbw) (mkHyp_get k n i hlt)
      have hli : (i : Int) < (n : Int) := by omega
      have x0 := ext_cell c0
      have x1 := ext_cell c1
      go_wp2
      refine wp_region_ext (by kernel_rfl) (by kernel_rfl) ?_
      repeat (go_big_quiet_step (((go_at_call 41; exact ret_ext (markText_any _ _ (by omega))))))
      refine wpQuiet_nil ?_
      intro _ hw'
      obtain ⟨nq0, hw''⟩ := hw'
      subst hw''
      replace c0 := x0 nq0
      replace c1 := x1 nq0
      clear x0 x1
      go_wp2
      go_roundw
      case rel => exact ⟨i + 1, by omega, by go_num, by go_num, (hb).trans ((ext_below _ nq0).mono (hb).size)⟩
      case measure => simp [intOf]; omega
    · obtain rfl : i = n := by omega
      go_wp2
      go_ret
      exact ret_int rfl hb

end Go.Proofs.YtlnoelbeaolikaaGreat
namespace Go.Proofs.YtlnoelbeaolikaaGreat
open Go.ChangeShapes Go.WideShapes Go.ChangeAt Go.RowKit Go.Deep

abbrev XHypS := List DHyp
def rHypS : Rep XHypS := Rep.flat eHyp 76
def goodHypS (x : XHypS) : Prop := ∀ e ∈ x, goodHyp e
def sizeHypS (x : XHypS) : Nat := x.length + sumOf szHyp x
def okHypS (x : XHypS) : Prop := x.length ≤ 1048576
theorem okHypS_of {x : XHypS} (h : sizeHypS x ≤ 1048576) : okHypS x := by unfold sizeHypS at h; unfold okHypS; omega
def cntHypS (x : XHypS) : Int := 2 * (x.length : Int)
theorem cntHypS_bd {x : XHypS} (h : okHypS x) : 0 ≤ cntHypS x ∧ cntHypS x ≤ 10000000 := by unfold okHypS at h; unfold cntHypS; omega
def mkXHypS (k : Int) (x : XHypS) : XHypS := mkHyp k x.length
theorem shapeHypS {lo hi : Nat} {w : World} {v : Value} {x : XHypS} (h : rHypS.at_ lo hi w v x) : ∃ sa sc, v = .slice sa x.length sc := (ArrIn.arr h).isSlice
theorem rHypS_arr {lo hi : Nat} {w : World} {v : Value} {x : XHypS} (h : rHypS.at_ lo hi w v x) : Arr eHyp w v x := ArrIn.arr h
theorem rHypS_own {w w' : World} {B : Nat} {u : Value} {x : XHypS} (h : Own eHyp 76 B w' u x) (hB : w.heap.size ≤ B) : rHypS.own w.heap.size w'.heap.size w' u x := (h.mono hB).in_

theorem eqHypSR_any (v1 v2 : Value) (x : XHypS) (w : World) {lo1 hi1 lo2 hi2 : Nat} (h1 : rHypS.at_ lo1 hi1 w v1 x) (h2 : rHypS.at_ lo2 hi2 w v2 x) :
    Calls Tryz.prog 12 #[v1, v2] w (Ret (.bool true) w) :=
  eqHypS_any v1 v2 x w (ArrIn.arr h1) (ArrIn.arr h2)
theorem markHypSR_any (v : Value) (x : XHypS) (lo hi : Nat) (k : Int) (w : World) (h : rHypS.own lo hi w v x) (hn : okHypS x) (hk0 : 0 ≤ k) (hk1 : k ≤ 20000000) :
    Calls Tryz.prog 17 #[v, .int .i64 k] w (RetMark rHypS (mkXHypS k x) (k + cntHypS x) lo hi v w) :=
  markHypS_any v x lo hi k w h hn hk0 hk1
theorem heldHypSR_any (v : Value) (x : XHypS) (k : Int) (w : World) {lo hi : Nat} (h : rHypS.at_ lo hi w v (mkXHypS k x)) (hn : okHypS x) (hk0 : 0 ≤ k) (hk1 : k ≤ 20000000) :
    Calls Tryz.prog 18 #[v, .int .i64 k] w (Ret (.int .i64 (k + cntHypS x)) w) :=
  heldHypS_any v x.length k w (ArrIn.arr h) hn hk0 hk1
end Go.Proofs.YtlnoelbeaolikaaGreat
