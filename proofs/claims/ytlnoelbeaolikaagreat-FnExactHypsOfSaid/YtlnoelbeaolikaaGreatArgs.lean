/- The type Entry: how its values lie in cells, and what the laws' functions over it do: every function here is shown for every argument that can be read. -/
import Derived.Test.YtlnoelbeaolikaaGreatRows
import Derived.Test.YtlnoelbeaolikaaGreatMark
import Derived.Test.YtlnoelbeaolikaaGreatRep
import Derived.Test.YtlnoelbeaolikaaGreatReg
import Derived.Test.YtlnoelbeaolikaaGreatOpen
namespace Go.Proofs.YtlnoelbeaolikaaGreat
open Go.RowKit

structure DEntry where
  word : ByteArray
  cost : Int
def eEntry : Enc DEntry := ⟨fun x => [.string x.word, .int .i64 x.cost], 2, fun _ => rfl, by decide, fun x u hu => by simp at hu; rcases hu with rfl | rfl <;> rfl⟩

theorem eEntry_cells {w : World} {b off : Nat} {es : List DEntry} (h : Cells eEntry w b off es) {k : Nat} {x : DEntry} (hx : es[k]? = some x) :
    w.cell? ⟨b, off + k * 2, none⟩ = some (.string x.word) ∧ w.cell? ⟨b, off + k * 2 + 1, none⟩ = some (.int .i64 x.cost) :=
  ⟨h k x hx 0 _ rfl, h k x hx 1 _ rfl⟩


def szEntry (x : DEntry) : Nat := x.word.size
def goodEntry (x : DEntry) : Prop := x.word.size ≤ maxLen ∧ (Lit.int .i64 x.cost).wf = true



/-- what markTS leaves -/
def mkEntry (k : Int) (n : Nat) : List DEntry := (List.range n).map fun (i : Nat) => ⟨mt (k + 2 * (i : Int)), k + 2 * (i : Int) + 1⟩
theorem mkEntry_len (k : Int) (n : Nat) : (mkEntry k n).length = n := by simp [mkEntry]
theorem mkEntry_get (k : Int) (n i : Nat) (h : i < n) : (mkEntry k n)[i]? = some ⟨mt (k + 2 * (i : Int)), k + 2 * (i : Int) + 1⟩ := by simp [mkEntry, h]

end Go.Proofs.YtlnoelbeaolikaaGreat
namespace Go.Proofs.YtlnoelbeaolikaaGreat
open Go.RowKit

structure DEdge where
  frm : Int
  to_ : Int
  label : ByteArray
  cost : Int
def eEdge : Enc DEdge := ⟨fun x => [.int .i64 x.frm, .int .i64 x.to_, .string x.label, .int .i64 x.cost], 4, fun _ => rfl, by decide, fun x u hu => by simp at hu; rcases hu with rfl | rfl | rfl | rfl <;> rfl⟩

theorem eEdge_cells {w : World} {b off : Nat} {es : List DEdge} (h : Cells eEdge w b off es) {k : Nat} {x : DEdge} (hx : es[k]? = some x) :
    w.cell? ⟨b, off + k * 4, none⟩ = some (.int .i64 x.frm) ∧ w.cell? ⟨b, off + k * 4 + 1, none⟩ = some (.int .i64 x.to_) ∧ w.cell? ⟨b, off + k * 4 + 2, none⟩ = some (.string x.label) ∧ w.cell? ⟨b, off + k * 4 + 3, none⟩ = some (.int .i64 x.cost) :=
  ⟨h k x hx 0 _ rfl, h k x hx 1 _ rfl, h k x hx 2 _ rfl, h k x hx 3 _ rfl⟩


def szEdge (x : DEdge) : Nat := x.label.size
def goodEdge (x : DEdge) : Prop := (Lit.int .i64 x.frm).wf = true ∧ (Lit.int .i64 x.to_).wf = true ∧ x.label.size ≤ maxLen ∧ (Lit.int .i64 x.cost).wf = true


set_option maxRecDepth 100000 in
set_option maxHeartbeats 400000 in
theorem eqEdge_any (x : DEdge) (w : World) :
    Calls Tryz.prog 87 #[.agg #[.int .i64 x.frm, .int .i64 x.to_, .string x.label, .int .i64 x.cost], .agg #[.int .i64 x.frm, .int .i64 x.to_, .string x.label, .int .i64 x.cost]] w (Ret (.bool true) w) := by
  go_enter Tryz.func87, Tryz.ntmps87
  go_wp2
  go_ret
  exact ret_bool rfl (((Below.refl _ _).alloc (Nat.le_refl _) _).alloc (by simp) _)
set_option maxRecDepth 100000 in
set_option maxHeartbeats 400000 in
theorem eqEdgeS_any (v1 v2 : Value) (es : List DEdge) (w : World) (h1 : Arr eEdge w v1 es) (h2 : Arr eEdge w v2 es) :
    Calls Tryz.prog 47 #[v1, v2] w (Ret (.bool true) w) := by
  obtain ⟨b, off, ao, cap, rfl, hnc, hcm, hao, hc⟩ := h1
  obtain ⟨b2, off2, ao2, cap2, rfl, hnc2, hcm2, hao2, hc2⟩ := h2
  unfold maxLen at hcm
  go_enter Tryz.func47, Tryz.ntmps47
  go_wp2
  go_loopw [5] (fun i wr => ∃ k : Nat, k ≤ es.length ∧ i = .int .i64 k ∧ Below w.heap.size w wr) (fun i _ => es.length - (intOf i).toNat)
  case atStart => exact ⟨0, Nat.zero_le _, rfl, Below.refl _ _⟩
  case round =>
    obtain ⟨k, hk, rfl, hb⟩ := hrel
    by_cases hlt : k < es.length
    · obtain ⟨hao', hbw⟩ := hao (by omega)
      obtain ⟨hao2', hbw2⟩ := hao2 (by omega)
      subst hao' hao2'
      obtain ⟨x, hx⟩ : ∃ x, es[k]? = some x := ⟨_, List.getElem?_eq_getElem hlt⟩
      obtain ⟨c0, c1, c2, c3⟩ := eEdge_cells (hc.below hb hbw) hx
      obtain ⟨d0, d1, d2, d3⟩ := eEdge_cells (hc2.below hb hbw2) hx
      have c0 := ext_cell c0
      have c1 := ext_cell c1
      have c2 := ext_cell c2
      have c3 := ext_cell c3
      have d0 := ext_cell d0
      have d1 := ext_cell d1
      have d2 := ext_cell d2
      have d3 := ext_cell d3
      clear hao hao2
      have hli : (k : Int) < (es.length : Int) := by omega
      go_wp2
      refine wp_region_ext (by kernel_rfl) (by kernel_rfl) ?_
      repeat (go_big_quiet_step (((go_at_call 87; exact ret_ext (eqEdge_any _ _)))))
      refine wpQuiet_nil ?_
      intro _ hw'
      obtain ⟨nq, hw''⟩ := hw'
      subst hw''
      go_wp2
      go_roundw
      case rel => exact ⟨k + 1, by omega, by go_num, hb.trans ((ext_below _ _).mono hb.size)⟩
      case measure => simp [intOf]; omega
    · go_wp2
      go_ret
      exact ret_bool rfl hb

/-- what markTS leaves -/
def mkEdge (k : Int) (n : Nat) : List DEdge := (List.range n).map fun (i : Nat) => ⟨k + 4 * (i : Int), k + 4 * (i : Int) + 1, mt (k + 4 * (i : Int) + 1 + 1), k + 4 * (i : Int) + 1 + 1 + 1⟩
theorem mkEdge_len (k : Int) (n : Nat) : (mkEdge k n).length = n := by simp [mkEdge]
theorem mkEdge_get (k : Int) (n i : Nat) (h : i < n) : (mkEdge k n)[i]? = some ⟨k + 4 * (i : Int), k + 4 * (i : Int) + 1, mt (k + 4 * (i : Int) + 1 + 1), k + 4 * (i : Int) + 1 + 1 + 1⟩ := by simp [mkEdge, h]

set_option maxHeartbeats 1000000 in
theorem markEdgeS_any (v : Value) (es : List DEdge) (lo hi : Nat) (k : Int) (w : World) (h : OwnIn eEdge 89 lo hi w v es) (hn : es.length ≤ 1048576) (hk0 : 0 ≤ k) (hk1 : k ≤ 20000000) :
    Calls Tryz.prog 48 #[v, .int .i64 k] w (RetMark (Rep.flat eEdge 89) (mkEdge k es.length) (k + 4 * (es.length : Int)) lo hi v w) := by
  have hsl : ∃ (ao : Option Addr) (cap g : Nat), v = .slice ao es.length cap ∧ (0 < es.length → ao = some ⟨g, 0, none⟩) := by
    rcases h.1.shape with ⟨rfl, rfl⟩ | ⟨g, cap, rfl, _, _⟩
    · exact ⟨none, 0, 0, rfl, by simp⟩
    · exact ⟨_, cap, g, rfl, fun _ => rfl⟩
  obtain ⟨ao, cap, g, rfl, hao⟩ := hsl
  go_enter Tryz.func48, Tryz.ntmps48
  go_wp2
  go_loopw [1, 5] (fun kv iv wr => ∃ (i : Nat) (ys : List DEdge), i ≤ es.length ∧ iv = .int .i64 i ∧ kv = .int .i64 (k + 4 * (i : Int)) ∧ ys.length = es.length ∧ (∀ j, j < i → ys[j]? = (mkEdge k es.length)[j]?) ∧
      OwnIn eEdge 89 lo hi wr (.slice ao es.length cap) ys ∧ Mk (fun T => T == 89) lo hi w wr) (fun _ i _ => es.length - (intOf i).toNat)
  case atStart => exact ⟨0, es, Nat.zero_le _, rfl, by simp, rfl, by simp, h, Mk.refl _ _ _ _⟩
  case round =>
    clear h
    obtain ⟨i, ys, hk, rfl, rfl, hyl, hys, ho, hch⟩ := hrel
    have HY := hid hyl
    have HYS := hid hys
    clear hyl hys
    by_cases hlt : i < es.length
    · have hao' := hao (by omega)
      subst hao'
      clear hao
      obtain ⟨y, hy⟩ : ∃ y, ys[i]? = some y := ⟨_, List.getElem?_eq_getElem (by rw [HY.out]; exact hlt)⟩
      have Y0 := hid hy
      clear hy
      have O0 := ho
      clear ho
      obtain ⟨u0, hu0⟩ := O0.1.slot (by simp [HY.out]) i hlt 0 (by decide)
      obtain ⟨u1, hu1⟩ := O0.1.slot (by simp [HY.out]) i hlt 1 (by decide)
      obtain ⟨u2, hu2⟩ := O0.1.slot (by simp [HY.out]) i hlt 2 (by decide)
      obtain ⟨u3, hu3⟩ := O0.1.slot (by simp [HY.out]) i hlt 3 (by decide)
      have hv0 : wr.cell? ⟨g, i * 4, none⟩ = some u0 := hu0
      have hv1 : wr.cell? ⟨g, i * 4 + 1, none⟩ = some u1 := hu1
      have hv2 : wr.cell? ⟨g, i * 4 + 2, none⟩ = some u2 := hu2
      have hv3 : wr.cell? ⟨g, i * 4 + 3, none⟩ = some u3 := hu3
      have hf := O0.1.free (by simp [HY.out])
      clear hu0 hu1 hu2 hu3
      have S0 := O0.set1 (by simp [HY.out]) Y0.out (j := 0) (x' := (⟨k + 4 * (i : Int), y.to_, y.label, y.cost⟩ : DEdge)) (u := .int .i64 (k + 4 * (i : Int))) (by decide) rfl
      have O1 := S0.1
      have Y1 := hid (set_same (y := (⟨k + 4 * (i : Int), y.to_, y.label, y.cost⟩ : DEdge)) Y0.out)
      have S1 := O1.set1 (by simp [HY.out]) Y1.out (j := 1) (x' := (⟨k + 4 * (i : Int), k + 4 * (i : Int) + 1, y.label, y.cost⟩ : DEdge)) (u := .int .i64 (k + 4 * (i : Int) + 1)) (by decide) rfl
      have O2 := S1.1
      rw [set_set] at O2
      have Y2 := hid (set_same (y := (⟨k + 4 * (i : Int), k + 4 * (i : Int) + 1, y.label, y.cost⟩ : DEdge)) Y0.out)
      go_wp2_with fail
      refine (markText_any _ _ (by omega)).mono ?_
      rintro e w2 ⟨rfl, hb2⟩
      clear hf hv0 hv1 hv2 hv3
      have P2 := O2
      have O2b := (Rep.flat eEdge 89).own_below O2 hb2
      obtain ⟨u2, hu2⟩ := O2b.1.slot (by simp [HY.out]) i hlt 2 (by decide)
      obtain ⟨u3, hu3⟩ := O2b.1.slot (by simp [HY.out]) i hlt 3 (by decide)
      have hv2 : w2.cell? ⟨g, i * 4 + 2, none⟩ = some u2 := hu2
      have hv3 : w2.cell? ⟨g, i * 4 + 3, none⟩ = some u3 := hu3
      have hf := O2b.1.free (by simp [HY.out])
      clear hu2 hu3
      have S2 := O2b.set1 (by simp [HY.out]) Y2.out (j := 2) (x' := (⟨k + 4 * (i : Int), k + 4 * (i : Int) + 1, mt (k + 4 * (i : Int) + 1 + 1), y.cost⟩ : DEdge)) (u := .string (mt (k + 4 * (i : Int) + 1 + 1))) (by decide) rfl
      have O3 := S2.1
      rw [set_set] at O3
      have Y3 := hid (set_same (y := (⟨k + 4 * (i : Int), k + 4 * (i : Int) + 1, mt (k + 4 * (i : Int) + 1 + 1), y.cost⟩ : DEdge)) Y0.out)
      have S3 := O3.set1 (by simp [HY.out]) Y3.out (j := 3) (x' := (⟨k + 4 * (i : Int), k + 4 * (i : Int) + 1, mt (k + 4 * (i : Int) + 1 + 1), k + 4 * (i : Int) + 1 + 1 + 1⟩ : DEdge)) (u := .int .i64 (k + 4 * (i : Int) + 1 + 1 + 1)) (by decide) rfl
      have O4 := S3.1
      rw [set_set] at O4
      have Y4 := hid (set_same (y := (⟨k + 4 * (i : Int), k + 4 * (i : Int) + 1, mt (k + 4 * (i : Int) + 1 + 1), k + 4 * (i : Int) + 1 + 1 + 1⟩ : DEdge)) Y0.out)
      go_wp2
      go_roundw
      case rel =>
        have h1 := fill_step (xs := mkEdge k es.length) (by rw [mkEdge_len]; exact HY.out) HYS.out (mkEdge_get k es.length i hlt)
        exact ⟨i + 1, ys.set i ⟨k + 4 * (i : Int), k + 4 * (i : Int) + 1, mt (k + 4 * (i : Int) + 1 + 1), k + 4 * (i : Int) + 1 + 1 + 1⟩, by omega, by go_num, by go_num, by rw [h1.1, mkEdge_len], h1.2, O4, (((((hch).trans S0.2).trans S1.2).trans (Mk.of_below hb2)).trans S2.2).trans S3.2⟩
      case measure => simp [intOf]; omega
    · obtain rfl : i = es.length := by omega
      have := fill_done (xs := mkEdge k es.length) (by rw [mkEdge_len]; exact HY.out) HYS.out (by rw [mkEdge_len]; exact Nat.le_refl _)
      subst this
      clear HYS
      go_wp2
      go_ret
      exact ⟨rfl, ho, hch⟩
set_option maxHeartbeats 1000000 in
theorem heldEdgeS_any (v : Value) (n : Nat) (k : Int) (w : World) (h : Arr eEdge w v (mkEdge k n)) (hn : n ≤ 1048576) (hk0 : 0 ≤ k) (hk1 : k ≤ 20000000) :
    Calls Tryz.prog 49 #[v, .int .i64 k] w (Ret (.int .i64 (k + 4 * (n : Int))) w) := by
  obtain ⟨b, off, ao, cap, rfl, hnc, hcm, hao, hc⟩ := h
  simp only [mkEdge_len] at *
  unfold maxLen at hcm
  go_enter Tryz.func49, Tryz.ntmps49
  go_wp2
  go_loopw [1, 5] (fun kv iv wr => ∃ (i : Nat), i ≤ n ∧ iv = .int .i64 i ∧ kv = .int .i64 (k + 4 * (i : Int)) ∧ Below w.heap.size w wr) (fun _ i _ => n - (intOf i).toNat)
  case atStart => exact ⟨0, Nat.zero_le _, rfl, by simp, Below.refl _ _⟩
  case round =>
    obtain ⟨i, hk, rfl, rfl, hb⟩ := hrel
    by_cases hlt : i < n
    · obtain ⟨hao', hbw⟩ := hao (by omega)
      subst hao'
      clear hao
      obtain ⟨c0, c1, c2, c3⟩ := eEdge_cells (hc.below hb hbw) (mkEdge_get k n i hlt)
      have hli : (i : Int) < (n : Int) := by omega
      have x0 := ext_cell c0
      have x1 := ext_cell c1
      have x2 := ext_cell c2
      have x3 := ext_cell c3
      go_wp2
      refine wp_region_ext (by kernel_rfl) (by kernel_rfl) ?_
      repeat (go_big_quiet_step (((go_at_call 41; exact ret_ext (markText_any _ _ (by omega))))))
      refine wpQuiet_nil ?_
      intro _ hw'
      obtain ⟨nq0, hw''⟩ := hw'
      subst hw''
      replace c0 := x0 nq0
      replace c1 := x1 nq0
      replace c2 := x2 nq0
      replace c3 := x3 nq0
      clear x0 x1 x2 x3
      go_wp2
      go_roundw
      case rel => exact ⟨i + 1, by omega, by go_num, by go_num, (hb).trans ((ext_below _ nq0).mono (hb).size)⟩
      case measure => simp [intOf]; omega
    · obtain rfl : i = n := by omega
      go_wp2
      go_ret
      exact ret_int rfl hb

end Go.Proofs.YtlnoelbeaolikaaGreat
namespace Go.Proofs.YtlnoelbeaolikaaGreat
open Go.RowKit

structure DGroup where
  frm : Int
  to_ : Int
def eGroup : Enc DGroup := ⟨fun x => [.int .i64 x.frm, .int .i64 x.to_], 2, fun _ => rfl, by decide, fun x u hu => by simp at hu; rcases hu with rfl | rfl <;> rfl⟩

theorem eGroup_cells {w : World} {b off : Nat} {es : List DGroup} (h : Cells eGroup w b off es) {k : Nat} {x : DGroup} (hx : es[k]? = some x) :
    w.cell? ⟨b, off + k * 2, none⟩ = some (.int .i64 x.frm) ∧ w.cell? ⟨b, off + k * 2 + 1, none⟩ = some (.int .i64 x.to_) :=
  ⟨h k x hx 0 _ rfl, h k x hx 1 _ rfl⟩


def szGroup (_ : DGroup) : Nat := 0
def goodGroup (x : DGroup) : Prop := (Lit.int .i64 x.frm).wf = true ∧ (Lit.int .i64 x.to_).wf = true

theorem sumOf_szGroup (es : List DGroup) : sumOf szGroup es = 0 := by
  unfold sumOf; induction es with
  | nil => rfl
  | cons e es ih => simp only [List.map_cons, List.sum_cons, ih]; rfl


/-- what markTS leaves -/
def mkGroup (k : Int) (n : Nat) : List DGroup := (List.range n).map fun (i : Nat) => ⟨k + 2 * (i : Int), k + 2 * (i : Int) + 1⟩
theorem mkGroup_len (k : Int) (n : Nat) : (mkGroup k n).length = n := by simp [mkGroup]
theorem mkGroup_get (k : Int) (n i : Nat) (h : i < n) : (mkGroup k n)[i]? = some ⟨k + 2 * (i : Int), k + 2 * (i : Int) + 1⟩ := by simp [mkGroup, h]

end Go.Proofs.YtlnoelbeaolikaaGreat
namespace Go.Proofs.YtlnoelbeaolikaaGreat
open Go.ChangeShapes Go.WideShapes Go.ChangeAt Go.RowKit Go.Deep
open Go.ChangeMaps (open_string)

set_option maxRecDepth 100000 in
theorem Tryz.own : ownKnob Tryz.prog.godebug = none := by kernel_rfl
set_option maxRecDepth 100000 in
theorem Tryz.laidOut : laidOutB Tryz.prog = true := by kernel_rfl

set_option maxRecDepth 100000 in
theorem openStr {H : Type} {enc : TypeId × Value → H} {W : World} {base : Nat} {spare : Nat → Bool} {held : Bool} {v : Value} {d : DataW H} {ps : List MemPlace} {b0 : Nat} {r : Reach} (t : TypeId) (ht : Tryz.prog.underlying t = some .string)
    (hv : Value.okWide Tryz.prog W r b0 t v) (h : DataW.Trod enc Tryz.prog W base spare held t v d ps) : ∃ s : ByteArray, v = .string s ∧ s.size ≤ maxLen := by
  obtain ⟨s, rfl, _, _, hs⟩ := open_string ht hv h
  exact ⟨s, rfl, hs⟩

set_option maxRecDepth 100000 in
theorem openInt {H : Type} {enc : TypeId × Value → H} {W : World} {base : Nat} {spare : Nat → Bool} {held : Bool} {v : Value} {d : DataW H} {ps : List MemPlace} {b0 : Nat} {r : Reach} (t : TypeId) (ht : Tryz.prog.underlying t = some (.int .i64))
    (hv : Value.okWide Tryz.prog W r b0 t v) (h : DataW.Trod enc Tryz.prog W base spare held t v d ps) : ∃ n, v = .int .i64 n ∧ (Lit.int .i64 n).wf = true := by
  obtain ⟨n, rfl, _, _, hn⟩ := open_int ht hv h
  exact ⟨n, rfl, hn⟩

end Go.Proofs.YtlnoelbeaolikaaGreat
