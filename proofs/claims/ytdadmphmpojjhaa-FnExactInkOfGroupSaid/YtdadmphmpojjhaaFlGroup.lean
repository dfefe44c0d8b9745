/- The type Group: how its values lie in cells, and what the laws' functions over it do: every function here is shown for every argument that can be read. -/
import Derived.Test.YtdadmphmpojjhaaRows
import Derived.Test.YtdadmphmpojjhaaMark
import Derived.Test.YtdadmphmpojjhaaRep
import Derived.Test.YtdadmphmpojjhaaReg
import Derived.Test.YtdadmphmpojjhaaOpen
namespace Go.Proofs.Ytdadmphmpojjhaa
open Go.RowKit

structure DGroup where
  frm : Int
  to_ : Int
def eGroup : Enc DGroup := ⟨fun x => [.int .i64 x.frm, .int .i64 x.to_], 2, fun _ => rfl, by decide, fun x u hu => by simp at hu; rcases hu with rfl | rfl <;> rfl⟩

theorem eGroup_cells {w : World} {b off : Nat} {es : List DGroup} (h : Cells eGroup w b off es) {k : Nat} {x : DGroup} (hx : es[k]? = some x) :
    w.cell? ⟨b, off + k * 2, none⟩ = some (.int .i64 x.frm) ∧ w.cell? ⟨b, off + k * 2 + 1, none⟩ = some (.int .i64 x.to_) :=
  ⟨h k x hx 0 _ rfl, h k x hx 1 _ rfl⟩

set_option maxRecDepth 100000 in
set_option maxHeartbeats 400000 in
theorem toGroup_any (x : DGroup) (w : World) :
    Calls Try.prog 7 #[.agg #[.int .i64 x.frm, .int .i64 x.to_]] w (Ret (.agg #[.int .i64 x.frm, .int .i64 x.to_]) w) := by
  go_enter Try.func7, Try.ntmps7
  go_wp2
  exact bodyPost_ret (v := .agg #[.int .i64 x.frm, .int .i64 x.to_]) (by simp [results, Try.results7, go_sem]) rfl
    (ret_ret rfl ((((Below.refl _ _).alloc (Nat.le_refl _) _).alloc (by simp) _).alloc (by simp <;> omega) _))

def szGroup (_ : DGroup) : Nat := 0
def goodGroup (x : DGroup) : Prop := (Lit.int .i64 x.frm).wf = true ∧ (Lit.int .i64 x.to_).wf = true

theorem sumOf_szGroup (es : List DGroup) : sumOf szGroup es = 0 := by
  unfold sumOf; induction es with
  | nil => rfl
  | cons e es ih => simp only [List.map_cons, List.sum_cons, ih]; rfl


/-- what markTS leaves -/
def mkGroup (k : Int) (n : Nat) : List DGroup := (List.range n).map fun (i : Nat) => ⟨k + 2 * (i : Int), k + 2 * (i : Int) + 1⟩
theorem mkGroup_len (k : Int) (n : Nat) : (mkGroup k n).length = n := by simp [mkGroup]
theorem mkGroup_get (k : Int) (n i : Nat) (h : i < n) : (mkGroup k n)[i]? = some ⟨k + 2 * (i : Int), k + 2 * (i : Int) + 1⟩ := by simp [mkGroup, h]

set_option maxRecDepth 100000 in
theorem decGroup (w : World) (cs : List Value) (h : Rd Try.prog w 26 cs) : ∃ x : DGroup, cs = eGroup.row x ∧ goodGroup x := by
  obtain ⟨hl, hf⟩ := rd_struct Try.underlying26 h
  rw [show Try.prog.cellsOf 26 = 2 by kernel_rfl] at hl
  obtain ⟨c0, c1, rfl⟩ : ∃ c0 c1, cs = [c0, c1] := by
    match cs, hl with
    | [c0, c1], _ => exact ⟨c0, c1, rfl⟩
  have h0 : Rd Try.prog w 2 (([c0, c1].drop 0).take (Try.prog.cellsOf 2)) := hf 0 _ rfl
  have h1 : Rd Try.prog w 2 (([c0, c1].drop 1).take (Try.prog.cellsOf 2)) := hf 1 _ rfl
  rw [show Try.prog.cellsOf 2 = 1 by kernel_rfl] at h0
  obtain ⟨s0, hs0, hg0⟩ := rd_int Try.underlying2 h0
  simp at hs0
  subst hs0
  rw [show Try.prog.cellsOf 2 = 1 by kernel_rfl] at h1
  obtain ⟨s1, hs1, hg1⟩ := rd_int Try.underlying2 h1
  simp at hs1
  subst hs1
  exact ⟨⟨s0, s1⟩, rfl, hg0, hg1⟩
end Go.Proofs.Ytdadmphmpojjhaa
