/- The type Feat: how its values lie in cells, and what the laws' functions over it do: every function here is shown for every argument that can be read. -/
import Derived.Test.YtbgjojnjbplblaaGreatDoorRows
import Derived.Test.YtbgjojnjbplblaaGreatDoorMark
import Derived.Test.YtbgjojnjbplblaaGreatDoorRep
import Derived.Test.YtbgjojnjbplblaaGreatDoorReg
import Derived.Test.YtbgjojnjbplblaaGreatDoorOpen
namespace Go.Proofs.YtbgjojnjbplblaaGreatDoor
open Go.RowKit

structure DFeat where
  x : Int
  y : Int
  d : Int
def eFeat : Enc DFeat := ⟨fun x => [.int .i64 x.x, .int .i64 x.y, .int .i64 x.d], 3, fun _ => rfl, by decide, fun x u hu => by simp at hu; rcases hu with rfl | rfl | rfl <;> rfl⟩

theorem eFeat_cells {w : World} {b off : Nat} {es : List DFeat} (h : Cells eFeat w b off es) {k : Nat} {x : DFeat} (hx : es[k]? = some x) :
    w.cell? ⟨b, off + k * 3, none⟩ = some (.int .i64 x.x) ∧ w.cell? ⟨b, off + k * 3 + 1, none⟩ = some (.int .i64 x.y) ∧ w.cell? ⟨b, off + k * 3 + 2, none⟩ = some (.int .i64 x.d) :=
  ⟨h k x hx 0 _ rfl, h k x hx 1 _ rfl, h k x hx 2 _ rfl⟩


def szFeat (_ : DFeat) : Nat := 0
def goodFeat (x : DFeat) : Prop := (Lit.int .i64 x.x).wf = true ∧ (Lit.int .i64 x.y).wf = true ∧ (Lit.int .i64 x.d).wf = true

theorem sumOf_szFeat (es : List DFeat) : sumOf szFeat es = 0 := by
  unfold sumOf; induction es with
  | nil => rfl
  | cons e es ih => simp only [List.map_cons, List.sum_cons, ih]; rfl


/-- what markTS leaves -/
def mkFeat (k : Int) (n : Nat) : List DFeat := (List.range n).map fun (i : Nat) => ⟨k + 3 * (i : Int), k + 3 * (i : Int) + 1, k + 3 * (i : Int) + 1 + 1⟩
theorem mkFeat_len (k : Int) (n : Nat) : (mkFeat k n).length = n := by simp [mkFeat]
theorem mkFeat_get (k : Int) (n i : Nat) (h : i < n) : (mkFeat k n)[i]? = some ⟨k + 3 * (i : Int), k + 3 * (i : Int) + 1, k + 3 * (i : Int) + 1 + 1⟩ := by simp [mkFeat, h]

end Go.Proofs.YtbgjojnjbplblaaGreatDoor
