/- The type Found: how its values lie in cells, and what the laws' functions over it do: every function here is shown for every argument that can be read. -/
import Derived.Test.YtcikndmmbfompaaGreatDoorRows
import Derived.Test.YtcikndmmbfompaaGreatDoorMark
import Derived.Test.YtcikndmmbfompaaGreatDoorRep
import Derived.Test.YtcikndmmbfompaaGreatDoorReg
import Derived.Test.YtcikndmmbfompaaGreatDoorOpen
namespace Go.Proofs.YtcikndmmbfompaaGreatDoor
open Go.RowKit

structure DFound where
  word : ByteArray
  path : Int
  own_ : Int
def eFound : Enc DFound := ⟨fun x => [.string x.word, .int .i64 x.path, .int .i64 x.own_], 3, fun _ => rfl, by decide, fun x u hu => by simp at hu; rcases hu with rfl | rfl | rfl <;> rfl⟩

theorem eFound_cells {w : World} {b off : Nat} {es : List DFound} (h : Cells eFound w b off es) {k : Nat} {x : DFound} (hx : es[k]? = some x) :
    w.cell? ⟨b, off + k * 3, none⟩ = some (.string x.word) ∧ w.cell? ⟨b, off + k * 3 + 1, none⟩ = some (.int .i64 x.path) ∧ w.cell? ⟨b, off + k * 3 + 2, none⟩ = some (.int .i64 x.own_) :=
  ⟨h k x hx 0 _ rfl, h k x hx 1 _ rfl, h k x hx 2 _ rfl⟩


def szFound (x : DFound) : Nat := x.word.size
def goodFound (x : DFound) : Prop := x.word.size ≤ maxLen ∧ (Lit.int .i64 x.path).wf = true ∧ (Lit.int .i64 x.own_).wf = true



/-- what markTS leaves -/
def mkFound (k : Int) (n : Nat) : List DFound := (List.range n).map fun (i : Nat) => ⟨mt (k + 3 * (i : Int)), k + 3 * (i : Int) + 1, k + 3 * (i : Int) + 1 + 1⟩
theorem mkFound_len (k : Int) (n : Nat) : (mkFound k n).length = n := by simp [mkFound]
theorem mkFound_get (k : Int) (n i : Nat) (h : i < n) : (mkFound k n)[i]? = some ⟨mt (k + 3 * (i : Int)), k + 3 * (i : Int) + 1, k + 3 * (i : Int) + 1 + 1⟩ := by simp [mkFound, h]

end Go.Proofs.YtcikndmmbfompaaGreatDoor
