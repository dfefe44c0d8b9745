/- The type Reading: how its values lie in cells, and what the laws' functions over it do: every function here is shown for every argument that can be read. -/
import Derived.Test.YtcikndmmbfompaaGreatDoorRows
import Derived.Test.YtcikndmmbfompaaGreatDoorMark
import Derived.Test.YtcikndmmbfompaaGreatDoorRep
import Derived.Test.YtcikndmmbfompaaGreatDoorReg
import Derived.Test.YtcikndmmbfompaaGreatDoorOpen
namespace Go.Proofs.YtcikndmmbfompaaGreatDoor
open Go.RowKit

structure DReading where
  text : ByteArray
  cost : Int
def eReading : Enc DReading := ⟨fun x => [.string x.text, .int .i64 x.cost], 2, fun _ => rfl, by decide, fun x u hu => by simp at hu; rcases hu with rfl | rfl <;> rfl⟩

theorem eReading_cells {w : World} {b off : Nat} {es : List DReading} (h : Cells eReading w b off es) {k : Nat} {x : DReading} (hx : es[k]? = some x) :
    w.cell? ⟨b, off + k * 2, none⟩ = some (.string x.text) ∧ w.cell? ⟨b, off + k * 2 + 1, none⟩ = some (.int .i64 x.cost) :=
  ⟨h k x hx 0 _ rfl, h k x hx 1 _ rfl⟩


def szReading (x : DReading) : Nat := x.text.size
def goodReading (x : DReading) : Prop := x.text.size ≤ maxLen ∧ (Lit.int .i64 x.cost).wf = true



/-- what markTS leaves -/
def mkReading (k : Int) (n : Nat) : List DReading := (List.range n).map fun (i : Nat) => ⟨mt (k + 2 * (i : Int)), k + 2 * (i : Int) + 1⟩
theorem mkReading_len (k : Int) (n : Nat) : (mkReading k n).length = n := by simp [mkReading]
theorem mkReading_get (k : Int) (n i : Nat) (h : i < n) : (mkReading k n)[i]? = some ⟨mt (k + 2 * (i : Int)), k + 2 * (i : Int) + 1⟩ := by simp [mkReading, h]

end Go.Proofs.YtcikndmmbfompaaGreatDoor
