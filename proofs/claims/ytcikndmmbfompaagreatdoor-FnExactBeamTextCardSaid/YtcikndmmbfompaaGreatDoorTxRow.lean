/- The tables that a row over texts lists: a world that holds them, and what the list gives a walk. -/
import Derived.Test.YtcikndmmbfompaaGreatDoorRows
import Derived.Test.YtcikndmmbfompaaGreatDoorTie
import Derived.Test.YtcikndmmbfompaaGreatDoorCards
import Derived.Test.YtcikndmmbfompaaGreatDoorTxBld
import Derived.ChangeSame
import Derived.ChangeVars
import Derived.JoinedOf
import Derived.LaidLaws
import Derived.LaidHandle
import Derived.LaidSub
import Derived.Lib.LaidTab
import Derived.Stop.Joined
import Derived.SevenTiedAt
import Derived.Stop.LaidErr
namespace Go.Proofs.YtcikndmmbfompaaGreatDoor
open Go.RowKit

def laidL : List (String × DataW Unit) := [("math/bits.deBruijn32tab", Rows.laid_math_bits_deBruijn32tab), ("math/bits.deBruijn64tab", Rows.laid_math_bits_deBruijn64tab), ("internal/strconv.uint64pow10", Rows.laid_internal_strconv_uint64pow10)]
noncomputable def tabCells (d : DataW Unit) : Array Value := match d with
  | .agg xs => (xs.map fun x => match x with | .lit (.int k z) => Value.int k z | _ => .int .u8 0).toArray
  | _ => #[]
noncomputable def putTab (h : Array Obj) (g : Nat) (c : Array Value) : Array Obj := h.modify g fun
  | .cells _ t frozen => .cells c t frozen
  | o => o
noncomputable def laidWorld (os : Os) : World :=
  { World.holding Tryz.prog os ⟨#[], #[], []⟩ with heap := putTab (putTab (putTab (World.holding Tryz.prog os ⟨#[], #[], []⟩).heap 2 (tabCells Rows.laid_math_bits_deBruijn32tab)) 3 (tabCells Rows.laid_math_bits_deBruijn64tab)) 0 (tabCells Rows.laid_internal_strconv_uint64pow10) }
theorem laid_met (os : Os) (args : Array Value) : laidMetH Tryz.prog laidL ((laidWorld os).forCall (fun _ _ => 0) ⟨#[], args, []⟩).memory :=
  laidMetH_of_parts (laidMet_of_run' 8 (by kernel_rfl) (by kernel_rfl)) (by kernel_rfl)
theorem tabL_of_laid {W : World} (h : laidMetH Tryz.prog laidL W) : TabL W := by
  have h1 : laidMet Tryz.prog laidL W := (laidMetH_iff.1 h).1
  exact Lib.tabIs_of_head gPow (by kernel_rfl) Tryz.underlying150 Tryz.underlying133 (by kernel_rfl) (by kernel_rfl) (show laidMet Tryz.prog (("internal/strconv.uint64pow10", Lib.tabData .u64 Lib.pow10Tab) :: []) W from laidMet.tail (laidMet.tail h1))
end Go.Proofs.YtcikndmmbfompaaGreatDoor
