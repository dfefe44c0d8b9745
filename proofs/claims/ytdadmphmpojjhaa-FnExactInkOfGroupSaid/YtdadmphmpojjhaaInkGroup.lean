/- All groups of a number of strokes. -/
import Derived.Test.YtdadmphmpojjhaaInkOk
import Derived.Test.YtdadmphmpojjhaaWrGroupS
import Derived.Test.YtdadmphmpojjhaaApp
namespace Go.Proofs.Ytdadmphmpojjhaa
open Go.RowKit

theorem maxLen_1 : 1 ≤ maxLen := by unfold maxLen; omega
def grpN (n f : Nat) : Nat := min n (f + 3) - f
def grpRow (f m : Nat) : List DGroup := (List.range m).map fun (j : Nat) => ⟨f, f + 1 + j⟩
def grpTo (n f : Nat) : List DGroup := (List.range f).flatMap fun i => grpRow i (grpN n i)
theorem grpRow_succ (f m : Nat) : grpRow f (m + 1) = grpRow f m ++ [⟨f, f + 1 + m⟩] := by simp [grpRow, List.range_succ]
theorem grpTo_succ (n f : Nat) : grpTo n (f + 1) = grpTo n f ++ grpRow f (grpN n f) := by simp [grpTo, List.range_succ]
theorem grpRow_len (f m : Nat) : (grpRow f m).length = m := by simp [grpRow]
theorem grpTo_len (n f : Nat) : (grpTo n f).length ≤ 3 * f := by
  induction f with
  | zero => simp [grpTo]
  | succ f ih => rw [grpTo_succ, List.length_append, grpRow_len]; have : grpN n f ≤ 3 := by unfold grpN; omega
                 omega
theorem infGroup : (Try.prog.info? 34).map (fun i => (i.zero, i.size, i.bytes)) = some (some (.agg #[.int .i64 0, .int .i64 0]), 2, 16) := by kernel_rfl

def grpX (X : XInk) : List DGroup := if validInk X then grpTo X.length X.length else []
def grpC (X : XInk) : Int := if validInk X then 0 else 1
theorem okGrp (X : XInk) : okGroupS (grpX X) := by
  unfold grpX
  split
  · rename_i hv
    have := validInk_len hv
    have := grpTo_len X.length X.length
    show (grpTo X.length X.length).length ≤ 1048576
    omega
  · show (0 : Nat) ≤ 1048576; omega
end Go.Proofs.Ytdadmphmpojjhaa
