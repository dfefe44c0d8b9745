/- Plain arguments opened: strings, integers, structs of these. -/
import Derived.Test.YtcikndmmbfompaaGreatDoorRows
import Derived.Test.YtcikndmmbfompaaGreatDoorOpen
import Derived.Test.YtcikndmmbfompaaGreatDoorFlEntry
import Derived.Test.YtcikndmmbfompaaGreatDoorFlEdge
namespace Go.Proofs.YtcikndmmbfompaaGreatDoor
open Go.ChangeShapes Go.WideShapes Go.ChangeAt Go.RowKit Go.Deep
open Go.ChangeMaps (open_string)

set_option maxRecDepth 100000 in
theorem Tryz.own : ownKnob Tryz.prog.godebug = none := by kernel_rfl
set_option maxRecDepth 100000 in
theorem Tryz.laidOut : laidOutB Tryz.prog = true := by kernel_rfl

set_option maxRecDepth 100000 in
theorem openStr {H : Type} {enc : TypeId × Value → H} {W : World} {base : Nat} {spare : Nat → Bool} {held : Bool} {v : Value} {d : DataW H} {ps : List MemPlace} {b0 : Nat} {r : Reach} (t : TypeId) (ht : Tryz.prog.underlying t = some .string)
    (hv : Value.okWide Tryz.prog W r b0 t v) (h : DataW.Trod enc Tryz.prog W base spare held t v d ps) : ∃ s : ByteArray, v = .string s ∧ s.size ≤ maxLen := by
  obtain ⟨s, rfl, _, _, hs⟩ := open_string ht hv h
  exact ⟨s, rfl, hs⟩

set_option maxRecDepth 100000 in
theorem openInt {H : Type} {enc : TypeId × Value → H} {W : World} {base : Nat} {spare : Nat → Bool} {held : Bool} {v : Value} {d : DataW H} {ps : List MemPlace} {b0 : Nat} {r : Reach} (t : TypeId) (ht : Tryz.prog.underlying t = some (.int .i64))
    (hv : Value.okWide Tryz.prog W r b0 t v) (h : DataW.Trod enc Tryz.prog W base spare held t v d ps) : ∃ n, v = .int .i64 n ∧ (Lit.int .i64 n).wf = true := by
  obtain ⟨n, rfl, _, _, hn⟩ := open_int ht hv h
  exact ⟨n, rfl, hn⟩

set_option maxRecDepth 100000 in
theorem openPEntry {H : Type} {enc : TypeId × Value → H} {W : World} {base : Nat} {spare : Nat → Bool} {held : Bool} {v : Value} {d : DataW H} {ps : List MemPlace} {b0 : Nat} {r : Reach}
    (hv : Value.okWide Tryz.prog W r b0 65 v) (h : DataW.Trod enc Tryz.prog W base spare held 65 v d ps) : ∃ x : DEntry, v = .agg #[.string x.word, .int .i64 x.cost] ∧ goodEntry x := by
  obtain ⟨cs, rfl, _⟩ := okWide_struct Tryz.underlying65 hv
  obtain ⟨x, hx, hg⟩ := decEntry W _ (rd_of_trod h)
  obtain ⟨l⟩ := cs
  simp only [Value.cells] at hx
  subst hx
  exact ⟨x, rfl, hg⟩
end Go.Proofs.YtcikndmmbfompaaGreatDoor
