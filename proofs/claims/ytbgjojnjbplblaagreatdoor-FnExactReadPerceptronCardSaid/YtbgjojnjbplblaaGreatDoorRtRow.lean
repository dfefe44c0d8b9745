/- The tables and errors that a row over texts that are read lists: a world that holds them, and what the list gives a walk. -/
import Derived.Test.YtbgjojnjbplblaaGreatDoorRows
import Derived.Test.YtbgjojnjbplblaaGreatDoorTie
import Derived.Test.YtbgjojnjbplblaaGreatDoorCards
import Derived.Test.YtbgjojnjbplblaaGreatDoorRtNum
import Derived.ChangeSame
import Derived.ChangeVars
import Derived.JoinedOf
import Derived.LaidLaws
import Derived.LaidHandle
import Derived.LaidSub
import Derived.Lib.LaidTab
import Derived.Stop.Joined
import Derived.SevenTiedAt
import Derived.Stop.LaidErr
import Derived.Handed
namespace Go.Proofs.YtbgjojnjbplblaaGreatDoor
open Go.RowKit

def laidR : List (String × DataW Unit) := [("math/bits.deBruijn32tab", Rows.laid_math_bits_deBruijn32tab), ("math/bits.deBruijn64tab", Rows.laid_math_bits_deBruijn64tab), ("internal/strconv.uint64pow10", Rows.laid_internal_strconv_uint64pow10), ("unicode/utf8.acceptRanges", Rows.laid_unicode_utf8_acceptRanges), ("strconv.ErrRange", Rows.laid_strconv_ErrRange), ("strconv.ErrSyntax", Rows.laid_strconv_ErrSyntax), ("unicode/utf8.first", Rows.laid_unicode_utf8_first)]
noncomputable def flatCells : DataW Unit → List Value
  | .agg xs => xs.flatMap fun x => match x with
    | .lit (.int k z) => [Value.int k z]
    | .agg ys => ys.map fun y => match y with | .lit (.int k z) => Value.int k z | _ => .int .u8 0
    | _ => [.int .u8 0]
  | _ => []
noncomputable def putTab (h : Array Obj) (g : Nat) (c : Array Value) : Array Obj := h.modify g fun
  | .cells _ t frozen => .cells c t frozen
  | o => o
abbrev synS : ByteArray := { data := #[105, 110, 118, 97, 108, 105, 100, 32, 115, 121, 110, 116, 97, 120] }
abbrev rngS : ByteArray := { data := #[118, 97, 108, 117, 101, 32, 111, 117, 116, 32, 111, 102, 32, 114, 97, 110, 103, 101] }
/-- So many blocks has the settled world. -/
noncomputable def lowR : Nat := (World.holding Tryz.prog default ⟨#[], #[], []⟩).heap.size
noncomputable def laidWorld (os : Os) : World :=
  let w0 := World.holding Tryz.prog os ⟨#[.cells #[.string synS] 134, .cells #[.string rngS] 134], #[], []⟩
  let h1 := putTab (putTab (putTab w0.heap 6 (flatCells Rows.laid_math_bits_deBruijn32tab).toArray) 7 (flatCells Rows.laid_math_bits_deBruijn64tab).toArray) 3 (flatCells Rows.laid_internal_strconv_uint64pow10).toArray
  let h2 := putTab (putTab h1 5 (flatCells Rows.laid_unicode_utf8_acceptRanges).toArray) 4 (flatCells Rows.laid_unicode_utf8_first).toArray
  { w0 with heap := putTab (putTab h2 0 #[.iface 132 (.pointer (some ⟨lowR, 0, none⟩))]) 1 #[.iface 132 (.pointer (some ⟨lowR + 1, 0, none⟩))] }
set_option maxRecDepth 100000 in
theorem laid_met (os : Os) (args : Array Value) : laidMetH Tryz.prog laidR ((laidWorld os).forCall (fun _ _ => 0) ⟨#[], args, []⟩).memory :=
  laidMetH_of_parts (laidMet_of_run' 8 (by kernel_rfl) (by kernel_rfl)) (by kernel_rfl)
theorem gES : Tryz.prog.globalNamed "strconv.ErrSyntax" = some 0 := by kernel_rfl
theorem gESType : (Tryz.prog.globals[0]?).map (·.type) = some 68 := by kernel_rfl
theorem cellsES : Tryz.prog.cellsOf 134 = 1 := by kernel_rfl
theorem cellsStr : Tryz.prog.cellsOf 9 = 1 := by kernel_rfl
theorem starES : "*" ++ "errors.errorString" = "*errors.errorString" := by decide
theorem rowES (u : TypeId) (h : Tryz.prog.typeName? 3 u = some "*errors.errorString") : u = 132 :=
  typeName_ptr_named (nm := "errors.errorString") (by rw [starES]; kernel_rfl) (by kernel_rfl) (by decide) u (by rw [starES]; exact h)
theorem tabR_of_laid {W : World} (h : laidMetH Tryz.prog laidR W) (hsh : W.ShapedOpen Tryz.prog) : TabR W := by
  have h1 : laidMet Tryz.prog laidR W := (laidMetH_iff.1 h).1
  have h3 := laidMet.tail (laidMet.tail h1)
  have h6 := laidMet.tail (laidMet.tail (laidMet.tail h3))
  refine ⟨Lib.tabIs_of_head gPow (by kernel_rfl) Tryz.underlying136 Tryz.underlying106 (by kernel_rfl) (by kernel_rfl) (show laidMet Tryz.prog (("internal/strconv.uint64pow10", Lib.tabData .u64 Lib.pow10Tab) :: _) W from h3), ?_, Tryz.laysM146.s1_3 W hsh⟩
  obtain ⟨a0, s0, hv0, _, _, _⟩ := laid_sentinel h6 gES gESType Tryz.underlying68 rowES Tryz.underlying132 Tryz.underlying134 rfl rfl Tryz.underlying9 cellsES cellsStr
  have h0 := World.var?_cell gES hv0 0
  exact ⟨_, _, by simpa using h0⟩

/-- as the kit's rule for a row of one call, with the world's shape handed on -/
theorem returnsInHanded_of_change_andS {H : Type} {enc : TypeId × Value → H} {a : Assume} {C : Checked} {os : Os} {f : FuncId} {fn : Func} {s : ChangeSpec} {conds : List PathCond} {apart fresh handsOn again : Bool} {X : World → Array Value → Prop}
    (hX : ∀ (w w' : World) (args : Array Value), w.heap = w'.heap → X w args → X w' args)
    (own : ownKnob C.prog.godebug = none) (started : os.Started) (noInit : C.prog.inits.idxOf? f = none) (hfn : C.prog.funcs[f]? = some fn)
    (witness : ∃ (w : World) (tape : Tape) (i : Input), w.os = os ∧ (w.forCall tape i).Shaped C.prog ∧ i.vars = [] ∧ Input.okWide C.prog (w.forCall tape i) .any w.heap.size f i ∧
      ((s.pre enc C.prog fn conds apart (w.forCall tape i).memory i.args ∧ X (w.forCall tape i).memory i.args) ∧ sizedMet enc C.prog fn (OpenSpec.ofChange s) apart (w.forCall tape i).memory i.args) ∧ a.holds C.prog (lone (Frame.enter C.prog f i.args .normal) [] (w.forCall tape i)))
    (contract : ∀ (W : World) (base : Nat) (args : Array Value) (ds gs : List (DataW H)) (before : List MemPlace), W.ShapedOpen C.prog →
      (∀ (j : Nat) t v, fn.params[j]? = some t → args[j]? = some v → Value.okWide C.prog W .any base t v) →
      DataW.Whole enc C.prog fn.params.toList s.vars apart W args.toList ds gs before →
      conds.all (PathCond.test C.prog ⟨fn.params.toList, ds, s.plain.varTypes C.prog, gs⟩) = true →
      (DataW.weightsEach C.prog (fn.params.toList ++ s.plain.varTypes C.prog) (ds ++ gs)).all (· ≤ reachBytes) = true → X W args →
      a.holds C.prog (lone (Frame.enter C.prog f args .normal) [] W) →
      Calls C.prog f args W fun e W' => ∃ v, e = .returned v ∧ s.post enc C.prog fn apart fresh handsOn again W args v W') :
    ReturnsInHanded a C os f .any (fun w args => (s.pre enc C.prog fn conds apart w args ∧ X w args) ∧ sizedMet enc C.prog fn (OpenSpec.ofChange s) apart w args) (s.post enc C.prog fn apart fresh handsOn again) := by
  refine returnsInHanded_of_calls own started noInit witness ?_
  intro w tape i _ hsh _ hok hpre hholds
  obtain ⟨_, _, _, fn', hfn', _, _, _, _, hval⟩ := hok
  have e : fn' = fn := Option.some.inj (hfn'.symm.trans hfn)
  subst e
  obtain ⟨⟨⟨ds, gs, before, hw, hc⟩, hx⟩, hz⟩ := hpre
  have hw' := DataW.Whole.of_heap (w' := w.forCall tape i) (by rfl) hw
  refine (contract (w.forCall tape i) w.heap.size i.args ds gs before hsh hval hw' hc (hz.weights hw) (hX _ _ _ (by rfl) hx) hholds).mono fun e W' ⟨v, he, hp⟩ => ?_
  subst he
  exact ChangeSpec.post_blind hp
end Go.Proofs.YtbgjojnjbplblaaGreatDoor
