/- Texts: strings.Builder by the shelf's contracts, concatenation, lists of lines. -/
import Derived.Test.YtldmphkakkggaaaDoorTxDec
import Derived.Lib.ItoaLen

namespace Go.Proofs.YtldmphkakkggaaaDoor
open Go.RowKit

theorem okN_of {n : Int} (h : (Lit.int .i64 n).wf = true) : okN n := by
  have e1 : IntKind.i64.min = -9223372036854775808 := by decide
  have e2 : IntKind.i64.max = 9223372036854775807 := by decide
  rw [Lit.wf, Bool.and_eq_true, decide_eq_true_iff, decide_eq_true_iff, e1, e2] at h
  exact h
theorem addStr (a b : ByteArray) (h : a.size + b.size ≤ 9223372036854775807) (w : World) : (binOp .add 9 (.string a) (.string b)).run Tryd.prog w = .ok (.string (a ++ b)) w := by
  simp [go_sem, h]
theorem decS_size {n : Int} (h : okN n) : (decS n).size ≤ 21 := by
  show (Lib.itoa n).toArray.size ≤ 21
  have := Lib.itoa_length_le n h.1 h.2
  simpa using this
theorem decS_list (n : Int) : (decS n).data.toList = Lib.itoa n := by simp [decS]
theorem app_list (a b : ByteArray) : (a ++ b).data.toList = a.data.toList ++ b.data.toList := by simp
theorem size_list (a : ByteArray) : a.size = a.data.toList.length := by
  rw [Array.length_toList]; rfl
def ofL (l : List UInt8) : ByteArray := ⟨l.toArray⟩
theorem ofL_list (l : List UInt8) : (ofL l).data.toList = l := by simp [ofL]
theorem ofL_app (l : List UInt8) (s : ByteArray) : ofL l ++ s = ofL (l ++ s.data.toList) := by
  apply baS_eq2
  rw [app_list, ofL_list, ofL_list]
theorem ofL_size (l : List UInt8) : (ofL l).size = l.length := by rw [size_list, ofL_list]
theorem flat_len {α : Type} (f : α → List UInt8) (c : Nat) : ∀ (x : List α), (∀ e ∈ x, (f e).length ≤ c) → (x.flatMap f).length ≤ c * x.length
  | [], _ => by simp
  | a :: t, h => by
    have h1 := flat_len f c t fun e he => h e (List.mem_cons_of_mem _ he)
    have h2 := h a List.mem_cons_self
    rw [List.flatMap_cons, List.length_append, List.length_cons, Nat.mul_succ]
    omega
theorem flat_take {α : Type} (f : α → List UInt8) {x : List α} {k : Nat} {e : α} (h : x[k]? = some e) : (x.take (k + 1)).flatMap f = (x.take k).flatMap f ++ f e := by
  rw [List.take_add_one, h]; simp
abbrev Bld (B b : Nat) (L : List UInt8) (w : World) : Prop := Lib.IsBuilder 85 5 B b (Lib.byteCells L) w
theorem Bld.later {B b : Nat} {L : List UInt8} {w w' : World} (h : Bld B b L w) (hb : Below w.heap.size w w') : Bld B b L w' := by
  have key : ∀ p, Lib.BuilderAt 85 5 B b p (Lib.byteCells L) w → Lib.BuilderAt 85 5 B b p (Lib.byteCells L) w' := fun p ⟨h1, v, h2, h3, h4⟩ => by
    refine ⟨h1, v, (hb.block b (Array.getElem?_eq_some_iff.1 h2).1).trans h2, ⟨h3.1, ?_⟩, h4⟩
    rcases h3.2 with h5 | ⟨g, cap, cur, hv, hB, hg, rest⟩
    · exact .inl h5
    · exact .inr ⟨g, cap, cur, hv, hB, (hb.block g (Array.getElem?_eq_some_iff.1 hg).1).trans hg, rest⟩
  exact h.imp (key _) (key _)
theorem bldNew (w : World) : Bld w.heap.size w.heap.size [] (w.alloc (.cells #[.pointer none, .slice none 0 0] 85)) := Lib.fresh_isBuilder _ _ w
theorem bldWrite (B b : Nat) (L : List UInt8) (s : ByteArray) (w : World) (h : Bld B b L w) (hl : L.length + s.size ≤ 140737488355328) (hB : B ≤ w.heap.size) :
    Calls Tryd.prog 45 #[.pointer (some ⟨b, 0, none⟩), .string s] w fun e w' => e = .returned (.tuple #[.int .i64 s.size, .nilIface]) ∧ Bld B b (L ++ s.data.toList) w' ∧ Below B w w' := by
  have hc := Any.Builder_WriteString { Tryd.lays156 with } Tryd.Builder_Extra_156 B b (Lib.byteCells L) s w h (by rw [Lib.byteCells_length]; exact hl) hB
  refine Calls.mono hc fun e w' ⟨h1, h2, h3⟩ => ⟨h1, ?_, h3⟩
  refine .inr ?_
  have e2 : Lib.byteCells (L ++ s.data.toList) = Lib.byteCells L ++ Lib.strCells s := by rw [Lib.byteCells_append]; rfl
  rw [e2]
  exact h2
theorem bldString (B b : Nat) (L : List UInt8) (w : World) (h : Bld B b L w) (hB : B ≤ w.heap.size) :
    Calls Tryd.prog 46 #[.pointer (some ⟨b, 0, none⟩)] w fun e w' => e = .returned (.string (ofL L)) ∧ Below B w w' := Tryd.Builder_String_any B b L w h hB
end Go.Proofs.YtldmphkakkggaaaDoor
