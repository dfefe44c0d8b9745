/- A box of one slice that a call puts together, element by element. Plain lemmas. -/
import Derived.Test.YtbgjojnjbplblaaGreatDoorApp
import Derived.Test.YtbgjojnjbplblaaGreatDoorAppO
import Derived.Test.YtbgjojnjbplblaaGreatDoorRtSpec
namespace Go.Proofs.YtbgjojnjbplblaaGreatDoor
open Go.RowKit

/-- its box holds a slice that the call owns -/
def FinX {α : Type} (E : Enc α) (e T : TypeId) (q : Nat) (w0 : World) (z : List α) (w : World) : Prop := ∃ u, Box w q #[u] T ∧ Own E e (q + 1) w u z ∧ Below q w0 w
theorem FinX.below {α : Type} {E : Enc α} {e T : TypeId} {q : Nat} {w0 w w' : World} {z : List α} (h : FinX E e T q w0 z w) (hb : Below w.heap.size w w') : FinX E e T q w0 z w' := by
  obtain ⟨u, h1, h2, h3⟩ := h
  exact ⟨u, h1.later hb, h2.below hb, h3.trans (hb.mono (Nat.le_of_lt h1.lt))⟩
theorem grownBoxX {w w' : World} {q : Nat} {cs : Array Value} {T : TypeId} {r : Option Nat} (h : Box w q cs T) (hg : w.grownBy w' r) (hne : r ≠ some q) : Box w' q cs T := (hg.block q h.lt (fun e => hne e.symm)).trans h
/-- a list of strings that lies where nothing turns -/
theorem own_str {B : Nat} {w : World} {u : Value} {x : List ByteArray} (h : Own eStr 9 B w u x) {k : Nat} {a : ByteArray} (hk : x[k]? = some a) : ∃ g cap, u = .slice (some ⟨g, 0, none⟩) x.length cap ∧ g < w.heap.size ∧ w.cell? ⟨g, k, none⟩ = some (.string a) := by
  have hl := (List.getElem?_eq_some_iff.1 hk).1
  rcases h.shape with ⟨_, h0⟩ | ⟨g, cap, hv, _, hg⟩
  · subst h0; simp at hl
  · subst hv
    obtain ⟨b, off, ao, c, hv', _, _, hao, hc⟩ := h.arr
    simp only [Value.slice.injEq] at hv'
    obtain ⟨rfl, _, rfl⟩ := hv'
    obtain ⟨h1, _⟩ := hao (by omega)
    cases h1
    have := eStr_cell hc hk
    rw [Nat.zero_add] at this
    exact ⟨g, cap, rfl, hg, this⟩
theorem Own.typedR {α : Type} {E : Enc α} {e : TypeId} {B : Nat} {w w' : World} {v : Value} {xs : List α} {ty : TypeId → Bool} (h : Own E e B w v xs) (ht : Typed ty w w') (hT : ty e = false) : Own E e B w' v xs := by
  obtain ⟨h1, h2⟩ := h
  refine ⟨h1, ?_⟩
  rcases h2 with h2 | ⟨g, cap, cur, hv, hb, hg, r⟩
  · exact .inl h2
  · exact .inr ⟨g, cap, cur, hv, hb, ht g cur e (0, 0) hg hT, r⟩
theorem ofS_get {P : List (List UInt8)} {k : Nat} {p : List UInt8} (h : P[k]? = some p) : (ofS P)[k]? = some ⟨p.toArray⟩ := by unfold ofS; rw [List.getElem?_map, h]; rfl
theorem ofS_at {P : List (List UInt8)} {k : Nat} {a : ByteArray} (h : (ofS P)[k]? = some a) : P[k]? = some a.data.toList := by
  unfold ofS at h
  rw [List.getElem?_map] at h
  cases hp : P[k]? with
  | none => rw [hp] at h; cases h
  | some p => rw [hp] at h; obtain rfl := Option.some.inj h; simp
end Go.Proofs.YtbgjojnjbplblaaGreatDoor
