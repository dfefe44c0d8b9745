/- Arrays of integers that a call owns: reading, writing, making. -/
import Derived.Test.YtnhmailnnggmjaaCmp
namespace Go.Proofs.Ytnhmailnnggmjaa
open Go.RowKit

theorem ownI_set {e : TypeId} {B g cap n : Nat} {w : World} {xs : List Int} (h : Own eInt e B w (.slice (some ⟨g, 0, none⟩) n cap) xs) (hn : n = xs.length) {k : Nat} (hk : k < n) (u : Int) :
    Own eInt e B (w.setCell ⟨g, k, none⟩ (.int .i64 u)) (.slice (some ⟨g, 0, none⟩) n cap) (xs.set k u) ∧ w.grownBy (w.setCell ⟨g, k, none⟩ (.int .i64 u)) (some g) := by
  have := h.set hn k (by omega) u
  simpa [storesAt, eInt] using this
theorem ownI_get {e : TypeId} {B g cap n : Nat} {w : World} {xs : List Int} (h : Own eInt e B w (.slice (some ⟨g, 0, none⟩) n cap) xs) (hn : n = xs.length) {k : Nat} {u : Int} (hk : xs[k]? = some u) :
    w.cell? ⟨g, k, none⟩ = some (.int .i64 u) := by
  subst hn
  have hlt := (List.getElem?_eq_some_iff.1 hk).1
  have h1 : (eInt.flat xs)[k]? = some (.int .i64 u) := by
    have := eInt.flat_get xs k u 0 hk (by decide)
    simpa [eInt] using this
  have h2 : k < xs.length * eInt.sz := by show k < xs.length * 1; omega
  rw [World.ownsRow.cellAt h _ h2, h1]
theorem ownI_below {e : TypeId} {g cap n B : Nat} {w w1 : World} {k : Nat} {u : Int} {xs : List Int} (h : Own eInt e B w1 (.slice (some ⟨g, 0, none⟩) n cap) xs) (hn : n = xs.length) (hk : k < n) (hb : Below B w w1) :
    Own eInt e B (w1.setCell ⟨g, k, none⟩ (.int .i64 u)) (.slice (some ⟨g, 0, none⟩) n cap) (xs.set k u) ∧ Below B w (w1.setCell ⟨g, k, none⟩ (.int .i64 u)) :=
  ⟨(ownI_set h hn hk u).1, hb.setCell h.lt.1 _⟩
theorem infoInt : (Try.prog.info? 2).map (fun i => (i.zero, i.size, i.bytes)) = some (some (.int .i64 0), 1, 8) := by kernel_rfl
theorem set_len {xs : List Int} {k : Nat} {u : Int} {n : Nat} (h : n = xs.length) : n = (xs.set k u).length := by simpa using h
end Go.Proofs.Ytnhmailnnggmjaa
