/- A slice that the call owns, sorted by slices.SortFunc: the same slice owns a sorted permutation. Plain lemmas on the model, no program. -/
import Derived.Test.YtnhmailnnggmjaaApp2
import Derived.Shelf.SlSortCmp.NoneTotal
namespace Go.Proofs.Ytnhmailnnggmjaa
open Go.RowKit Go.Sort

theorem flatK_flat {α : Type} [Inhabited α] (E : Enc α) (d : Array α) : (flatK E.row E.sz d).toList = E.flat d.toList := by
  apply List.ext_getElem?
  intro t
  rw [Enc.flat_get']
  by_cases ht : t < d.size * E.sz
  · have hpos : 0 < E.sz := E.pos
    have hlt : t / E.sz < d.size := by rw [Nat.div_lt_iff_lt_mul hpos]; exact ht
    have e1 : (flatK E.row E.sz d).toList[t]? = some (flatK E.row E.sz d)[t]! := by
      have hz : t < (flatK E.row E.sz d).size := by rw [size_flatK]; exact ht
      rw [Array.getElem?_toList, Array.getElem?_eq_getElem hz, getElem!_pos (flatK E.row E.sz d) t hz]
    rw [e1, get_flatK _ _ _ t ht]
    have e2 : d.toList[t / E.sz]? = some d[t / E.sz]! := by
      rw [Array.getElem?_toList, Array.getElem?_eq_getElem hlt, getElem!_pos d (t / E.sz) hlt]
    rw [e2]
    have hm : t % E.sz < (E.row d[t / E.sz]!).length := by rw [E.len]; exact Nat.mod_lt _ hpos
    simp [List.getElem?_eq_getElem hm]
  · have e1 : (flatK E.row E.sz d).toList[t]? = none := by
      rw [Array.getElem?_toList, Array.getElem?_eq_none (by rw [size_flatK]; omega)]
    rw [e1]
    rcases Nat.eq_zero_or_pos E.sz with h | h
    · have := E.pos; omega
    · have : d.size ≤ t / E.sz := by rw [Nat.le_div_iff_mul_le h]; omega
      rw [List.getElem?_eq_none (by simpa using this)]; rfl
theorem heap_sortK {w : World} {g n : Nat} {os : Array Obj} {cur : Array Value} {e : TypeId} {fr : Nat × Nat} (F : Array Value) (hb : w.heap[g]? = some (.cells cur e fr)) :
    (grow (putRow id (Sort.ahead w n) g 0 F) os).heap[g]? = some (.cells (putCells id 0 F cur) e fr) := by
  have hg : g < w.heap.size := (Array.getElem?_eq_some_iff.1 hb).1
  rw [heap_grow_old _ _ (by simpa using hg)]
  simp [putRow, mapBlock, Sort.ahead, Array.getElem?_modify, hb, onCells]
theorem grownBy_sortK {w : World} {g n : Nat} {os : Array Obj} (F : Array Value) : w.grownBy (grow (putRow id (Sort.ahead w n) g 0 F) os) (some g) := by
  refine ⟨rfl, rfl, rfl, by simp, fun k hk hne => ?_⟩
  rw [heap_grow_old _ _ (by simpa using hk)]
  have : g ≠ k := fun e => hne (by rw [e])
  simp [putRow, mapBlock, Sort.ahead, Array.getElem?_modify, this]
theorem take_putCellsK (cur F : Array Value) (h : F.size ≤ cur.size) : (putCells id 0 F cur).toList.take F.size = F.toList := by
  apply List.ext_getElem?
  intro j
  by_cases hj : j < F.size
  · rw [List.getElem?_take_of_lt hj, Array.getElem?_toList]
    simp [putCells, hj, show j < cur.size by omega]
  · rw [List.getElem?_take_eq_none (by omega), List.getElem?_eq_none (by simp; omega)]
theorem own_holds {α : Type} [Inhabited α] {E : Enc α} {e : TypeId} {B g cap n : Nat} {w : World} {X : List α} (h : Own E e B w (.slice (some ⟨g, 0, none⟩) n cap) X) (hn : n = X.length) : HoldsK E.row E.sz w g 0 X.toArray := by
  subst hn
  intro j hj
  have hj' : j < X.length * E.sz := by simpa using hj
  refine ⟨?_, ?_⟩
  · rw [Nat.zero_add, World.ownsRow.cellAt h _ hj']
    have e1 := flatK_flat E X.toArray
    have : (flatK E.row E.sz X.toArray)[j]! = (flatK E.row E.sz X.toArray)[j] := getElem!_pos _ j (by simpa using hj')
    rw [this]
    have e2 : (E.flat X)[j]? = some ((flatK E.row E.sz X.toArray)[j]'(by simpa using hj')) := by
      rw [← (show (flatK E.row E.sz X.toArray).toList = E.flat X from e1), Array.getElem?_toList, Array.getElem?_eq_getElem]
    rw [e2]; rfl
  · rw [Nat.zero_add]; exact h.free rfl _
theorem own_sorted {α : Type} [Inhabited α] {E : Enc α} {e : TypeId} {B g cap k n : Nat} {w : World} {X Y : List α} {os : Array Obj} (h : Own E e B w (.slice (some ⟨g, 0, none⟩) k cap) X) (hk : k = X.length) (hl : Y.length = X.length) :
    Own E e B (sortWorldK E.row E.sz w g 0 n Y.toArray os) (.slice (some ⟨g, 0, none⟩) k cap) Y ∧ w.grownBy (sortWorldK E.row E.sz w g 0 n Y.toArray os) (some g) := by
  subst hk
  obtain ⟨h1, h2⟩ := h
  refine ⟨?_, grownBy_sortK _⟩
  rcases h2 with ⟨h0, _⟩ | ⟨g', cap', cur, hv, hg, hb, hn, hc, hs, ht⟩
  · cases h0
  cases hv
  have e1 : (flatK E.row E.sz Y.toArray).toList = E.flat Y := flatK_flat E Y.toArray
  have hF : (flatK E.row E.sz Y.toArray).size = X.length * E.sz := by simp [hl]
  have hle : (flatK E.row E.sz Y.toArray).size ≤ cur.size := by rw [hF, hs]; exact Nat.mul_le_mul_right _ hn
  refine ⟨by rw [E.flat_len, hl], .inr ⟨g, cap, _, by rw [hl], hg, heap_sortK _ hb, by rw [hl]; exact hn, hc, by simp [putCells, hs], ?_⟩⟩
  have := take_putCellsK cur _ hle
  rw [hF, ← hl] at this
  rw [this, e1]
end Go.Proofs.Ytnhmailnnggmjaa
