/- A list put together by inserting each element behind what is not greater is the sorted list; where no two elements are alike there is one sorted list. Plain lemmas, no program. -/
import Derived.Test.YtcikndmmbfompaaGreatDoorBase
import Derived.Sort.Statements
import Derived.Test.YtcikndmmbfompaaGreatDoorApp
import Derived.Shelf.SlSortCmp.NoneTotal
namespace Go.Proofs.YtcikndmmbfompaaGreatDoor
open Go.Sort

/-- where an element belongs, looked for from the place k down -/
def posE {α : Type} (lt : α → α → Bool) (f : α) (out : List α) : Nat → Nat
  | 0 => 0
  | k + 1 => match out[k]? with
    | some a => if lt f a then posE lt f out k else k + 1
    | none => k + 1
def insE {α : Type} (lt : α → α → Bool) (out : List α) (f : α) : List α := out.take (posE lt f out out.length) ++ f :: out.drop (posE lt f out out.length)
theorem posE_le {α : Type} (lt : α → α → Bool) (f : α) (out : List α) : ∀ k, posE lt f out k ≤ k
  | 0 => Nat.le_refl _
  | k + 1 => by
    unfold posE
    split
    · split
      · have := posE_le lt f out k; omega
      · exact Nat.le_refl _
    · exact Nat.le_refl _
theorem posE_above {α : Type} (lt : α → α → Bool) (f : α) (out : List α) : ∀ k, k ≤ out.length → ∀ i a, posE lt f out k ≤ i → i < k → out[i]? = some a → lt f a = true
  | 0, _, i, a, _, h, _ => by omega
  | k + 1, hk, i, a, h1, h2, ha => by
    unfold posE at h1
    obtain ⟨b, hb⟩ : ∃ b, out[k]? = some b := ⟨_, List.getElem?_eq_getElem (by omega)⟩
    simp only [hb] at h1
    by_cases hl : lt f b = true
    · rw [if_pos hl] at h1
      by_cases e : i = k
      · subst e; rw [hb] at ha; cases ha; exact hl
      · exact posE_above lt f out k (by omega) i a h1 (by omega) ha
    · rw [if_neg hl] at h1; omega
theorem posE_stop {α : Type} (lt : α → α → Bool) (f : α) (out : List α) : ∀ k, k ≤ out.length → ∀ a, 0 < posE lt f out k → out[posE lt f out k - 1]? = some a → lt f a = false
  | 0, _, a, h, _ => by simp [posE] at h
  | k + 1, hk, a, h, ha => by
    obtain ⟨b, hb⟩ : ∃ b, out[k]? = some b := ⟨_, List.getElem?_eq_getElem (by omega)⟩
    by_cases hl : lt f b = true
    · have e : posE lt f out (k + 1) = posE lt f out k := by rw [posE]; simp only [hb]; rw [if_pos hl]
      rw [e] at h ha
      exact posE_stop lt f out k (by omega) a h ha
    · have e : posE lt f out (k + 1) = k + 1 := by rw [posE]; simp only [hb]; rw [if_neg hl]
      rw [e, Nat.add_sub_cancel, hb] at ha
      cases ha
      simpa using hl
/-- no later one is less than an earlier one -/
def Up {α : Type} (lt : α → α → Bool) (l : List α) : Prop := l.Pairwise fun a b => lt b a = false
theorem insE_perm {α : Type} (lt : α → α → Bool) (out : List α) (f : α) : (insE lt out f).Perm (f :: out) := by
  unfold insE
  refine List.perm_middle.trans (List.Perm.cons f ?_)
  rw [List.take_append_drop]
theorem insE_len {α : Type} (lt : α → α → Bool) (out : List α) (f : α) : (insE lt out f).length = out.length + 1 := by
  rw [(insE_perm lt out f).length_eq]; rfl
theorem insE_up {α : Type} {lt : α → α → Bool} (hO : SWO lt) {out : List α} (h : Up lt out) (f : α) : Up lt (insE lt out f) := by
  unfold insE
  generalize hp : posE lt f out out.length = p
  have hple : p ≤ out.length := by rw [← hp]; exact posE_le _ _ _ _
  have habove : ∀ a ∈ out.drop p, lt f a = true := by
    intro a ha
    obtain ⟨i, hi⟩ := List.mem_iff_getElem?.1 ha
    rw [List.getElem?_drop] at hi
    exact posE_above lt f out out.length (Nat.le_refl _) (p + i) a (by omega) (List.getElem?_eq_some_iff.1 hi).1 hi
  have hasy : ∀ a, lt f a = true → lt a f = false := by
    intro a ha
    cases hb : lt a f with
    | false => rfl
    | true => have := hO.trans _ _ _ ha hb; rw [hO.irrefl] at this; cases this
  have hbelow : ∀ a ∈ out.take p, lt f a = false := by
    intro a ha
    obtain ⟨i, hi⟩ := List.mem_iff_getElem?.1 ha
    rw [List.getElem?_take] at hi
    split at hi
    · rename_i hip
      obtain ⟨b, hb⟩ : ∃ b, out[p - 1]? = some b := ⟨_, List.getElem?_eq_getElem (by omega)⟩
      have hs := posE_stop lt f out out.length (Nat.le_refl _) b (by omega) (by rw [hp]; exact hb)
      by_cases e : i = p - 1
      · subst e; rw [hb] at hi; cases hi; exact hs
      · obtain ⟨i1, r1⟩ := List.getElem?_eq_some_iff.1 hi
        obtain ⟨i2, r2⟩ := List.getElem?_eq_some_iff.1 hb
        subst r1; subst r2
        have hu := List.pairwise_iff_getElem.1 h i (p - 1) i1 i2 (by omega)
        exact hO.ntrans _ _ _ hs hu
    · cases hi
  have h0 : Up lt (out.take p ++ out.drop p) := by rw [List.take_append_drop]; exact h
  obtain ⟨h1, h2, h3⟩ := List.pairwise_append.1 h0
  refine List.pairwise_append.2 ⟨h1, List.pairwise_cons.2 ⟨fun a ha => hasy a (habove a ha), h2⟩, fun a ha b hb => ?_⟩
  rcases List.mem_cons.1 hb with rfl | hb
  · exact hbelow a ha
  · exact h3 a ha b hb
theorem fold_ins {α : Type} {lt : α → α → Bool} (hO : SWO lt) : ∀ (l out : List α), Up lt out → Up lt (l.foldl (insE lt) out) ∧ (l.foldl (insE lt) out).Perm (l ++ out)
  | [], out, h => ⟨h, List.Perm.refl _⟩
  | f :: l, out, h => by
    have ih := fold_ins hO l _ (insE_up hO h f)
    refine ⟨ih.1, ih.2.trans ?_⟩
    refine (List.Perm.append_left l (insE_perm lt out f)).trans ?_
    exact List.perm_middle
/-- there is one sorted list -/
theorem up_unique {α : Type} {lt : α → α → Bool} : ∀ (l m : List α), l.Perm m → Up lt l → Up lt m → (∀ a ∈ l, ∀ b ∈ l, lt a b = false → lt b a = false → a = b) → l = m
  | [], m, hp, _, _, _ => by rw [List.nil_perm] at hp; exact hp.symm
  | a :: l, m, hp, h1, h2, hd => by
    cases m with
    | nil => exact absurd hp.length_eq (by simp)
    | cons b m =>
      have ha : a ∈ b :: m := hp.subset List.mem_cons_self
      have hb : b ∈ a :: l := hp.symm.subset List.mem_cons_self
      have e : a = b := by
        rcases List.mem_cons.1 ha with e | ha'
        · exact e
        · rcases List.mem_cons.1 hb with e | hb'
          · exact e.symm
          · exact hd a List.mem_cons_self b (List.mem_cons_of_mem _ hb') ((List.pairwise_cons.1 h2).1 a ha') ((List.pairwise_cons.1 h1).1 b hb')
      subst e
      rw [up_unique l m (List.Perm.cons_inv hp) (List.pairwise_cons.1 h1).2 (List.pairwise_cons.1 h2).2 (fun x hx y hy => hd x (List.mem_cons_of_mem _ hx) y (List.mem_cons_of_mem _ hy))]
end Go.Proofs.YtcikndmmbfompaaGreatDoor
namespace Go.Proofs.YtcikndmmbfompaaGreatDoor
open Go.RowKit Go.Sort

theorem flatK_flat {α : Type} [Inhabited α] (E : Enc α) (d : Array α) : (flatK E.row E.sz d).toList = E.flat d.toList := by
  apply List.ext_getElem?
  intro t
  rw [Enc.flat_get']
  by_cases ht : t < d.size * E.sz
  · have hpos : 0 < E.sz := E.pos
    have hlt : t / E.sz < d.size := by rw [Nat.div_lt_iff_lt_mul hpos]; exact ht
    have e1 : (flatK E.row E.sz d).toList[t]? = some (flatK E.row E.sz d)[t]! := by
      have hz : t < (flatK E.row E.sz d).size := by rw [size_flatK]; exact ht
      rw [Array.getElem?_toList, Array.getElem?_eq_getElem hz, getElem!_pos (flatK E.row E.sz d) t hz]
    rw [e1, get_flatK _ _ _ t ht]
    have e2 : d.toList[t / E.sz]? = some d[t / E.sz]! := by
      rw [Array.getElem?_toList, Array.getElem?_eq_getElem hlt, getElem!_pos d (t / E.sz) hlt]
    rw [e2]
    have hm : t % E.sz < (E.row d[t / E.sz]!).length := by rw [E.len]; exact Nat.mod_lt _ hpos
    simp [List.getElem?_eq_getElem hm]
  · have e1 : (flatK E.row E.sz d).toList[t]? = none := by
      rw [Array.getElem?_toList, Array.getElem?_eq_none (by rw [size_flatK]; omega)]
    rw [e1]
    rcases Nat.eq_zero_or_pos E.sz with h | h
    · have := E.pos; omega
    · have : d.size ≤ t / E.sz := by rw [Nat.le_div_iff_mul_le h]; omega
      rw [List.getElem?_eq_none (by simpa using this)]; rfl
theorem heap_sortK {w : World} {g n : Nat} {os : Array Obj} {cur : Array Value} {e : TypeId} {fr : Nat × Nat} (F : Array Value) (hb : w.heap[g]? = some (.cells cur e fr)) :
    (grow (putRow id (Sort.ahead w n) g 0 F) os).heap[g]? = some (.cells (putCells id 0 F cur) e fr) := by
  have hg : g < w.heap.size := (Array.getElem?_eq_some_iff.1 hb).1
  rw [heap_grow_old _ _ (by simpa using hg)]
  simp [putRow, mapBlock, Sort.ahead, Array.getElem?_modify, hb, onCells]
theorem grownBy_sortK {w : World} {g n : Nat} {os : Array Obj} (F : Array Value) : w.grownBy (grow (putRow id (Sort.ahead w n) g 0 F) os) (some g) := by
  refine ⟨rfl, rfl, rfl, by simp, fun k hk hne => ?_⟩
  rw [heap_grow_old _ _ (by simpa using hk)]
  have : g ≠ k := fun e => hne (by rw [e])
  simp [putRow, mapBlock, Sort.ahead, Array.getElem?_modify, this]
theorem take_putCellsK (cur F : Array Value) (h : F.size ≤ cur.size) : (putCells id 0 F cur).toList.take F.size = F.toList := by
  apply List.ext_getElem?
  intro j
  by_cases hj : j < F.size
  · rw [List.getElem?_take_of_lt hj, Array.getElem?_toList]
    simp [putCells, hj, show j < cur.size by omega]
  · rw [List.getElem?_take_eq_none (by omega), List.getElem?_eq_none (by simp; omega)]
theorem own_holds {α : Type} [Inhabited α] {E : Enc α} {e : TypeId} {B g cap n : Nat} {w : World} {X : List α} (h : Own E e B w (.slice (some ⟨g, 0, none⟩) n cap) X) (hn : n = X.length) : HoldsK E.row E.sz w g 0 X.toArray := by
  subst hn
  intro j hj
  have hj' : j < X.length * E.sz := by simpa using hj
  refine ⟨?_, ?_⟩
  · rw [Nat.zero_add, World.ownsRow.cellAt h _ hj']
    have e1 := flatK_flat E X.toArray
    have : (flatK E.row E.sz X.toArray)[j]! = (flatK E.row E.sz X.toArray)[j] := getElem!_pos _ j (by simpa using hj')
    rw [this]
    have e2 : (E.flat X)[j]? = some ((flatK E.row E.sz X.toArray)[j]'(by simpa using hj')) := by
      rw [← (show (flatK E.row E.sz X.toArray).toList = E.flat X from e1), Array.getElem?_toList, Array.getElem?_eq_getElem]
    rw [e2]; rfl
  · rw [Nat.zero_add]; exact h.free rfl _
theorem own_sorted {α : Type} [Inhabited α] {E : Enc α} {e : TypeId} {B g cap k n : Nat} {w : World} {X Y : List α} {os : Array Obj} (h : Own E e B w (.slice (some ⟨g, 0, none⟩) k cap) X) (hk : k = X.length) (hl : Y.length = X.length) :
    Own E e B (sortWorldK E.row E.sz w g 0 n Y.toArray os) (.slice (some ⟨g, 0, none⟩) k cap) Y ∧ w.grownBy (sortWorldK E.row E.sz w g 0 n Y.toArray os) (some g) := by
  subst hk
  obtain ⟨h1, h2⟩ := h
  refine ⟨?_, grownBy_sortK _⟩
  rcases h2 with ⟨h0, _⟩ | ⟨g', cap', cur, hv, hg, hb, hn, hc, hs, ht⟩
  · cases h0
  cases hv
  have e1 : (flatK E.row E.sz Y.toArray).toList = E.flat Y := flatK_flat E Y.toArray
  have hF : (flatK E.row E.sz Y.toArray).size = X.length * E.sz := by simp [hl]
  have hle : (flatK E.row E.sz Y.toArray).size ≤ cur.size := by rw [hF, hs]; exact Nat.mul_le_mul_right _ hn
  refine ⟨by rw [E.flat_len, hl], .inr ⟨g, cap, _, by rw [hl], hg, heap_sortK _ hb, by rw [hl]; exact hn, hc, by simp [putCells, hs], ?_⟩⟩
  have := take_putCellsK cur _ hle
  rw [hF, ← hl] at this
  rw [this, e1]
end Go.Proofs.YtcikndmmbfompaaGreatDoor
