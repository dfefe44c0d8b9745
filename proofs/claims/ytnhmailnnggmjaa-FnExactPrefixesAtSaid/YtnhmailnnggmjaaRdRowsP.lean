/- An array of lists of readings that grow in their places: each list owns a row of its own. Plain lemmas on the model, no program. -/
import Derived.Test.YtnhmailnnggmjaaRdBeam
namespace Go.Proofs.Ytnhmailnnggmjaa
open Go.RowKit

structure RowsP (g N : Nat) (w : World) (vs : List SV) (st : SR) : Prop where
  own : Own eS1 37 g w (.slice (some ⟨g, 0, none⟩) N N) vs
  len : N = vs.length
  row : ∀ (v : Nat) (s : SV), vs[v]? = some s → OwnIn eReading 27 (g + 1) w.heap.size w s.val (st v)
  apart : ∀ (i j : Nat) (s t : SV) (q : Nat), vs[i]? = some s → vs[j]? = some t → s.blk = some q → t.blk = some q → i = j
theorem RowsP.toO {g N : Nat} {w : World} {vs : List SV} {st : SR} (h : RowsP g N w vs st) : RowsO g N w vs st := ⟨h.own, h.len, h.row⟩
theorem RowsP.below {g N : Nat} {w w' : World} {vs : List SV} {st : SR} (h : RowsP g N w vs st) (hb : Below w.heap.size w w') : RowsP g N w' vs st :=
  ⟨h.own.below hb, h.len, (h.toO.below hb).row, h.apart⟩
theorem RowsP.made {g N : Nat} {w : World} (h : Own eS1 37 g w (.slice (some ⟨g, 0, none⟩) N N) (List.replicate N ⟨none, 0, 0⟩)) : RowsP g N w (List.replicate N ⟨none, 0, 0⟩) (fun _ => []) :=
  ⟨h, by simp, (RowsO.made h).row, fun i j s t q hs _ hq _ => by
    rw [List.getElem?_replicate] at hs
    split at hs
    · cases hs; cases hq
    · cases hs⟩
theorem SV.blk_lt {g : Nat} {w : World} {s : SV} {X : List DReading} {q : Nat} (h : OwnIn eReading 27 (g + 1) w.heap.size w s.val X) (hq : s.blk = some q) : g + 1 ≤ q ∧ q < w.heap.size :=
  ⟨(World.ownsRow.lt h.1 q hq).1, h.2 q hq⟩
/-- what is done to one row alone, and to new blocks -/
theorem RowsP.turn {g N : Nat} {w w1 : World} {vs : List SV} {st : SR} (h : RowsP g N w vs st) {v : Nat} {s : SV} (hs : vs[v]? = some s) (hg : w.grownBy w1 s.blk) :
    Own eS1 37 g w1 (.slice (some ⟨g, 0, none⟩) N N) vs ∧ ∀ (u : Nat) (t : SV), u ≠ v → vs[u]? = some t → OwnIn eReading 27 (g + 1) w1.heap.size w1 t.val (st u) := by
  have hrv := h.row v s hs
  constructor
  · refine World.ownsRow.kept h.own hg (.inr fun e => ?_)
    have e' : some g = s.blk := e
    have := (SV.blk_lt hrv e'.symm).1
    omega
  · intro u t hu ht
    have hru := h.row u t ht
    refine ⟨World.ownsRow.kept hru.1 hg ?_, fun q hq => Nat.lt_of_lt_of_le (hru.2 q hq) hg.size⟩
    cases hb : t.val.ownBlock with
    | none => exact .inl rfl
    | some q =>
      refine .inr fun e => hu ?_
      exact h.apart u v t s q ht hs hb e.symm
/-- a row is put anew: in its own block or in a new one -/
theorem RowsP.put {g N : Nat} {w w1 : World} {vs : List SV} {st : SR} (h : RowsP g N w vs st) {v n c : Nat} {a : Option Addr} {s : SV} {L : List DReading} (hv : v < N) (hs : vs[v]? = some s) (hg : w.grownBy w1 s.blk)
    (hL : OwnIn eReading 27 (g + 1) w1.heap.size w1 (.slice a n c) L) (hblk : (Value.slice a n c).ownBlock = s.blk ∨ ∀ q, (Value.slice a n c).ownBlock = some q → w.heap.size ≤ q) :
    RowsP g N (w1.setCell ⟨g, v, none⟩ (.slice a n c)) (vs.set v ⟨a, n, c⟩) (setR st v L) ∧ w1.grownBy (w1.setCell ⟨g, v, none⟩ (.slice a n c)) (some g) := by
  obtain ⟨ho, hr⟩ := h.turn hs hg
  have hvl : v < vs.length := by rw [← h.len]; exact hv
  have h1 := ho.set1 h.len (k := v) (j := 0) (x' := (⟨a, n, c⟩ : SV)) (u := .slice a n c) hs (by decide) rfl
  have e0 : v * eS1.sz + 0 = v := by show v * 1 + 0 = v; omega
  rw [e0] at h1
  have hch : Chg g (g + 1) w1 (w1.setCell ⟨g, v, none⟩ (.slice a n c)) := chg_set w1 g v _
  have hsz : (w1.setCell ⟨g, v, none⟩ (.slice a n c)).heap.size = w1.heap.size := by simp
  have key : ∀ (j : Nat) (t : SV) (q : Nat), j ≠ v → vs[j]? = some t → t.blk = some q → (⟨a, n, c⟩ : SV).blk = some q → False := by
    intro j t q hj ht hq hq2
    rcases hblk with hb | hb
    · exact hj (h.apart j v t s q ht hs hq (by rw [← hb]; exact hq2))
    · have := hb q hq2
      have := (SV.blk_lt (h.row j t ht) hq).2
      omega
  refine ⟨⟨h1.1, by rw [List.length_set]; exact h.len, fun u t ht => ?_, fun i j p t q hi hj hq hq2 => ?_⟩, h1.2⟩
  · rw [hsz]
    unfold setR
    by_cases e : u = v
    · subst e
      rw [List.getElem?_set_self hvl] at ht
      cases ht
      rw [if_pos rfl]
      exact hL.chg hch (.inl (Nat.le_refl _))
    · rw [List.getElem?_set_ne (Ne.symm e)] at ht
      rw [if_neg e]
      exact (hr u t e ht).chg hch (.inl (Nat.le_refl _))
  · by_cases e1 : i = v
    · by_cases e2 : j = v
      · rw [e1, e2]
      · subst e1
        rw [List.getElem?_set_self hvl] at hi; cases hi
        rw [List.getElem?_set_ne (Ne.symm e2)] at hj
        exact (key j t q e2 hj hq2 hq).elim
    · rw [List.getElem?_set_ne (Ne.symm e1)] at hi
      by_cases e2 : j = v
      · subst e2
        rw [List.getElem?_set_self hvl] at hj; cases hj
        exact (key i p q e1 hi hq hq2).elim
      · rw [List.getElem?_set_ne (Ne.symm e2)] at hj
        exact h.apart i j p t q hi hj hq hq2
end Go.Proofs.Ytnhmailnnggmjaa
