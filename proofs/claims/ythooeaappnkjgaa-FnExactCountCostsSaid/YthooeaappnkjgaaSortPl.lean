/- A list put together by inserting each element behind what is not greater is the sorted list; where no two elements are alike there is one sorted list. Plain lemmas, no program. -/
import Derived.Test.YthooeaappnkjgaaBase
import Derived.Sort.Statements
import Derived.Test.YthooeaappnkjgaaApp
namespace Go.Proofs.Ythooeaappnkjgaa
open Go.Sort

/-- where an element belongs, looked for from the place k down -/
def posE {α : Type} (lt : α → α → Bool) (f : α) (out : List α) : Nat → Nat
  | 0 => 0
  | k + 1 => match out[k]? with
    | some a => if lt f a then posE lt f out k else k + 1
    | none => k + 1
def insE {α : Type} (lt : α → α → Bool) (out : List α) (f : α) : List α := out.take (posE lt f out out.length) ++ f :: out.drop (posE lt f out out.length)
theorem posE_le {α : Type} (lt : α → α → Bool) (f : α) (out : List α) : ∀ k, posE lt f out k ≤ k
  | 0 => Nat.le_refl _
  | k + 1 => by
    unfold posE
    split
    · split
      · have := posE_le lt f out k; omega
      · exact Nat.le_refl _
    · exact Nat.le_refl _
theorem posE_above {α : Type} (lt : α → α → Bool) (f : α) (out : List α) : ∀ k, k ≤ out.length → ∀ i a, posE lt f out k ≤ i → i < k → out[i]? = some a → lt f a = true
  | 0, _, i, a, _, h, _ => by omega
  | k + 1, hk, i, a, h1, h2, ha => by
    unfold posE at h1
    obtain ⟨b, hb⟩ : ∃ b, out[k]? = some b := ⟨_, List.getElem?_eq_getElem (by omega)⟩
    simp only [hb] at h1
    by_cases hl : lt f b = true
    · rw [if_pos hl] at h1
      by_cases e : i = k
      · subst e; rw [hb] at ha; cases ha; exact hl
      · exact posE_above lt f out k (by omega) i a h1 (by omega) ha
    · rw [if_neg hl] at h1; omega
theorem posE_stop {α : Type} (lt : α → α → Bool) (f : α) (out : List α) : ∀ k, k ≤ out.length → ∀ a, 0 < posE lt f out k → out[posE lt f out k - 1]? = some a → lt f a = false
  | 0, _, a, h, _ => by simp [posE] at h
  | k + 1, hk, a, h, ha => by
    obtain ⟨b, hb⟩ : ∃ b, out[k]? = some b := ⟨_, List.getElem?_eq_getElem (by omega)⟩
    by_cases hl : lt f b = true
    · have e : posE lt f out (k + 1) = posE lt f out k := by rw [posE]; simp only [hb]; rw [if_pos hl]
      rw [e] at h ha
      exact posE_stop lt f out k (by omega) a h ha
    · have e : posE lt f out (k + 1) = k + 1 := by rw [posE]; simp only [hb]; rw [if_neg hl]
      rw [e, Nat.add_sub_cancel, hb] at ha
      cases ha
      simpa using hl
/-- no later one is less than an earlier one -/
def Up {α : Type} (lt : α → α → Bool) (l : List α) : Prop := l.Pairwise fun a b => lt b a = false
theorem insE_perm {α : Type} (lt : α → α → Bool) (out : List α) (f : α) : (insE lt out f).Perm (f :: out) := by
  unfold insE
  refine List.perm_middle.trans (List.Perm.cons f ?_)
  rw [List.take_append_drop]
theorem insE_len {α : Type} (lt : α → α → Bool) (out : List α) (f : α) : (insE lt out f).length = out.length + 1 := by
  rw [(insE_perm lt out f).length_eq]; rfl
theorem insE_up {α : Type} {lt : α → α → Bool} (hO : SWO lt) {out : List α} (h : Up lt out) (f : α) : Up lt (insE lt out f) := by
  unfold insE
  generalize hp : posE lt f out out.length = p
  have hple : p ≤ out.length := by rw [← hp]; exact posE_le _ _ _ _
  have habove : ∀ a ∈ out.drop p, lt f a = true := by
    intro a ha
    obtain ⟨i, hi⟩ := List.mem_iff_getElem?.1 ha
    rw [List.getElem?_drop] at hi
    exact posE_above lt f out out.length (Nat.le_refl _) (p + i) a (by omega) (List.getElem?_eq_some_iff.1 hi).1 hi
  have hasy : ∀ a, lt f a = true → lt a f = false := by
    intro a ha
    cases hb : lt a f with
    | false => rfl
    | true => have := hO.trans _ _ _ ha hb; rw [hO.irrefl] at this; cases this
  have hbelow : ∀ a ∈ out.take p, lt f a = false := by
    intro a ha
    obtain ⟨i, hi⟩ := List.mem_iff_getElem?.1 ha
    rw [List.getElem?_take] at hi
    split at hi
    · rename_i hip
      obtain ⟨b, hb⟩ : ∃ b, out[p - 1]? = some b := ⟨_, List.getElem?_eq_getElem (by omega)⟩
      have hs := posE_stop lt f out out.length (Nat.le_refl _) b (by omega) (by rw [hp]; exact hb)
      by_cases e : i = p - 1
      · subst e; rw [hb] at hi; cases hi; exact hs
      · obtain ⟨i1, r1⟩ := List.getElem?_eq_some_iff.1 hi
        obtain ⟨i2, r2⟩ := List.getElem?_eq_some_iff.1 hb
        subst r1; subst r2
        have hu := List.pairwise_iff_getElem.1 h i (p - 1) i1 i2 (by omega)
        exact hO.ntrans _ _ _ hs hu
    · cases hi
  have h0 : Up lt (out.take p ++ out.drop p) := by rw [List.take_append_drop]; exact h
  obtain ⟨h1, h2, h3⟩ := List.pairwise_append.1 h0
  refine List.pairwise_append.2 ⟨h1, List.pairwise_cons.2 ⟨fun a ha => hasy a (habove a ha), h2⟩, fun a ha b hb => ?_⟩
  rcases List.mem_cons.1 hb with rfl | hb
  · exact hbelow a ha
  · exact h3 a ha b hb
theorem fold_ins {α : Type} {lt : α → α → Bool} (hO : SWO lt) : ∀ (l out : List α), Up lt out → Up lt (l.foldl (insE lt) out) ∧ (l.foldl (insE lt) out).Perm (l ++ out)
  | [], out, h => ⟨h, List.Perm.refl _⟩
  | f :: l, out, h => by
    have ih := fold_ins hO l _ (insE_up hO h f)
    refine ⟨ih.1, ih.2.trans ?_⟩
    refine (List.Perm.append_left l (insE_perm lt out f)).trans ?_
    exact List.perm_middle
/-- there is one sorted list -/
theorem up_unique {α : Type} {lt : α → α → Bool} : ∀ (l m : List α), l.Perm m → Up lt l → Up lt m → (∀ a ∈ l, ∀ b ∈ l, lt a b = false → lt b a = false → a = b) → l = m
  | [], m, hp, _, _, _ => by rw [List.nil_perm] at hp; exact hp.symm
  | a :: l, m, hp, h1, h2, hd => by
    cases m with
    | nil => exact absurd hp.length_eq (by simp)
    | cons b m =>
      have ha : a ∈ b :: m := hp.subset List.mem_cons_self
      have hb : b ∈ a :: l := hp.symm.subset List.mem_cons_self
      have e : a = b := by
        rcases List.mem_cons.1 ha with e | ha'
        · exact e
        · rcases List.mem_cons.1 hb with e | hb'
          · exact e.symm
          · exact hd a List.mem_cons_self b (List.mem_cons_of_mem _ hb') ((List.pairwise_cons.1 h2).1 a ha') ((List.pairwise_cons.1 h1).1 b hb')
      subst e
      rw [up_unique l m (List.Perm.cons_inv hp) (List.pairwise_cons.1 h1).2 (List.pairwise_cons.1 h2).2 (fun x hx y hy => hd x (List.mem_cons_of_mem _ hx) y (List.mem_cons_of_mem _ hy))]
end Go.Proofs.Ythooeaappnkjgaa
