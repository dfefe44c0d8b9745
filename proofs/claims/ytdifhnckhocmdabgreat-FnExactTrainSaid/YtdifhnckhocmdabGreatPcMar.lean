/- The margin of scores: plain lemmas, no program. -/
import Derived.Test.YtdifhnckhocmdabGreatPcWin
namespace Go.Proofs.YtdifhnckhocmdabGreat

def marginL (l : List Int) : Int := if l.length ≤ 1 then 0 else maxL l - maxL (l.eraseIdx (bestI l))
/-- the reference's margin behind k rounds -/
def marK (l : List Int) (B : Nat) : Nat → Int
  | 0 => -1
  | k + 1 => if k ≠ B ∧ (marK l B k < 0 ∨ l.getD B 0 - l.getD k 0 < marK l B k) then l.getD B 0 - l.getD k 0 else marK l B k
theorem marK_spec (l : List Int) (h1 : 1 ≤ l.length) : ∀ k, k ≤ l.length →
    (marK l (bestI l) k = -1 ∧ ∀ j, j < k → j = bestI l) ∨ ((∃ j, j < k ∧ j ≠ bestI l ∧ marK l (bestI l) k = maxL l - l.getD j 0) ∧ ∀ j, j < k → j ≠ bestI l → marK l (bestI l) k ≤ maxL l - l.getD j 0)
  | 0, _ => .inl ⟨rfl, fun j h => by omega⟩
  | k + 1, h => by
    have hge : ∀ j, j < l.length → l.getD j 0 ≤ maxL l := fun j hj => by
      obtain ⟨c, hc⟩ : ∃ c, l[j]? = some c := ⟨_, List.getElem?_eq_getElem hj⟩
      rw [getD_some hc]; exact maxL_ge hc
    have hB : l.getD (bestI l) 0 = maxL l := rfl
    have hk := hge k (by omega)
    rw [marK, hB]
    rcases marK_spec l h1 k (by omega) with ⟨e, ih⟩ | ⟨⟨j0, h2, h3, h4⟩, ih⟩
    · by_cases ek : k = bestI l
      · rw [if_neg (by simp [ek])]
        refine .inl ⟨e, fun j hj => ?_⟩
        by_cases ej : j = k
        · rw [ej, ek]
        · exact ih j (by omega)
      · rw [if_pos ⟨ek, .inl (by omega)⟩]
        refine .inr ⟨⟨k, by omega, ek, rfl⟩, fun j hj hne => ?_⟩
        by_cases ej : j = k
        · rw [ej]; exact Int.le_refl _
        · exact absurd (ih j (by omega)) hne
    · have h0 := hge j0 (by omega)
      split
      · rename_i hc
        refine .inr ⟨⟨k, by omega, hc.1, rfl⟩, fun j hj hne => ?_⟩
        by_cases ej : j = k
        · rw [ej]; exact Int.le_refl _
        · have := ih j (by omega) hne; omega
      · rename_i hc
        refine .inr ⟨⟨j0, by omega, h3, h4⟩, fun j hj hne => ?_⟩
        by_cases ej : j = k
        · subst ej
          by_cases h6 : maxL l - l.getD j 0 < marK l (bestI l) j
          · exact absurd ⟨hne, .inr h6⟩ hc
          · omega
        · exact ih j (by omega) hne
theorem marK_margin (l : List Int) (h1 : 1 ≤ l.length) : (if 0 < marK l (bestI l) l.length then marK l (bestI l) l.length else 0) = marginL l := by
  have hB := bestI_lt h1
  unfold marginL
  by_cases h2 : l.length ≤ 1
  · rw [if_pos h2]
    rcases marK_spec l h1 l.length (Nat.le_refl _) with ⟨e, _⟩ | ⟨⟨j, h3, h4, _⟩, _⟩
    · rw [e]; rfl
    · omega
  · rw [if_neg h2]
    have hel : (l.eraseIdx (bestI l)).length = l.length - 1 := List.length_eraseIdx_of_lt hB
    have hm := maxL_mem (l := l.eraseIdx (bestI l)) (by omega)
    have hge : ∀ j, j < l.length → j ≠ bestI l → l.getD j 0 ≤ maxL (l.eraseIdx (bestI l)) := fun j hj hne => by
      obtain ⟨c, hc⟩ : ∃ c, l[j]? = some c := ⟨_, List.getElem?_eq_getElem hj⟩
      rw [getD_some hc]
      by_cases hlt : j < bestI l
      · exact maxL_ge (k := j) (by rw [List.getElem?_eraseIdx, if_pos hlt]; exact hc)
      · exact maxL_ge (k := j - 1) (by rw [List.getElem?_eraseIdx, if_neg (by omega), show j - 1 + 1 = j by omega]; exact hc)
    obtain ⟨i, hi, hi2, hi3⟩ : ∃ i, i < l.length ∧ i ≠ bestI l ∧ l.getD i 0 = maxL (l.eraseIdx (bestI l)) := by
      rw [List.getElem?_eraseIdx] at hm
      generalize hI : bestI (l.eraseIdx (bestI l)) = I at hm
      split at hm
      · exact ⟨I, (List.getElem?_eq_some_iff.1 hm).1, by omega, getD_some hm⟩
      · exact ⟨I + 1, (List.getElem?_eq_some_iff.1 hm).1, by omega, getD_some hm⟩
    rcases marK_spec l h1 l.length (Nat.le_refl _) with ⟨_, h⟩ | ⟨⟨j, h3, h4, h5⟩, h6⟩
    · exact absurd (h i hi) hi2
    · have e1 := hge j h3 h4
      have e2 := h6 i hi hi2
      have e3 : l.getD i 0 ≤ maxL l := by
        obtain ⟨c, hc⟩ : ∃ c, l[i]? = some c := ⟨_, List.getElem?_eq_getElem hi⟩
        rw [getD_some hc]; exact maxL_ge hc
      split <;> omega
end Go.Proofs.YtdifhnckhocmdabGreat
