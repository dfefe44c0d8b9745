/- Every reading of a beam is the text of a path. Plain lemmas, no program. -/
import Derived.Test.YtnhmailnnggmjabGreatRdRaw
import Derived.Test.YtnhmailnnggmjabGreatLtText2
namespace Go.Proofs.YtnhmailnnggmjabGreat

theorem ba_eq {a b : ByteArray} (h : a.toList = b.toList) : a = b := by
  rw [ByteArray.toList_eq, ByteArray.toList_eq] at h
  cases a; cases b
  congr
  exact Array.toList_inj.1 h
theorem piece_at {s p l : ByteArray} (h : (p ++ l).toList <+: s.toList) (hl : l.size = 1) : eqS (pieceAt s p.size) l = true := by
  unfold eqS pieceAt
  rw [beq_iff_eq]
  obtain ⟨t, ht⟩ := h
  have h1 : (p ++ l).toList = p.toList ++ l.toList := by rw [ByteArray.toList_eq, ByteArray.toList_eq, ByteArray.toList_eq, ByteArray.data_append, Array.toList_append]
  rw [h1] at ht
  have h2 : (s.extract p.size (p.size + 1)).toList = (s.toList.drop p.size).take 1 := by
    rw [ByteArray.toList_eq, ByteArray.toList_eq, ByteArray.data_extract, Array.toList_extract, List.extract_eq_take_drop]
    congr 1; omega
  rw [h2, ← ht, List.append_assoc, List.drop_append_of_le_length (by rw [toList_len]; exact Nat.le_refl _), List.drop_of_length_le (by rw [toList_len]; exact Nat.le_refl _), List.nil_append, List.take_append_of_le_length (by rw [toList_len, hl]; exact Nat.le_refl _), List.take_of_length_le (by rw [toList_len, hl]; exact Nat.le_refl _)]
theorem stC_le (s : ByteArray) (k : Nat) (C N : Nat → Int) (e : DEdge) (v : Nat) : stC s k C N e v ≤ N v := by
  unfold stC
  split
  · exact Int.min_le_left _ _
  · exact Int.le_refl _
theorem foldC_le (s : ByteArray) (k : Nat) (C : Nat → Int) : ∀ (x : List DEdge) (N : Nat → Int) (v : Nat), (x.foldl (stC s k C) N) v ≤ N v
  | [], _, _ => Int.le_refl _
  | e :: x, N, v => Int.le_trans (foldC_le s k C x _ v) (stC_le s k C N e v)
theorem foldC_at (s : ByteArray) (k : Nat) (C : Nat → Int) : ∀ (x : List DEdge) (N : Nat → Int) {e : DEdge}, e ∈ x → eqS (pieceAt s k) e.label = true → (x.foldl (stC s k C) N) (to e) ≤ C (fr e) + e.cost
  | a :: x, N, e, he, hm => by
    rcases List.mem_cons.1 he with h | h
    · subst h
      refine Int.le_trans (foldC_le s k C x _ _) ?_
      rw [stC_here hm]
      exact Int.min_le_right _ _
    · exact foldC_at s k C x _ h hm
/-- every reading of a beam is the text of a path, with its cost -/
theorem path_states {n : Nat} {x : List DEdge} (hg : Good n x) (hr : Rises x) (hn : n ≤ 20) (hlab : ∀ e ∈ x, e.label.size = 1) (m : Nat) (beg : ByteArray → Bool) (I : List DReading) (hI : ∀ r ∈ I, r.text.size = 0 ∧ r.cost = 0) :
    ∀ (v : Nat) (r : DReading), r ∈ statesR m beg I x v → 0 ≤ r.cost ∧ r.cost ≤ 1000000 * (v : Int) ∧ ∀ s : ByteArray, r.text.toList <+: s.toList → rowC s x r.text.size v ≤ r.cost := by
  intro v
  induction v using Nat.strongRecOn with
  | ind v ih =>
    intro r h
    rcases Nat.eq_zero_or_pos v with h0 | h0
    · subst h0
      rw [states_zero hg hr] at h
      obtain ⟨h1, h2⟩ := hI r h
      rw [h1, h2]
      exact ⟨by omega, by omega, fun s _ => by show (if (0 : Nat) = 0 then (0 : Int) else NW) ≤ 0; simp⟩
    · rw [states_pos hg hr _ _ _ h0] at h
      obtain ⟨e, he, h1⟩ := List.mem_flatMap.1 (topR_mem h)
      obtain ⟨he1, he2⟩ := List.mem_filter.1 he
      obtain ⟨q, hq, rfl, _⟩ := extsR_mem h1
      have h3 := hg.lt he1
      obtain ⟨_, _, _, c0, c1⟩ := hg e he1
      simp at he2
      obtain ⟨i0, i1, i2⟩ := ih (fr e) (by omega) q hq
      have hw : IntKind.i64.wrap (q.cost + e.cost) = q.cost + e.cost := IntWalk.i64_in _ (by omega)
      have hl := hlab e he1
      have hsz : (extR q e).text.size = q.text.size + 1 := by rw [extR_size, hl]
      have hc : (extR q e).cost = q.cost + e.cost := hw
      rw [hc]
      refine ⟨by omega, by omega, fun s hs => ?_⟩
      rw [hsz]
      show (x.foldl (stC s q.text.size (rowC s x q.text.size)) (fun _ => NW)) v ≤ _
      have hp : (q.text ++ e.label).toList <+: s.toList := hs
      have h4 := foldC_at s q.text.size (rowC s x q.text.size) x (fun _ => NW) he1 (piece_at hp hl)
      rw [he2] at h4
      have hq2 : q.text.toList <+: s.toList := by
        have h5 : q.text.toList <+: (q.text ++ e.label).toList := by
          have : (q.text ++ e.label).toList = q.text.toList ++ e.label.toList := by rw [ByteArray.toList_eq, ByteArray.toList_eq, ByteArray.toList_eq, ByteArray.data_append, Array.toList_append]
          rw [this]; exact List.prefix_append _ _
        exact h5.trans hp
      have := i2 s hq2
      omega
end Go.Proofs.YtnhmailnnggmjabGreat
