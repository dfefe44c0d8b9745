/- Lists that are read element by element, and the lines of a text. Plain lemmas, no program. -/
import Derived.Test.YtbgjojnjbplblaaGreatDoorRtSpec
namespace Go.Proofs.YtbgjojnjbplblaaGreatDoor

def mapO {α β : Type} (f : α → Option β) : List α → Option (List β)
  | [] => some []
  | a :: t => match f a, mapO f t with
    | some b, some r => some (b :: r)
    | _, _ => none
theorem mapO_cons {α β : Type} {f : α → Option β} {a : α} {t : List α} {x : List β} (h : mapO f (a :: t) = some x) : ∃ b r, f a = some b ∧ mapO f t = some r ∧ x = b :: r := by
  unfold mapO at h
  cases h1 : f a with
  | none => rw [h1] at h; simp at h
  | some b =>
    cases h2 : mapO f t with
    | none => rw [h1, h2] at h; simp at h
    | some r => rw [h1, h2] at h; simp at h; exact ⟨b, r, rfl, rfl, h.symm⟩
theorem mapO_mk {α β : Type} {f : α → Option β} {a : α} {t : List α} {b : β} {r : List β} (h1 : f a = some b) (h2 : mapO f t = some r) : mapO f (a :: t) = some (b :: r) := by
  unfold mapO; rw [h1, h2]
theorem mapO_none {α β : Type} {f : α → Option β} : ∀ {l : List α} {a : α}, a ∈ l → f a = none → mapO f l = none
  | [], a, h, _ => by cases h
  | c :: t, a, h, hf => by
    cases hx : mapO f (c :: t) with
    | none => rfl
    | some x =>
      obtain ⟨b, r, h1, h2, _⟩ := mapO_cons hx
      rcases List.mem_cons.1 h with e | e
      · subst e; rw [hf] at h1; cases h1
      · rw [mapO_none e hf] at h2; cases h2
theorem mapO_snoc {α β : Type} {f : α → Option β} : ∀ {l : List α} {x : List β} {a : α} {b : β}, mapO f l = some x → f a = some b → mapO f (l ++ [a]) = some (x ++ [b])
  | [], x, a, b, h, hf => by
    simp [mapO] at h; subst h
    exact mapO_mk hf rfl
  | _ :: _, x, a, b, h, hf => by
    obtain ⟨b', r, h1, h2, rfl⟩ := mapO_cons h
    exact mapO_mk h1 (mapO_snoc h2 hf)
theorem mapO_len {α β : Type} {f : α → Option β} : ∀ {l : List α} {x : List β}, mapO f l = some x → x.length = l.length
  | [], x, h => by simp [mapO] at h; subst h; rfl
  | _ :: _, x, h => by
    obtain ⟨b', r, h1, h2, rfl⟩ := mapO_cons h
    simp [mapO_len h2]
theorem mapO_map {α β γ : Type} {f : β → Option γ} {g : α → β} {h : α → γ} : ∀ {l : List α}, (∀ a ∈ l, f (g a) = some (h a)) → mapO f (l.map g) = some (l.map h)
  | [], _ => rfl
  | a :: _, hl => mapO_mk (hl a List.mem_cons_self) (mapO_map fun b hb => hl b (List.mem_cons_of_mem _ hb))
theorem mapO_take {α β : Type} {f : α → Option β} {l : List α} {k : Nat} {x : List β} {a : α} {b : β} (h : mapO f (l.take k) = some x) (ha : l[k]? = some a) (hf : f a = some b) : mapO f (l.take (k + 1)) = some (x ++ [b]) := by
  rw [List.take_add_one, ha]
  exact mapO_snoc h hf
/-- what is behind the last newline, and the lines ahead of it -/
theorem lines_join (b : UInt8) : ∀ (P : List (List UInt8)), joinL b (P ++ [[]]) = P.flatMap fun p => p ++ [b]
  | [] => rfl
  | p :: r => by
    rw [List.cons_append, joinL_cons b p (by simp), lines_join b r, List.flatMap_cons]
    simp
theorem last_nil {α : Type} {L : List (List α)} (h : L.getLast? = some []) : L = L.dropLast ++ [[]] := by
  have hne : L ≠ [] := by intro e; rw [e] at h; simp at h
  have h1 := List.dropLast_concat_getLast hne
  rw [List.getLast?_eq_some_getLast hne] at h
  rw [Option.some.inj h] at h1
  exact h1.symm
/-- the lines of a text, the last of which is ended too -/
def linesL (l : List UInt8) : Option (List (List UInt8)) := if (splL 10 l).getLast? = some [] then some (splL 10 l).dropLast else none
theorem linesL_some {l : List UInt8} {P : List (List UInt8)} (h : linesL l = some P) : splL 10 l = P ++ [[]] ∧ l = (P.flatMap fun p => p ++ [10]) := by
  unfold linesL at h
  split at h
  · rename_i hl
    obtain rfl := Option.some.inj h
    have h1 := last_nil hl
    refine ⟨h1, ?_⟩
    rw [← lines_join, ← h1, join_splL]
  · cases h
theorem linesL_mk {P : List (List UInt8)} (h : ∀ p ∈ P, (10 : UInt8) ∉ p) : linesL (P.flatMap fun p => p ++ [10]) = some P := by
  have h1 : splL 10 (P.flatMap fun p => p ++ [10]) = P ++ [[]] := by
    rw [← lines_join]
    refine splL_join (by simp) fun p hp => ?_
    rcases List.mem_append.1 hp with h2 | h2
    · exact h p h2
    · rw [List.mem_singleton.1 h2]; simp
  unfold linesL
  rw [h1, if_pos (by simp)]
  simp
theorem linesL_len {l : List UInt8} {P : List (List UInt8)} (h : linesL l = some P) : P.length ≤ l.length := by
  have h1 := (linesL_some h).1
  have h2 := splL_len 10 l
  rw [h1] at h2
  simp at h2
  exact h2
/-- what the library says of the lines -/
theorem linesL_nil : linesL [] = some [] := rfl
theorem linesL_suf (t : List UInt8) : linesL (t ++ [10]) = some (splL 10 t) := by
  unfold linesL
  rw [splL_snoc, if_pos (by simp)]
  simp
theorem linesL_no {l : List UInt8} (h0 : l ≠ []) (h : Lib.hasSuffix l [10] = false) : linesL l = none := by
  unfold linesL
  rw [if_neg]
  rw [splL_ends]
  rintro (h1 | ⟨t, h1⟩)
  · exact h0 h1
  · rw [(hasSuf_one l 10).2 ⟨t, h1⟩] at h; cases h

theorem wfR {n : Int} (h : -1000000000000000000 < n ∧ n < 1000000000000000000) : (Lit.int .i64 n).wf = true := by
  have e1 : IntKind.i64.min = -9223372036854775808 := by decide
  have e2 : IntKind.i64.max = 9223372036854775807 := by decide
  rw [Lit.wf, Bool.and_eq_true, decide_eq_true_iff, decide_eq_true_iff, e1, e2]
  omega
theorem cut_len2 (s : List UInt8) (b : UInt8) : (Lib.cut s [b]).2.1.length ≤ s.length := by
  unfold Lib.cut
  split
  · simp
  · simp
theorem lab_byte {s : ByteArray} (h : isLabelB s = true) : ∃ b, s.data.toList = [b] ∧ b ≠ 10 ∧ b ≠ 32 ∧ b ≠ 58 := by
  unfold isLabelB at h
  split at h
  · rename_i b hb
    refine ⟨b, hb, ?_, ?_, ?_⟩ <;> (rintro rfl; exact absurd h (by decide))
  · cases h
end Go.Proofs.YtbgjojnjbplblaaGreatDoor
