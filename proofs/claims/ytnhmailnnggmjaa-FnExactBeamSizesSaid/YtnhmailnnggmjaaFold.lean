/- Folds over a list, key by key. Plain lemmas, no program. -/
import Derived.Test.YtnhmailnnggmjaaBase
namespace Go.Proofs.Ytnhmailnnggmjaa

/-- a list that rises by its keys is the rows of its keys, one behind the other -/
theorem rows_step {α : Type} (key : α → Nat) (n : Nat) : ∀ (x : List α) (_ : x.Pairwise fun a b => key a ≤ key b), (x.filter fun e => decide (key e < n)) ++ (x.filter fun e => decide (key e = n)) = x.filter fun e => decide (key e < n + 1)
  | [], _ => rfl
  | a :: x, hs => by
    have hs' := List.pairwise_cons.1 hs
    have ih := rows_step key n x hs'.2
    by_cases h1 : key a < n
    · rw [List.filter_cons_of_pos (by simpa using h1), List.filter_cons_of_neg (by simp; omega), List.filter_cons_of_pos (by simp; omega), List.cons_append, ih]
    · have hn : x.filter (fun e => decide (key e < n)) = [] := by
        rw [List.filter_eq_nil_iff]
        intro b hb
        have := hs'.1 b hb
        simp; omega
      rw [hn, List.nil_append] at ih
      rw [List.filter_cons_of_neg (by simpa using h1), hn, List.nil_append]
      by_cases h2 : key a = n
      · rw [List.filter_cons_of_pos (by simpa using h2), List.filter_cons_of_pos (by simp; omega), ih]
      · rw [List.filter_cons_of_neg (by simpa using h2), List.filter_cons_of_neg (by simp; omega), ih]
theorem rows_lt {α : Type} (key : α → Nat) (x : List α) (hs : x.Pairwise fun a b => key a ≤ key b) : ∀ (n : Nat), (List.range n).flatMap (fun k => x.filter fun e => decide (key e = k)) = x.filter fun e => decide (key e < n)
  | 0 => by
    have : x.filter (fun e => decide (key e < 0)) = [] := by rw [List.filter_eq_nil_iff]; simp
    rw [this]; rfl
  | n + 1 => by
    rw [List.range_succ, List.flatMap_append, rows_lt key x hs n]
    simp only [List.flatMap_cons, List.flatMap_nil, List.append_nil]
    exact rows_step key n x hs
theorem rows_all {α : Type} (key : α → Nat) {x : List α} (hs : x.Pairwise fun a b => key a ≤ key b) {n : Nat} (hn : ∀ e ∈ x, key e < n) : (List.range n).flatMap (fun k => x.filter fun e => decide (key e = k)) = x := by
  rw [rows_lt key x hs n, List.filter_eq_self]
  intro e he
  simpa using hn e he
theorem foldl_guard {α β : Type} (p : α → Bool) (g : β → α → β) : ∀ (x : List α) (a : β), x.foldl (fun a e => if p e = true then g a e else a) a = (x.filter p).foldl g a
  | [], _ => rfl
  | e :: x, a => by
    rw [List.foldl_cons, List.filter_cons]
    by_cases h : p e = true
    · rw [if_pos h, if_pos h, List.foldl_cons, foldl_guard p g x]
    · rw [if_neg h, if_neg h, foldl_guard p g x]
theorem foldl_flat {α β γ : Type} (f : γ → List α) (g : β → α → β) : ∀ (l : List γ) (a : β), l.foldl (fun a k => (f k).foldl g a) a = (l.flatMap f).foldl g a
  | [], _ => rfl
  | k :: l, a => by rw [List.foldl_cons, foldl_flat f g l, List.flatMap_cons, List.foldl_append]
/-- over all keys, over all elements of the key: over all elements -/
theorem foldl_rows {α β : Type} (key : α → Nat) (g : β → α → β) {x : List α} (hs : x.Pairwise fun a b => key a ≤ key b) {n : Nat} (hn : ∀ e ∈ x, key e < n) (a : β) :
    (List.range n).foldl (fun a k => x.foldl (fun a e => if decide (key e = k) = true then g a e else a) a) a = x.foldl g a := by
  have h1 : (fun (a : β) (k : Nat) => x.foldl (fun a e => if decide (key e = k) = true then g a e else a) a) = fun a k => (x.filter fun e => decide (key e = k)).foldl g a := by
    funext a k; exact foldl_guard _ g x a
  rw [h1, foldl_flat, rows_all key hs hn]
theorem foldl_comm {α β : Type} (g : β → α → β) : ∀ (x : List α) (_ : ∀ a ∈ x, ∀ b ∈ x, ∀ z, g (g z a) b = g (g z b) a) (e : α) (_ : ∀ b ∈ x, ∀ z, g (g z e) b = g (g z b) e) (z : β), x.foldl g (g z e) = g (x.foldl g z) e
  | [], _, _, _, _ => rfl
  | b :: x, hc, e, he, z => by
    rw [List.foldl_cons, List.foldl_cons, he b List.mem_cons_self]
    exact foldl_comm g x (fun a ha b hb => hc a (List.mem_cons_of_mem _ ha) b (List.mem_cons_of_mem _ hb)) e (fun b hb => he b (List.mem_cons_of_mem _ hb)) _
theorem foldl_rev {α β : Type} (g : β → α → β) : ∀ (x : List α) (_ : ∀ a ∈ x, ∀ b ∈ x, ∀ z, g (g z a) b = g (g z b) a) (z : β), x.reverse.foldl g z = x.foldl g z
  | [], _, _ => rfl
  | e :: x, hc, z => by
    have hc' : ∀ a ∈ x, ∀ b ∈ x, ∀ z, g (g z a) b = g (g z b) a := fun a ha b hb => hc a (List.mem_cons_of_mem _ ha) b (List.mem_cons_of_mem _ hb)
    rw [List.reverse_cons, List.foldl_append, foldl_rev g x hc', List.foldl_cons, List.foldl_cons, List.foldl_nil]
    exact (foldl_comm g x hc' e (fun b hb z => hc e List.mem_cons_self b (List.mem_cons_of_mem _ hb) z) z).symm
/-- over all keys downwards, over all elements of the key: over all elements backwards, where those of one key commute -/
theorem foldl_rows_down {α β : Type} (key : α → Nat) (g : β → α → β) {x : List α} (hs : x.Pairwise fun a b => key a ≤ key b) {n : Nat} (hn : ∀ e ∈ x, key e < n) (hc : ∀ a ∈ x, ∀ b ∈ x, key a = key b → ∀ z, g (g z a) b = g (g z b) a) (a : β) :
    (List.range n).reverse.foldl (fun a k => x.foldl (fun a e => if decide (key e = k) = true then g a e else a) a) a = x.reverse.foldl g a := by
  have h1 : (fun (a : β) (k : Nat) => x.foldl (fun a e => if decide (key e = k) = true then g a e else a) a) = fun a k => (x.filter fun e => decide (key e = k)).reverse.foldl g a := by
    funext a k
    rw [foldl_guard _ g x a]
    refine (foldl_rev g _ ?_ a).symm
    intro p hp q hq z
    obtain ⟨hp1, hp2⟩ := List.mem_filter.1 hp
    obtain ⟨hq1, hq2⟩ := List.mem_filter.1 hq
    simp only [decide_eq_true_eq] at hp2 hq2
    exact hc p hp1 q hq1 (hp2.trans hq2.symm) z
  rw [h1, foldl_flat]
  have h2 : ∀ (l : List Nat), (l.reverse.flatMap fun k => (x.filter fun e => decide (key e = k)).reverse) = (l.flatMap fun k => x.filter fun e => decide (key e = k)).reverse := by
    intro l
    induction l with
    | nil => rfl
    | cons k l ih => rw [List.reverse_cons, List.flatMap_append, ih]; simp
  rw [h2, rows_all key hs hn]
end Go.Proofs.Ytnhmailnnggmjaa
