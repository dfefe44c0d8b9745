/- Folds over a list, key by key. Plain lemmas, no program. -/
import Derived.Test.YtcikndmmbfompaaGreatDoorBase
import Derived.Test.YtcikndmmbfompaaGreatDoorLtPath
namespace Go.Proofs.YtcikndmmbfompaaGreatDoor

/-- a list that rises by its keys is the rows of its keys, one behind the other -/
theorem rows_step {α : Type} (key : α → Nat) (n : Nat) : ∀ (x : List α) (_ : x.Pairwise fun a b => key a ≤ key b), (x.filter fun e => decide (key e < n)) ++ (x.filter fun e => decide (key e = n)) = x.filter fun e => decide (key e < n + 1)
  | [], _ => rfl
  | a :: x, hs => by
    have hs' := List.pairwise_cons.1 hs
    have ih := rows_step key n x hs'.2
    by_cases h1 : key a < n
    · rw [List.filter_cons_of_pos (by simpa using h1), List.filter_cons_of_neg (by simp; omega), List.filter_cons_of_pos (by simp; omega), List.cons_append, ih]
    · have hn : x.filter (fun e => decide (key e < n)) = [] := by
        rw [List.filter_eq_nil_iff]
        intro b hb
        have := hs'.1 b hb
        simp; omega
      rw [hn, List.nil_append] at ih
      rw [List.filter_cons_of_neg (by simpa using h1), hn, List.nil_append]
      by_cases h2 : key a = n
      · rw [List.filter_cons_of_pos (by simpa using h2), List.filter_cons_of_pos (by simp; omega), ih]
      · rw [List.filter_cons_of_neg (by simpa using h2), List.filter_cons_of_neg (by simp; omega), ih]
theorem rows_lt {α : Type} (key : α → Nat) (x : List α) (hs : x.Pairwise fun a b => key a ≤ key b) : ∀ (n : Nat), (List.range n).flatMap (fun k => x.filter fun e => decide (key e = k)) = x.filter fun e => decide (key e < n)
  | 0 => by
    have : x.filter (fun e => decide (key e < 0)) = [] := by rw [List.filter_eq_nil_iff]; simp
    rw [this]; rfl
  | n + 1 => by
    rw [List.range_succ, List.flatMap_append, rows_lt key x hs n]
    simp only [List.flatMap_cons, List.flatMap_nil, List.append_nil]
    exact rows_step key n x hs
theorem rows_all {α : Type} (key : α → Nat) {x : List α} (hs : x.Pairwise fun a b => key a ≤ key b) {n : Nat} (hn : ∀ e ∈ x, key e < n) : (List.range n).flatMap (fun k => x.filter fun e => decide (key e = k)) = x := by
  rw [rows_lt key x hs n, List.filter_eq_self]
  intro e he
  simpa using hn e he
theorem foldl_guard {α β : Type} (p : α → Bool) (g : β → α → β) : ∀ (x : List α) (a : β), x.foldl (fun a e => if p e = true then g a e else a) a = (x.filter p).foldl g a
  | [], _ => rfl
  | e :: x, a => by
    rw [List.foldl_cons, List.filter_cons]
    by_cases h : p e = true
    · rw [if_pos h, if_pos h, List.foldl_cons, foldl_guard p g x]
    · rw [if_neg h, if_neg h, foldl_guard p g x]
theorem foldl_flat {α β γ : Type} (f : γ → List α) (g : β → α → β) : ∀ (l : List γ) (a : β), l.foldl (fun a k => (f k).foldl g a) a = (l.flatMap f).foldl g a
  | [], _ => rfl
  | k :: l, a => by rw [List.foldl_cons, foldl_flat f g l, List.flatMap_cons, List.foldl_append]
/-- over all keys, over all elements of the key: over all elements -/
theorem foldl_rows {α β : Type} (key : α → Nat) (g : β → α → β) {x : List α} (hs : x.Pairwise fun a b => key a ≤ key b) {n : Nat} (hn : ∀ e ∈ x, key e < n) (a : β) :
    (List.range n).foldl (fun a k => x.foldl (fun a e => if decide (key e = k) = true then g a e else a) a) a = x.foldl g a := by
  have h1 : (fun (a : β) (k : Nat) => x.foldl (fun a e => if decide (key e = k) = true then g a e else a) a) = fun a k => (x.filter fun e => decide (key e = k)).foldl g a := by
    funext a k; exact foldl_guard _ g x a
  rw [h1, foldl_flat, rows_all key hs hn]
theorem foldl_comm {α β : Type} (g : β → α → β) : ∀ (x : List α) (_ : ∀ a ∈ x, ∀ b ∈ x, ∀ z, g (g z a) b = g (g z b) a) (e : α) (_ : ∀ b ∈ x, ∀ z, g (g z e) b = g (g z b) e) (z : β), x.foldl g (g z e) = g (x.foldl g z) e
  | [], _, _, _, _ => rfl
  | b :: x, hc, e, he, z => by
    rw [List.foldl_cons, List.foldl_cons, he b List.mem_cons_self]
    exact foldl_comm g x (fun a ha b hb => hc a (List.mem_cons_of_mem _ ha) b (List.mem_cons_of_mem _ hb)) e (fun b hb => he b (List.mem_cons_of_mem _ hb)) _
theorem foldl_rev {α β : Type} (g : β → α → β) : ∀ (x : List α) (_ : ∀ a ∈ x, ∀ b ∈ x, ∀ z, g (g z a) b = g (g z b) a) (z : β), x.reverse.foldl g z = x.foldl g z
  | [], _, _ => rfl
  | e :: x, hc, z => by
    have hc' : ∀ a ∈ x, ∀ b ∈ x, ∀ z, g (g z a) b = g (g z b) a := fun a ha b hb => hc a (List.mem_cons_of_mem _ ha) b (List.mem_cons_of_mem _ hb)
    rw [List.reverse_cons, List.foldl_append, foldl_rev g x hc', List.foldl_cons, List.foldl_cons, List.foldl_nil]
    exact (foldl_comm g x hc' e (fun b hb z => hc e List.mem_cons_self b (List.mem_cons_of_mem _ hb) z) z).symm
/-- over all keys downwards, over all elements of the key: over all elements backwards, where those of one key commute -/
theorem foldl_rows_down {α β : Type} (key : α → Nat) (g : β → α → β) {x : List α} (hs : x.Pairwise fun a b => key a ≤ key b) {n : Nat} (hn : ∀ e ∈ x, key e < n) (hc : ∀ a ∈ x, ∀ b ∈ x, key a = key b → ∀ z, g (g z a) b = g (g z b) a) (a : β) :
    (List.range n).reverse.foldl (fun a k => x.foldl (fun a e => if decide (key e = k) = true then g a e else a) a) a = x.reverse.foldl g a := by
  have h1 : (fun (a : β) (k : Nat) => x.foldl (fun a e => if decide (key e = k) = true then g a e else a) a) = fun a k => (x.filter fun e => decide (key e = k)).reverse.foldl g a := by
    funext a k
    rw [foldl_guard _ g x a]
    refine (foldl_rev g _ ?_ a).symm
    intro p hp q hq z
    obtain ⟨hp1, hp2⟩ := List.mem_filter.1 hp
    obtain ⟨hq1, hq2⟩ := List.mem_filter.1 hq
    simp only [decide_eq_true_eq] at hp2 hq2
    exact hc p hp1 q hq1 (hp2.trans hq2.symm) z
  rw [h1, foldl_flat]
  have h2 : ∀ (l : List Nat), (l.reverse.flatMap fun k => (x.filter fun e => decide (key e = k)).reverse) = (l.flatMap fun k => x.filter fun e => decide (key e = k)).reverse := by
    intro l
    induction l with
    | nil => rfl
    | cons k l ih => rw [List.reverse_cons, List.flatMap_append, ih]; simp
  rw [h2, rows_all key hs hn]
end Go.Proofs.YtcikndmmbfompaaGreatDoor
namespace Go.Proofs.YtcikndmmbfompaaGreatDoor

/-- more than the cost of any path -/
def NW : Int := 1099511627776
theorem NW_eq : NW = 1099511627776 := rfl
def fr (e : DEdge) : Nat := e.frm.toNat
def to (e : DEdge) : Nat := e.to_.toNat
def chain : Nat → List DEdge → Nat → Prop
  | u, [], v => u = v
  | u, e :: es, v => fr e = u ∧ chain (to e) es v
def csum : List DEdge → Int
  | [] => 0
  | e :: es => e.cost + csum es
def IsPath (x : List DEdge) (u v : Nat) (c : Int) : Prop := ∃ es, (∀ e ∈ es, e ∈ x) ∧ chain u es v ∧ csum es = c
/-- good edges of n nodes -/
def Good (n : Nat) (x : List DEdge) : Prop := ∀ e ∈ x, 0 ≤ e.frm ∧ e.frm < e.to_ ∧ e.to_ < n ∧ 0 ≤ e.cost ∧ e.cost ≤ 1000000
theorem Good.lt {n : Nat} {x : List DEdge} (h : Good n x) {e : DEdge} (he : e ∈ x) : fr e < to e ∧ to e < n := by
  have := h e he
  unfold fr to; omega
theorem chain_append : ∀ {u v : Nat} {es fs : List DEdge}, chain u (es ++ fs) v ↔ ∃ m, chain u es m ∧ chain m fs v
  | u, v, [], fs => by simp [chain]
  | u, v, e :: es, fs => by
    simp only [List.cons_append, chain, chain_append (es := es)]
    constructor
    · rintro ⟨h, m, h1, h2⟩; exact ⟨m, ⟨h, h1⟩, h2⟩
    · rintro ⟨m, ⟨h, h1⟩, h2⟩; exact ⟨h, m, h1, h2⟩
theorem csum_append : ∀ (es fs : List DEdge), csum (es ++ fs) = csum es + csum fs
  | [], fs => by simp [csum]
  | e :: es, fs => by simp only [List.cons_append, csum, csum_append es fs]; omega
theorem chain_le {n : Nat} {x : List DEdge} (h : Good n x) : ∀ {u v : Nat} {es : List DEdge} (_ : ∀ e ∈ es, e ∈ x) (_ : chain u es v), u ≤ v
  | u, v, [], _, hc => by simp [chain] at hc; omega
  | u, v, e :: es, hx, hc => by
    have h1 := h.lt (hx e List.mem_cons_self)
    have h2 := chain_le h (fun e he => hx e (List.mem_cons_of_mem _ he)) hc.2
    have := hc.1
    omega
theorem chain_cost {n : Nat} {x : List DEdge} (h : Good n x) : ∀ {u v : Nat} {es : List DEdge} (_ : ∀ e ∈ es, e ∈ x) (_ : chain u es v), 0 ≤ csum es ∧ csum es + 1000000 * (u : Int) ≤ 1000000 * (v : Int)
  | u, v, [], _, hc => by simp [chain] at hc; subst hc; simp [csum]
  | u, v, e :: es, hx, hc => by
    have h1 := h.lt (hx e List.mem_cons_self)
    have h0 := h e (hx e List.mem_cons_self)
    have h2 := chain_cost h (fun e he => hx e (List.mem_cons_of_mem _ he)) hc.2
    have := hc.1
    simp only [csum]
    omega
theorem path_cost {n : Nat} {x : List DEdge} (h : Good n x) {u v : Nat} {c : Int} (hp : IsPath x u v c) : u ≤ v ∧ 0 ≤ c ∧ c ≤ 1000000 * (v : Int) := by
  obtain ⟨es, h1, h2, rfl⟩ := hp
  have := chain_le h h1 h2
  have := chain_cost h h1 h2
  omega

def LeastOf (S : Int → Prop) (r : Int) : Prop := (r = NW ∧ ∀ c, ¬ S c) ∨ (r < NW ∧ S r ∧ ∀ c, S c → r ≤ c)
theorem LeastOf.uniq {S : Int → Prop} {r q : Int} (h : LeastOf S r) (k : LeastOf S q) : r = q := by
  rcases h with ⟨h1, h2⟩ | ⟨h1, h2, h3⟩ <;> rcases k with ⟨k1, k2⟩ | ⟨k1, k2, k3⟩
  · omega
  · exact absurd k2 (h2 _)
  · exact absurd h2 (k2 _)
  · have := h3 _ k2; have := k3 _ h2; omega
theorem LeastOf.congr {S T : Int → Prop} {r : Int} (h : LeastOf S r) (k : ∀ c, S c ↔ T c) : LeastOf T r := by
  rcases h with ⟨h1, h2⟩ | ⟨h1, h2, h3⟩
  · exact .inl ⟨h1, fun c hc => h2 c ((k c).2 hc)⟩
  · exact .inr ⟨h1, (k r).1 h2, fun c hc => h3 c ((k c).2 hc)⟩
theorem LeastOf.add {S T : Int → Prop} {r q d : Int} (h : LeastOf S r) (k : LeastOf T q) (hd : 0 ≤ d) (hb : q < NW → q + d < NW) : LeastOf (fun c => S c ∨ ∃ c0, T c0 ∧ c = c0 + d) (min r (q + d)) := by
  rcases h with ⟨h1, h2⟩ | ⟨h1, h2, h3⟩ <;> rcases k with ⟨k1, k2⟩ | ⟨k1, k2, k3⟩
  · refine .inl ⟨by omega, fun c hc => ?_⟩
    rcases hc with hc | ⟨c0, hc, _⟩
    · exact h2 c hc
    · exact k2 c0 hc
  · have := hb k1
    refine .inr ⟨by omega, .inr ⟨q, k2, by omega⟩, fun c hc => ?_⟩
    rcases hc with hc | ⟨c0, hc, rfl⟩
    · exact absurd hc (h2 c)
    · have := k3 c0 hc; omega
  · refine .inr ⟨by omega, .inl (by rw [show min r (q + d) = r by omega]; exact h2), fun c hc => ?_⟩
    rcases hc with hc | ⟨c0, hc, _⟩
    · have := h3 c hc; omega
    · exact absurd hc (k2 c0)
  · have := hb k1
    refine .inr ⟨by omega, ?_, fun c hc => ?_⟩
    · by_cases hle : r ≤ q + d
      · exact .inl (by rw [show min r (q + d) = r by omega]; exact h2)
      · exact .inr ⟨q, k2, by omega⟩
    · rcases hc with hc | ⟨c0, hc, rfl⟩
      · have := h3 c hc; omega
      · have := k3 c0 hc; omega

/-- the edges rise by their first nodes -/
def Rises (x : List DEdge) : Prop := x.Pairwise fun a b => fr a ≤ fr b
theorem Rises.last {x : List DEdge} (h : Rises x) {j : Nat} {e : DEdge} (he : x[j]? = some e) : ∀ f ∈ x.take (j + 1), fr f ≤ fr e := by
  intro f hf
  obtain ⟨i, hi⟩ := List.mem_iff_getElem?.1 hf
  rw [List.getElem?_take] at hi
  split at hi
  · rename_i hij
    by_cases hj : i = j
    · subst hj; rw [he] at hi; cases hi; exact Nat.le_refl _
    · obtain ⟨h1, rfl⟩ := List.getElem?_eq_some_iff.1 hi
      obtain ⟨h2, rfl⟩ := List.getElem?_eq_some_iff.1 he
      exact List.pairwise_iff_getElem.1 h i j h1 h2 (by omega)
  · cases hi
theorem Rises.first {x : List DEdge} (h : Rises x) {j : Nat} {e : DEdge} (he : x[j]? = some e) : ∀ f ∈ x.drop j, fr e ≤ fr f := by
  intro f hf
  obtain ⟨i, hi⟩ := List.mem_iff_getElem?.1 hf
  rw [List.getElem?_drop] at hi
  by_cases hj : i = 0
  · subst hj; simp at hi; rw [he] at hi; cases hi; exact Nat.le_refl _
  · obtain ⟨h1, rfl⟩ := List.getElem?_eq_some_iff.1 hi
    obtain ⟨h2, rfl⟩ := List.getElem?_eq_some_iff.1 he
    exact List.pairwise_iff_getElem.1 h j (j + i) h2 h1 (by omega)
theorem take_mem {x : List DEdge} {j : Nat} {e f : DEdge} (he : x[j]? = some e) (hf : f ∈ x.take (j + 1)) : f ∈ x.take j ∨ f = e := by
  rw [List.take_add_one, he] at hf
  simpa using hf
theorem path_from {n : Nat} {x : List DEdge} (hg : Good n x) (hr : Rises x) {j : Nat} {e : DEdge} (he : x[j]? = some e) (u v : Nat) (c : Int) :
    IsPath (x.take (j + 1)) u v c ↔ IsPath (x.take j) u v c ∨ (v = to e ∧ ∃ c0, IsPath (x.take j) u (fr e) c0 ∧ c = c0 + e.cost) := by
  have hex : e ∈ x := List.mem_of_getElem? he
  have hlt := hg.lt hex
  have hsub : ∀ f ∈ x.take (j + 1), f ∈ x := fun f hf => List.mem_of_mem_take hf
  have hel : e ∈ x.take (j + 1) := by rw [List.take_add_one, he]; simp
  constructor
  · rintro ⟨es, h1, h2, rfl⟩
    by_cases hin : e ∈ es
    · right
      obtain ⟨es1, es2, rfl⟩ := List.append_of_mem hin
      obtain ⟨m, h3, h4, h5⟩ := chain_append.1 h2
      cases es2 with
      | cons f es2 =>
        have := hr.last he f (h1 f (by simp))
        have h6 := h5.1
        omega
      | nil =>
        simp only [chain] at h5
        subst h4
        refine ⟨h5.symm, csum es1, ⟨es1, fun f hf => ?_, h3, rfl⟩, by rw [csum_append]; simp [csum]⟩
        rcases take_mem he (h1 f (by simp [hf])) with h | rfl
        · exact h
        · exfalso
          obtain ⟨e1, e2, rfl⟩ := List.append_of_mem hf
          obtain ⟨m, _, _, h7⟩ := chain_append.1 h3
          have := chain_le hg (fun g hg' => hsub g (h1 g (by simp [hg']))) h7
          omega
    · left
      refine ⟨es, fun f hf => ?_, h2, rfl⟩
      rcases take_mem he (h1 f hf) with h | rfl
      · exact h
      · exact absurd hf hin
  · rintro (⟨es, h1, h2, h3⟩ | ⟨rfl, c0, ⟨es, h1, h2, rfl⟩, rfl⟩)
    · exact ⟨es, fun f hf => by rw [List.take_add_one]; simp [h1 f hf], h2, h3⟩
    · refine ⟨es ++ [e], fun f hf => ?_, chain_append.2 ⟨_, h2, rfl, rfl⟩, by rw [csum_append]; simp [csum]⟩
      rcases List.mem_append.1 hf with h | h
      · rw [List.take_add_one]; simp [h1 f h]
      · simp at h; subst h; exact hel
theorem path_to {n : Nat} {x : List DEdge} (hg : Good n x) (hr : Rises x) {j : Nat} {e : DEdge} (he : x[j]? = some e) (u v : Nat) (c : Int) :
    IsPath (x.drop j) u v c ↔ IsPath (x.drop (j + 1)) u v c ∨ (u = fr e ∧ ∃ c0, IsPath (x.drop (j + 1)) (to e) v c0 ∧ c = c0 + e.cost) := by
  have hex : e ∈ x := List.mem_of_getElem? he
  have hlt := hg.lt hex
  have hd : x.drop j = e :: x.drop (j + 1) := by
    obtain ⟨h1, rfl⟩ := List.getElem?_eq_some_iff.1 he
    exact List.drop_eq_getElem_cons h1
  have hsub : ∀ f ∈ x.drop j, f ∈ x := fun f hf => List.mem_of_mem_drop hf
  constructor
  · rintro ⟨es, h1, h2, rfl⟩
    by_cases hin : e ∈ es
    · right
      obtain ⟨es1, es2, rfl⟩ := List.append_of_mem hin
      obtain ⟨m, h3, h4, h5⟩ := chain_append.1 h2
      rcases List.eq_nil_or_concat es1 with rfl | ⟨fs, f, rfl⟩
      · simp only [chain] at h3
        subst h3
        refine ⟨h4.symm, csum es2, ⟨es2, fun f hf => ?_, h5, rfl⟩, by simp [csum]; omega⟩
        have hm := h1 f (by simp [hf])
        rw [hd] at hm
        rcases List.mem_cons.1 hm with rfl | h
        · exfalso
          obtain ⟨e1, e2, rfl⟩ := List.append_of_mem hf
          obtain ⟨m, h6, h7, _⟩ := chain_append.1 h5
          have := chain_le hg (fun g hg' => hsub g (h1 g (by simp [hg']))) h6
          omega
        · exact h
      · exfalso
        rw [List.concat_eq_append] at h3 h1
        obtain ⟨m', h6, h7, h8⟩ := chain_append.1 h3
        simp only [chain] at h8
        have h9 := hr.first he f (h1 f (by simp))
        have h10 := hg.lt (hsub f (h1 f (by simp)))
        omega
    · left
      refine ⟨es, fun f hf => ?_, h2, rfl⟩
      have hm := h1 f hf
      rw [hd] at hm
      rcases List.mem_cons.1 hm with rfl | h
      · exact absurd hf hin
      · exact h
  · rintro (⟨es, h1, h2, h3⟩ | ⟨rfl, c0, ⟨es, h1, h2, rfl⟩, rfl⟩)
    · exact ⟨es, fun f hf => by rw [hd]; exact List.mem_cons_of_mem _ (h1 f hf), h2, h3⟩
    · refine ⟨e :: es, fun f hf => ?_, ⟨rfl, h2⟩, by simp [csum]; omega⟩
      rw [hd]
      rcases List.mem_cons.1 hf with rfl | h
      · exact List.mem_cons_self
      · exact List.mem_cons_of_mem _ (h1 f h)
end Go.Proofs.YtcikndmmbfompaaGreatDoor
namespace Go.Proofs.YtcikndmmbfompaaGreatDoor

def stepF (D : List Int) (e : DEdge) : List Int := D.set (to e) (min (D.getD (to e) 0) (D.getD (fr e) 0 + e.cost))
def stepB (D : List Int) (e : DEdge) : List Int := D.set (fr e) (min (D.getD (fr e) 0) (D.getD (to e) 0 + e.cost))
def startF (n : Nat) : List Int := (List.replicate n NW).set 0 0
def startB (n : Nat) : List Int := (List.replicate n NW).set (n - 1) 0
def distF (n : Nat) (x : List DEdge) : List Int := x.foldl stepF (startF n)
def distB (n : Nat) (x : List DEdge) : List Int := x.reverse.foldl stepB (startB n)

theorem stepF_len (D : List Int) (e : DEdge) : (stepF D e).length = D.length := by simp [stepF]
theorem stepB_len (D : List Int) (e : DEdge) : (stepB D e).length = D.length := by simp [stepB]
theorem foldF_len : ∀ (x : List DEdge) (D : List Int), (x.foldl stepF D).length = D.length
  | [], _ => rfl
  | e :: x, D => by rw [List.foldl_cons, foldF_len x, stepF_len]
theorem foldB_len : ∀ (x : List DEdge) (D : List Int), (x.foldl stepB D).length = D.length
  | [], _ => rfl
  | e :: x, D => by rw [List.foldl_cons, foldB_len x, stepB_len]
theorem distF_len (n : Nat) (x : List DEdge) : (distF n x).length = n := by rw [distF, foldF_len]; simp [startF]
theorem distB_len (n : Nat) (x : List DEdge) : (distB n x).length = n := by rw [distB, foldB_len]; simp [startB]
theorem getD_set {D : List Int} {i j : Nat} {v : Int} (hi : i < D.length) : (D.set i v).getD j 0 = if i = j then v else D.getD j 0 := by
  simp only [List.getD, List.getElem?_set]
  by_cases h : i = j
  · subst h; simp [hi]
  · simp [h]
theorem nil_path {u v : Nat} {c : Int} : IsPath [] u v c ↔ u = v ∧ c = 0 := by
  constructor
  · rintro ⟨es, h1, h2, rfl⟩
    cases es with
    | nil => exact ⟨h2, rfl⟩
    | cons e es => exact absurd (h1 e List.mem_cons_self) (by simp)
  · rintro ⟨rfl, rfl⟩
    exact ⟨[], by simp, rfl, rfl⟩
theorem least_lt {n : Nat} {x : List DEdge} (hg : Good n x) {u v : Nat} (_ : v ≤ 20) {r : Int} (h : LeastOf (IsPath x u v) r) : r < NW → 0 ≤ r ∧ r ≤ 1000000 * (v : Int) := by
  intro hr
  rcases h with ⟨h1, _⟩ | ⟨_, h2, _⟩
  · omega
  · have := path_cost hg h2; omega
theorem good_take {n : Nat} {x : List DEdge} (h : Good n x) (j : Nat) : Good n (x.take j) := fun e he => h e (List.mem_of_mem_take he)
theorem good_drop {n : Nat} {x : List DEdge} (h : Good n x) (j : Nat) : Good n (x.drop j) := fun e he => h e (List.mem_of_mem_drop he)

theorem distF_inv {n : Nat} {x : List DEdge} (hg : Good n x) (hr : Rises x) (hn : n ≤ 20) (h0 : 0 < n) : ∀ (j : Nat) (_ : j ≤ x.length) (v : Nat) (_ : v < n), LeastOf (IsPath (x.take j) 0 v) (((x.take j).foldl stepF (startF n)).getD v 0)
  | 0, _, v, hv => by
    rw [List.take_zero]
    simp only [List.foldl_nil]
    unfold startF
    rw [getD_set (by simpa using h0)]
    by_cases h : 0 = v
    · rw [if_pos h]
      exact .inr ⟨by decide, nil_path.2 ⟨h, rfl⟩, fun c hc => by have := (nil_path.1 hc).2; omega⟩
    · rw [if_neg h]
      exact .inl ⟨by simp [List.getD, hv], fun c hc => h (nil_path.1 hc).1⟩
  | j + 1, hj, v, hv => by
    obtain ⟨e, he⟩ : ∃ e, x[j]? = some e := ⟨_, List.getElem?_eq_getElem (by omega)⟩
    have hlt := hg.lt (List.mem_of_getElem? he)
    have hc := (hg e (List.mem_of_getElem? he)).2.2.2
    have ih := distF_inv hg hr hn h0 j (by omega)
    have hf : (x.take (j + 1)).foldl stepF (startF n) = stepF ((x.take j).foldl stepF (startF n)) e := by
      rw [List.take_add_one, he]; simp
    rw [hf, stepF, getD_set (by rw [foldF_len]; simp [startF]; omega)]
    by_cases h : to e = v
    · rw [if_pos h]
      subst h
      have hb : ((x.take j).foldl stepF (startF n)).getD (fr e) 0 < NW → ((x.take j).foldl stepF (startF n)).getD (fr e) 0 + e.cost < NW := by
        intro hlt2
        have := least_lt (good_take hg j) (by omega) (ih (fr e) (by omega)) hlt2
        rw [NW_eq]
        omega
      refine (LeastOf.add (ih _ hv) (ih (fr e) (by omega)) hc.1 hb).congr fun c => ?_
      rw [path_from hg hr he]
      simp
    · rw [if_neg h]
      refine (ih v hv).congr fun c => ?_
      rw [path_from hg hr he]
      constructor
      · exact fun h => .inl h
      · rintro (h1 | ⟨h1, _⟩)
        · exact h1
        · exact absurd h1.symm h
theorem distF_least {n : Nat} {x : List DEdge} (hg : Good n x) (hr : Rises x) (hn : n ≤ 20) (h0 : 0 < n) {v : Nat} (hv : v < n) : LeastOf (IsPath x 0 v) ((distF n x).getD v 0) := by
  have := distF_inv hg hr hn h0 x.length (Nat.le_refl _) v hv
  rwa [List.take_length] at this

theorem distB_inv {n : Nat} {x : List DEdge} (hg : Good n x) (hr : Rises x) (hn : n ≤ 20) (h0 : 0 < n) : ∀ (i : Nat) (j : Nat) (_ : j + i = x.length) (v : Nat) (_ : v < n), LeastOf (IsPath (x.drop j) v (n - 1)) (((x.drop j).reverse.foldl stepB (startB n)).getD v 0)
  | 0, j, hj, v, hv => by
    rw [List.drop_of_length_le (by omega)]
    simp only [List.reverse_nil, List.foldl_nil]
    unfold startB
    rw [getD_set (by simp; omega)]
    by_cases h : n - 1 = v
    · rw [if_pos h]
      exact .inr ⟨by decide, nil_path.2 ⟨h.symm, rfl⟩, fun c hc => by have := (nil_path.1 hc).2; omega⟩
    · rw [if_neg h]
      exact .inl ⟨by simp [List.getD, hv], fun c hc => h (nil_path.1 hc).1.symm⟩
  | i + 1, j, hj, v, hv => by
    obtain ⟨e, he⟩ : ∃ e, x[j]? = some e := ⟨_, List.getElem?_eq_getElem (by omega)⟩
    have hlt := hg.lt (List.mem_of_getElem? he)
    have hc := (hg e (List.mem_of_getElem? he)).2.2.2
    have ih := distB_inv hg hr hn h0 i (j + 1) (by omega)
    have hd : x.drop j = e :: x.drop (j + 1) := by
      obtain ⟨h1, rfl⟩ := List.getElem?_eq_some_iff.1 he
      exact List.drop_eq_getElem_cons h1
    have hf : (x.drop j).reverse.foldl stepB (startB n) = stepB ((x.drop (j + 1)).reverse.foldl stepB (startB n)) e := by
      rw [hd, List.reverse_cons, List.foldl_append]; rfl
    rw [hf, stepB, getD_set (by rw [foldB_len]; simp [startB]; omega)]
    by_cases h : fr e = v
    · rw [if_pos h]
      subst h
      have hb : ((x.drop (j + 1)).reverse.foldl stepB (startB n)).getD (to e) 0 < NW → ((x.drop (j + 1)).reverse.foldl stepB (startB n)).getD (to e) 0 + e.cost < NW := by
        intro hlt2
        have := least_lt (good_drop hg (j + 1)) (by omega) (ih (to e) (by omega)) hlt2
        rw [NW_eq]
        omega
      refine (LeastOf.add (ih _ hv) (ih (to e) (by omega)) hc.1 hb).congr fun c => ?_
      rw [path_to hg hr he]
      simp
    · rw [if_neg h]
      refine (ih v hv).congr fun c => ?_
      rw [path_to hg hr he]
      constructor
      · exact fun h => .inl h
      · rintro (h1 | ⟨h1, _⟩)
        · exact h1
        · exact absurd h1.symm h
theorem distB_least {n : Nat} {x : List DEdge} (hg : Good n x) (hr : Rises x) (hn : n ≤ 20) (h0 : 0 < n) {v : Nat} (hv : v < n) : LeastOf (IsPath x v (n - 1)) ((distB n x).getD v 0) := by
  have := distB_inv hg hr hn h0 x.length 0 (by omega) v hv
  rwa [List.drop_zero] at this
/-- from the first node to the last one: both passes find the same -/
theorem dist_same {n : Nat} {x : List DEdge} (hg : Good n x) (hr : Rises x) (hn : n ≤ 20) (h0 : 0 < n) : (distF n x).getD (n - 1) 0 = (distB n x).getD 0 0 :=
  (distF_least hg hr hn h0 (v := n - 1) (by omega)).uniq (distB_least hg hr hn h0 h0)

/-- the values of one pass: no way, or small -/
def okD (D : List Int) : Prop := ∀ (k : Nat) (r : Int), D[k]? = some r → r = NW ∨ (0 ≤ r ∧ r ≤ 1000000 * 20)
theorem distF_ok {n : Nat} {x : List DEdge} (hg : Good n x) (hr : Rises x) (hn : n ≤ 20) (h0 : 0 < n) {j : Nat} (hj : j ≤ x.length) : okD ((x.take j).foldl stepF (startF n)) := by
  intro k r hk
  have hk' : k < n := by
    have := (List.getElem?_eq_some_iff.1 hk).1
    rw [foldF_len] at this
    simpa [startF] using this
  have h1 := distF_inv hg hr hn h0 j hj k hk'
  rw [show ((x.take j).foldl stepF (startF n)).getD k 0 = r by simp [List.getD, hk]] at h1
  have h2 := least_lt (good_take hg j) (by omega) h1
  rcases h1 with ⟨h3, _⟩ | ⟨h3, _, _⟩
  · exact .inl h3
  · have := h2 h3; exact .inr (by omega)
end Go.Proofs.YtcikndmmbfompaaGreatDoor
namespace Go.Proofs.YtcikndmmbfompaaGreatDoor

theorem valid_good {n : Nat} {x : List DEdge} (h : validLt ((n : Int), x) = true) : Good n x := by
  intro e he
  obtain ⟨k, hk⟩ := List.mem_iff_getElem?.1 he
  exact valid_fit h hk
theorem ordE_frm {a b : DEdge} (h : ordE a b < 0) : a.frm ≤ b.frm := by
  unfold ordE at h
  by_cases h1 : a.frm = b.frm
  · omega
  · rw [if_pos h1] at h
    unfold cmpI at h
    split at h
    · omega
    · split at h <;> omega
theorem valid_next {n : Int} {x : List DEdge} (h : validLt (n, x) = true) {k : Nat} {p e : DEdge} (hp : x[k]? = some p) (he : x[k + 1]? = some e) : fr p ≤ fr e := by
  have h1 : validEd n x = true := by simp [validLt] at h; exact h.2
  have h2 := validEd_mem h1 he
  simp [edOk] at h2
  have h3 := h2.2
  simp [ordAtE, hp] at h3
  have := ordE_frm h3
  unfold fr; omega
theorem valid_rises {n : Int} {x : List DEdge} (h : validLt (n, x) = true) : Rises x := by
  have key : ∀ (d i : Nat) (a b : DEdge), x[i]? = some a → x[i + d]? = some b → fr a ≤ fr b := by
    intro d
    induction d with
    | zero => intro i a b ha hb; rw [Nat.add_zero, ha] at hb; cases hb; exact Nat.le_refl _
    | succ d ih =>
      intro i a b ha hb
      have hlt := (List.getElem?_eq_some_iff.1 hb).1
      obtain ⟨c, hc⟩ : ∃ c, x[i + d]? = some c := ⟨_, List.getElem?_eq_getElem (by omega)⟩
      exact Nat.le_trans (ih i a c ha hc) (valid_next h hc hb)
  refine List.pairwise_iff_getElem.2 fun i j hi hj hij => ?_
  obtain ⟨d, rfl⟩ : ∃ d, j = i + d := ⟨j - i, by omega⟩
  exact key d i _ _ (List.getElem?_eq_getElem hi) (List.getElem?_eq_getElem hj)

def enc1 (r : Int) : Int := if r = NW then -1 else r
def encD (D : List Int) : List Int := D.map enc1
theorem encD_len (D : List Int) : (encD D).length = D.length := by simp [encD]
theorem encD_get {D : List Int} {k : Nat} {r : Int} (h : D[k]? = some r) : (encD D)[k]? = some (enc1 r) := by simp [encD, h]
theorem encD_set (D : List Int) (k : Nat) (r : Int) : encD (D.set k r) = (encD D).set k (enc1 r) := by simp [encD, List.map_set]
theorem enc1_no : enc1 NW = -1 := if_pos rfl
theorem enc1_yes {r : Int} (h : r ≠ NW) : enc1 r = r := if_neg h
theorem set_self {D : List Int} {k : Nat} {r : Int} (h : D[k]? = some r) : D.set k r = D := by
  refine List.ext_getElem? fun i => ?_
  by_cases e : k = i
  · subst e
    rw [List.getElem?_set_self (List.getElem?_eq_some_iff.1 h).1, h]
  · rw [List.getElem?_set_ne e]
theorem getD_of {D : List Int} {k : Nat} {r : Int} (h : D[k]? = some r) : D.getD k 0 = r := by simp [List.getD, h]

/-- what a list of costs holds, by its places -/
def okV (f : Nat → Int) (D : List Int) : Prop := ∀ (k : Nat) (r : Int), D[k]? = some r → r = NW ∨ (0 ≤ r ∧ r ≤ f k)
def upF (k : Nat) : Int := 1000000 * (k : Int)
def upB (n k : Nat) : Int := 1000000 * ((n : Int) - 1 - (k : Int))
theorem okV_set {f : Nat → Int} {D : List Int} (h : okV f D) {k : Nat} {v : Int} (hv : v = NW ∨ (0 ≤ v ∧ v ≤ f k)) : okV f (D.set k v) := by
  intro i r hr
  by_cases e : k = i
  · subst e
    have hl := (List.getElem?_eq_some_iff.1 hr).1
    rw [List.length_set] at hl
    rw [List.getElem?_set_self hl] at hr
    cases hr; exact hv
  · rw [List.getElem?_set_ne e] at hr
    exact h i r hr
theorem okV_startF (n : Nat) : okV upF (startF n) := by
  refine okV_set (fun i r hr => ?_) (.inr (by simp [upF]))
  left
  simp [List.getElem?_replicate] at hr
  exact hr.2.symm
theorem okV_startB (n : Nat) : okV (upB n) (startB n) := by
  by_cases h0 : n = 0
  · subst h0; intro i r hr; simp [startB] at hr
  · refine okV_set (fun i r hr => ?_) (.inr (by unfold upB; omega))
    left
    simp [List.getElem?_replicate] at hr
    exact hr.2.symm
/-- one edge, from the first node on: the three ways -/
theorem stepF_no {D : List Int} {e : DEdge} {r1 r2 : Int} (h1 : D[fr e]? = some r1) (h2 : D[to e]? = some r2) (hr : r1 = NW) (hc : 0 ≤ e.cost) (hb : r2 ≤ NW) : stepF D e = D := by
  rw [stepF, getD_of h1, getD_of h2, show min r2 (r1 + e.cost) = r2 by omega, set_self h2]
theorem stepF_set {D : List Int} {e : DEdge} {r1 r2 : Int} (h1 : D[fr e]? = some r1) (h2 : D[to e]? = some r2) (hlt : r1 + e.cost < r2) : stepF D e = D.set (to e) (r1 + e.cost) := by
  rw [stepF, getD_of h1, getD_of h2, show min r2 (r1 + e.cost) = r1 + e.cost by omega]
theorem stepF_keep {D : List Int} {e : DEdge} {r1 r2 : Int} (h1 : D[fr e]? = some r1) (h2 : D[to e]? = some r2) (hle : r2 ≤ r1 + e.cost) : stepF D e = D := by
  rw [stepF, getD_of h1, getD_of h2, show min r2 (r1 + e.cost) = r2 by omega, set_self h2]
theorem stepB_no {D : List Int} {e : DEdge} {r1 r2 : Int} (h1 : D[to e]? = some r1) (h2 : D[fr e]? = some r2) (hr : r1 = NW) (hc : 0 ≤ e.cost) (hb : r2 ≤ NW) : stepB D e = D := by
  rw [stepB, getD_of h1, getD_of h2, show min r2 (r1 + e.cost) = r2 by omega, set_self h2]
theorem stepB_set {D : List Int} {e : DEdge} {r1 r2 : Int} (h1 : D[to e]? = some r1) (h2 : D[fr e]? = some r2) (hlt : r1 + e.cost < r2) : stepB D e = D.set (fr e) (r1 + e.cost) := by
  rw [stepB, getD_of h1, getD_of h2, show min r2 (r1 + e.cost) = r1 + e.cost by omega]
theorem stepB_keep {D : List Int} {e : DEdge} {r1 r2 : Int} (h1 : D[to e]? = some r1) (h2 : D[fr e]? = some r2) (hle : r2 ≤ r1 + e.cost) : stepB D e = D := by
  rw [stepB, getD_of h1, getD_of h2, show min r2 (r1 + e.cost) = r2 by omega, set_self h2]

/-- node by node -/
def gF (k : Nat) (D : List Int) (e : DEdge) : List Int := if fr e = k then stepF D e else D
def gB (k : Nat) (D : List Int) (e : DEdge) : List Int := if fr e = k then stepB D e else D
def farTo (n : Nat) (x : List DEdge) : Nat → List Int
  | 0 => startF n
  | k + 1 => x.foldl (gF k) (farTo n x k)
def backTo (n : Nat) (x : List DEdge) : Nat → List Int
  | 0 => startB n
  | m + 1 => x.foldl (gB (n - 1 - m)) (backTo n x m)
theorem fold_take {g : List Int → DEdge → List Int} {D : List Int} {x : List DEdge} {j : Nat} {e : DEdge} (h : x[j]? = some e) : (x.take (j + 1)).foldl g D = g ((x.take j).foldl g D) e := by
  rw [List.take_add_one, h]; simp
theorem farTo_fold (n : Nat) (x : List DEdge) : ∀ m, farTo n x m = (List.range m).foldl (fun a k => x.foldl (fun a e => if decide (fr e = k) = true then stepF a e else a) a) (startF n)
  | 0 => rfl
  | m + 1 => by
    rw [List.range_succ, List.foldl_append, ← farTo_fold n x m]
    simp only [List.foldl_cons, List.foldl_nil, farTo]
    congr 1
    funext a e
    simp [gF]
theorem farTo_all {n : Nat} {x : List DEdge} (hg : Good n x) (hr : Rises x) : farTo n x n = distF n x := by
  rw [farTo_fold, foldl_rows fr stepF hr (fun e he => by have := hg.lt he; omega)]
  rfl
theorem backTo_fold (n : Nat) (x : List DEdge) : ∀ m, m ≤ n → backTo n x m = ((List.range n).reverse.take m).foldl (fun a k => x.foldl (fun a e => if decide (fr e = k) = true then stepB a e else a) a) (startB n)
  | 0, _ => by simp [backTo]
  | m + 1, hm => by
    have hx : (List.range n).reverse[m]? = some (n - 1 - m) := by
      rw [List.getElem?_reverse (by simp; omega), List.length_range, List.getElem?_range (by omega)]
    rw [List.take_add_one, hx, List.foldl_append, ← backTo_fold n x m (by omega)]
    simp only [Option.toList, List.foldl_cons, List.foldl_nil, backTo]
    congr 1
    funext a e
    simp [gB]
theorem stepB_comm {n : Nat} {x : List DEdge} (hg : Good n x) {a b : DEdge} (ha : a ∈ x) (hb : b ∈ x) (h : fr a = fr b) (z : List Int) : stepB (stepB z a) b = stepB (stepB z b) a := by
  have la := hg.lt ha
  have lb := hg.lt hb
  unfold stepB
  rw [h]
  by_cases hl : fr b < z.length
  · rw [getD_set hl, if_pos rfl, getD_set hl, if_neg (by omega), getD_set hl, if_pos rfl, getD_set hl, if_neg (by omega), List.set_set, List.set_set]
    congr 1
    omega
  · have e1 : ∀ v, z.set (fr b) v = z := fun v => List.set_eq_of_length_le (by omega)
    simp only [e1]
theorem backTo_all {n : Nat} {x : List DEdge} (hg : Good n x) (hr : Rises x) : backTo n x n = distB n x := by
  rw [backTo_fold n x n (Nat.le_refl _), List.take_of_length_le (by simp)]
  rw [foldl_rows_down fr stepB hr (fun e he => by have := hg.lt he; omega) (fun a ha b hb h z => stepB_comm hg ha hb h z)]
  rfl
end Go.Proofs.YtcikndmmbfompaaGreatDoor
