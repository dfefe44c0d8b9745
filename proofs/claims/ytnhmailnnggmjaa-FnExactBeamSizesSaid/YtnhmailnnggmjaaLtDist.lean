/- Least costs of paths in a good lattice, from the first node and to the last one. Plain lemmas, no program. -/
import Derived.Test.YtnhmailnnggmjaaLtPath
import Derived.Test.YtnhmailnnggmjaaFold
namespace Go.Proofs.Ytnhmailnnggmjaa

/-- more than the cost of any path -/
def NW : Int := 1099511627776
theorem NW_eq : NW = 1099511627776 := rfl
def fr (e : DEdge) : Nat := e.frm.toNat
def to (e : DEdge) : Nat := e.to_.toNat
def chain : Nat → List DEdge → Nat → Prop
  | u, [], v => u = v
  | u, e :: es, v => fr e = u ∧ chain (to e) es v
def csum : List DEdge → Int
  | [] => 0
  | e :: es => e.cost + csum es
def IsPath (x : List DEdge) (u v : Nat) (c : Int) : Prop := ∃ es, (∀ e ∈ es, e ∈ x) ∧ chain u es v ∧ csum es = c
/-- good edges of n nodes -/
def Good (n : Nat) (x : List DEdge) : Prop := ∀ e ∈ x, 0 ≤ e.frm ∧ e.frm < e.to_ ∧ e.to_ < n ∧ 0 ≤ e.cost ∧ e.cost ≤ 1000000
theorem Good.lt {n : Nat} {x : List DEdge} (h : Good n x) {e : DEdge} (he : e ∈ x) : fr e < to e ∧ to e < n := by
  have := h e he
  unfold fr to; omega
theorem chain_append : ∀ {u v : Nat} {es fs : List DEdge}, chain u (es ++ fs) v ↔ ∃ m, chain u es m ∧ chain m fs v
  | u, v, [], fs => by simp [chain]
  | u, v, e :: es, fs => by
    simp only [List.cons_append, chain, chain_append (es := es)]
    constructor
    · rintro ⟨h, m, h1, h2⟩; exact ⟨m, ⟨h, h1⟩, h2⟩
    · rintro ⟨m, ⟨h, h1⟩, h2⟩; exact ⟨h, m, h1, h2⟩
theorem csum_append : ∀ (es fs : List DEdge), csum (es ++ fs) = csum es + csum fs
  | [], fs => by simp [csum]
  | e :: es, fs => by simp only [List.cons_append, csum, csum_append es fs]; omega
theorem chain_le {n : Nat} {x : List DEdge} (h : Good n x) : ∀ {u v : Nat} {es : List DEdge} (_ : ∀ e ∈ es, e ∈ x) (_ : chain u es v), u ≤ v
  | u, v, [], _, hc => by simp [chain] at hc; omega
  | u, v, e :: es, hx, hc => by
    have h1 := h.lt (hx e List.mem_cons_self)
    have h2 := chain_le h (fun e he => hx e (List.mem_cons_of_mem _ he)) hc.2
    have := hc.1
    omega
theorem chain_cost {n : Nat} {x : List DEdge} (h : Good n x) : ∀ {u v : Nat} {es : List DEdge} (_ : ∀ e ∈ es, e ∈ x) (_ : chain u es v), 0 ≤ csum es ∧ csum es + 1000000 * (u : Int) ≤ 1000000 * (v : Int)
  | u, v, [], _, hc => by simp [chain] at hc; subst hc; simp [csum]
  | u, v, e :: es, hx, hc => by
    have h1 := h.lt (hx e List.mem_cons_self)
    have h0 := h e (hx e List.mem_cons_self)
    have h2 := chain_cost h (fun e he => hx e (List.mem_cons_of_mem _ he)) hc.2
    have := hc.1
    simp only [csum]
    omega
theorem path_cost {n : Nat} {x : List DEdge} (h : Good n x) {u v : Nat} {c : Int} (hp : IsPath x u v c) : u ≤ v ∧ 0 ≤ c ∧ c ≤ 1000000 * (v : Int) := by
  obtain ⟨es, h1, h2, rfl⟩ := hp
  have := chain_le h h1 h2
  have := chain_cost h h1 h2
  omega

def LeastOf (S : Int → Prop) (r : Int) : Prop := (r = NW ∧ ∀ c, ¬ S c) ∨ (r < NW ∧ S r ∧ ∀ c, S c → r ≤ c)
theorem LeastOf.uniq {S : Int → Prop} {r q : Int} (h : LeastOf S r) (k : LeastOf S q) : r = q := by
  rcases h with ⟨h1, h2⟩ | ⟨h1, h2, h3⟩ <;> rcases k with ⟨k1, k2⟩ | ⟨k1, k2, k3⟩
  · omega
  · exact absurd k2 (h2 _)
  · exact absurd h2 (k2 _)
  · have := h3 _ k2; have := k3 _ h2; omega
theorem LeastOf.congr {S T : Int → Prop} {r : Int} (h : LeastOf S r) (k : ∀ c, S c ↔ T c) : LeastOf T r := by
  rcases h with ⟨h1, h2⟩ | ⟨h1, h2, h3⟩
  · exact .inl ⟨h1, fun c hc => h2 c ((k c).2 hc)⟩
  · exact .inr ⟨h1, (k r).1 h2, fun c hc => h3 c ((k c).2 hc)⟩
theorem LeastOf.add {S T : Int → Prop} {r q d : Int} (h : LeastOf S r) (k : LeastOf T q) (hd : 0 ≤ d) (hb : q < NW → q + d < NW) : LeastOf (fun c => S c ∨ ∃ c0, T c0 ∧ c = c0 + d) (min r (q + d)) := by
  rcases h with ⟨h1, h2⟩ | ⟨h1, h2, h3⟩ <;> rcases k with ⟨k1, k2⟩ | ⟨k1, k2, k3⟩
  · refine .inl ⟨by omega, fun c hc => ?_⟩
    rcases hc with hc | ⟨c0, hc, _⟩
    · exact h2 c hc
    · exact k2 c0 hc
  · have := hb k1
    refine .inr ⟨by omega, .inr ⟨q, k2, by omega⟩, fun c hc => ?_⟩
    rcases hc with hc | ⟨c0, hc, rfl⟩
    · exact absurd hc (h2 c)
    · have := k3 c0 hc; omega
  · refine .inr ⟨by omega, .inl (by rw [show min r (q + d) = r by omega]; exact h2), fun c hc => ?_⟩
    rcases hc with hc | ⟨c0, hc, _⟩
    · have := h3 c hc; omega
    · exact absurd hc (k2 c0)
  · have := hb k1
    refine .inr ⟨by omega, ?_, fun c hc => ?_⟩
    · by_cases hle : r ≤ q + d
      · exact .inl (by rw [show min r (q + d) = r by omega]; exact h2)
      · exact .inr ⟨q, k2, by omega⟩
    · rcases hc with hc | ⟨c0, hc, rfl⟩
      · have := h3 c hc; omega
      · have := k3 c0 hc; omega

/-- the edges rise by their first nodes -/
def Rises (x : List DEdge) : Prop := x.Pairwise fun a b => fr a ≤ fr b
theorem Rises.last {x : List DEdge} (h : Rises x) {j : Nat} {e : DEdge} (he : x[j]? = some e) : ∀ f ∈ x.take (j + 1), fr f ≤ fr e := by
  intro f hf
  obtain ⟨i, hi⟩ := List.mem_iff_getElem?.1 hf
  rw [List.getElem?_take] at hi
  split at hi
  · rename_i hij
    by_cases hj : i = j
    · subst hj; rw [he] at hi; cases hi; exact Nat.le_refl _
    · obtain ⟨h1, rfl⟩ := List.getElem?_eq_some_iff.1 hi
      obtain ⟨h2, rfl⟩ := List.getElem?_eq_some_iff.1 he
      exact List.pairwise_iff_getElem.1 h i j h1 h2 (by omega)
  · cases hi
theorem Rises.first {x : List DEdge} (h : Rises x) {j : Nat} {e : DEdge} (he : x[j]? = some e) : ∀ f ∈ x.drop j, fr e ≤ fr f := by
  intro f hf
  obtain ⟨i, hi⟩ := List.mem_iff_getElem?.1 hf
  rw [List.getElem?_drop] at hi
  by_cases hj : i = 0
  · subst hj; simp at hi; rw [he] at hi; cases hi; exact Nat.le_refl _
  · obtain ⟨h1, rfl⟩ := List.getElem?_eq_some_iff.1 hi
    obtain ⟨h2, rfl⟩ := List.getElem?_eq_some_iff.1 he
    exact List.pairwise_iff_getElem.1 h j (j + i) h2 h1 (by omega)
theorem take_mem {x : List DEdge} {j : Nat} {e f : DEdge} (he : x[j]? = some e) (hf : f ∈ x.take (j + 1)) : f ∈ x.take j ∨ f = e := by
  rw [List.take_add_one, he] at hf
  simpa using hf
theorem path_from {n : Nat} {x : List DEdge} (hg : Good n x) (hr : Rises x) {j : Nat} {e : DEdge} (he : x[j]? = some e) (u v : Nat) (c : Int) :
    IsPath (x.take (j + 1)) u v c ↔ IsPath (x.take j) u v c ∨ (v = to e ∧ ∃ c0, IsPath (x.take j) u (fr e) c0 ∧ c = c0 + e.cost) := by
  have hex : e ∈ x := List.mem_of_getElem? he
  have hlt := hg.lt hex
  have hsub : ∀ f ∈ x.take (j + 1), f ∈ x := fun f hf => List.mem_of_mem_take hf
  have hel : e ∈ x.take (j + 1) := by rw [List.take_add_one, he]; simp
  constructor
  · rintro ⟨es, h1, h2, rfl⟩
    by_cases hin : e ∈ es
    · right
      obtain ⟨es1, es2, rfl⟩ := List.append_of_mem hin
      obtain ⟨m, h3, h4, h5⟩ := chain_append.1 h2
      cases es2 with
      | cons f es2 =>
        have := hr.last he f (h1 f (by simp))
        have h6 := h5.1
        omega
      | nil =>
        simp only [chain] at h5
        subst h4
        refine ⟨h5.symm, csum es1, ⟨es1, fun f hf => ?_, h3, rfl⟩, by rw [csum_append]; simp [csum]⟩
        rcases take_mem he (h1 f (by simp [hf])) with h | rfl
        · exact h
        · exfalso
          obtain ⟨e1, e2, rfl⟩ := List.append_of_mem hf
          obtain ⟨m, _, _, h7⟩ := chain_append.1 h3
          have := chain_le hg (fun g hg' => hsub g (h1 g (by simp [hg']))) h7
          omega
    · left
      refine ⟨es, fun f hf => ?_, h2, rfl⟩
      rcases take_mem he (h1 f hf) with h | rfl
      · exact h
      · exact absurd hf hin
  · rintro (⟨es, h1, h2, h3⟩ | ⟨rfl, c0, ⟨es, h1, h2, rfl⟩, rfl⟩)
    · exact ⟨es, fun f hf => by rw [List.take_add_one]; simp [h1 f hf], h2, h3⟩
    · refine ⟨es ++ [e], fun f hf => ?_, chain_append.2 ⟨_, h2, rfl, rfl⟩, by rw [csum_append]; simp [csum]⟩
      rcases List.mem_append.1 hf with h | h
      · rw [List.take_add_one]; simp [h1 f h]
      · simp at h; subst h; exact hel
theorem path_to {n : Nat} {x : List DEdge} (hg : Good n x) (hr : Rises x) {j : Nat} {e : DEdge} (he : x[j]? = some e) (u v : Nat) (c : Int) :
    IsPath (x.drop j) u v c ↔ IsPath (x.drop (j + 1)) u v c ∨ (u = fr e ∧ ∃ c0, IsPath (x.drop (j + 1)) (to e) v c0 ∧ c = c0 + e.cost) := by
  have hex : e ∈ x := List.mem_of_getElem? he
  have hlt := hg.lt hex
  have hd : x.drop j = e :: x.drop (j + 1) := by
    obtain ⟨h1, rfl⟩ := List.getElem?_eq_some_iff.1 he
    exact List.drop_eq_getElem_cons h1
  have hsub : ∀ f ∈ x.drop j, f ∈ x := fun f hf => List.mem_of_mem_drop hf
  constructor
  · rintro ⟨es, h1, h2, rfl⟩
    by_cases hin : e ∈ es
    · right
      obtain ⟨es1, es2, rfl⟩ := List.append_of_mem hin
      obtain ⟨m, h3, h4, h5⟩ := chain_append.1 h2
      rcases List.eq_nil_or_concat es1 with rfl | ⟨fs, f, rfl⟩
      · simp only [chain] at h3
        subst h3
        refine ⟨h4.symm, csum es2, ⟨es2, fun f hf => ?_, h5, rfl⟩, by simp [csum]; omega⟩
        have hm := h1 f (by simp [hf])
        rw [hd] at hm
        rcases List.mem_cons.1 hm with rfl | h
        · exfalso
          obtain ⟨e1, e2, rfl⟩ := List.append_of_mem hf
          obtain ⟨m, h6, h7, _⟩ := chain_append.1 h5
          have := chain_le hg (fun g hg' => hsub g (h1 g (by simp [hg']))) h6
          omega
        · exact h
      · exfalso
        rw [List.concat_eq_append] at h3 h1
        obtain ⟨m', h6, h7, h8⟩ := chain_append.1 h3
        simp only [chain] at h8
        have h9 := hr.first he f (h1 f (by simp))
        have h10 := hg.lt (hsub f (h1 f (by simp)))
        omega
    · left
      refine ⟨es, fun f hf => ?_, h2, rfl⟩
      have hm := h1 f hf
      rw [hd] at hm
      rcases List.mem_cons.1 hm with rfl | h
      · exact absurd hf hin
      · exact h
  · rintro (⟨es, h1, h2, h3⟩ | ⟨rfl, c0, ⟨es, h1, h2, rfl⟩, rfl⟩)
    · exact ⟨es, fun f hf => by rw [hd]; exact List.mem_cons_of_mem _ (h1 f hf), h2, h3⟩
    · refine ⟨e :: es, fun f hf => ?_, ⟨rfl, h2⟩, by simp [csum]; omega⟩
      rw [hd]
      rcases List.mem_cons.1 hf with rfl | h
      · exact List.mem_cons_self
      · exact List.mem_cons_of_mem _ (h1 f h)
end Go.Proofs.Ytnhmailnnggmjaa
