/- The least costs by one pass over the edges, forwards and backwards; the reference's rounds over the nodes come to the same. Plain lemmas, no program. -/
import Derived.Test.YtnhmailnnggmjaaLtDist
namespace Go.Proofs.Ytnhmailnnggmjaa

def stepF (D : List Int) (e : DEdge) : List Int := D.set (to e) (min (D.getD (to e) 0) (D.getD (fr e) 0 + e.cost))
def stepB (D : List Int) (e : DEdge) : List Int := D.set (fr e) (min (D.getD (fr e) 0) (D.getD (to e) 0 + e.cost))
def startF (n : Nat) : List Int := (List.replicate n NW).set 0 0
def startB (n : Nat) : List Int := (List.replicate n NW).set (n - 1) 0
def distF (n : Nat) (x : List DEdge) : List Int := x.foldl stepF (startF n)
def distB (n : Nat) (x : List DEdge) : List Int := x.reverse.foldl stepB (startB n)

theorem stepF_len (D : List Int) (e : DEdge) : (stepF D e).length = D.length := by simp [stepF]
theorem stepB_len (D : List Int) (e : DEdge) : (stepB D e).length = D.length := by simp [stepB]
theorem foldF_len : ∀ (x : List DEdge) (D : List Int), (x.foldl stepF D).length = D.length
  | [], _ => rfl
  | e :: x, D => by rw [List.foldl_cons, foldF_len x, stepF_len]
theorem foldB_len : ∀ (x : List DEdge) (D : List Int), (x.foldl stepB D).length = D.length
  | [], _ => rfl
  | e :: x, D => by rw [List.foldl_cons, foldB_len x, stepB_len]
theorem distF_len (n : Nat) (x : List DEdge) : (distF n x).length = n := by rw [distF, foldF_len]; simp [startF]
theorem distB_len (n : Nat) (x : List DEdge) : (distB n x).length = n := by rw [distB, foldB_len]; simp [startB]
theorem getD_set {D : List Int} {i j : Nat} {v : Int} (hi : i < D.length) : (D.set i v).getD j 0 = if i = j then v else D.getD j 0 := by
  simp only [List.getD, List.getElem?_set]
  by_cases h : i = j
  · subst h; simp [hi]
  · simp [h]
theorem nil_path {u v : Nat} {c : Int} : IsPath [] u v c ↔ u = v ∧ c = 0 := by
  constructor
  · rintro ⟨es, h1, h2, rfl⟩
    cases es with
    | nil => exact ⟨h2, rfl⟩
    | cons e es => exact absurd (h1 e List.mem_cons_self) (by simp)
  · rintro ⟨rfl, rfl⟩
    exact ⟨[], by simp, rfl, rfl⟩
theorem least_lt {n : Nat} {x : List DEdge} (hg : Good n x) {u v : Nat} (_ : v ≤ 20) {r : Int} (h : LeastOf (IsPath x u v) r) : r < NW → 0 ≤ r ∧ r ≤ 1000000 * (v : Int) := by
  intro hr
  rcases h with ⟨h1, _⟩ | ⟨_, h2, _⟩
  · omega
  · have := path_cost hg h2; omega
theorem good_take {n : Nat} {x : List DEdge} (h : Good n x) (j : Nat) : Good n (x.take j) := fun e he => h e (List.mem_of_mem_take he)
theorem good_drop {n : Nat} {x : List DEdge} (h : Good n x) (j : Nat) : Good n (x.drop j) := fun e he => h e (List.mem_of_mem_drop he)

theorem distF_inv {n : Nat} {x : List DEdge} (hg : Good n x) (hr : Rises x) (hn : n ≤ 20) (h0 : 0 < n) : ∀ (j : Nat) (_ : j ≤ x.length) (v : Nat) (_ : v < n), LeastOf (IsPath (x.take j) 0 v) (((x.take j).foldl stepF (startF n)).getD v 0)
  | 0, _, v, hv => by
    rw [List.take_zero]
    simp only [List.foldl_nil]
    unfold startF
    rw [getD_set (by simpa using h0)]
    by_cases h : 0 = v
    · rw [if_pos h]
      exact .inr ⟨by decide, nil_path.2 ⟨h, rfl⟩, fun c hc => by have := (nil_path.1 hc).2; omega⟩
    · rw [if_neg h]
      exact .inl ⟨by simp [List.getD, hv], fun c hc => h (nil_path.1 hc).1⟩
  | j + 1, hj, v, hv => by
    obtain ⟨e, he⟩ : ∃ e, x[j]? = some e := ⟨_, List.getElem?_eq_getElem (by omega)⟩
    have hlt := hg.lt (List.mem_of_getElem? he)
    have hc := (hg e (List.mem_of_getElem? he)).2.2.2
    have ih := distF_inv hg hr hn h0 j (by omega)
    have hf : (x.take (j + 1)).foldl stepF (startF n) = stepF ((x.take j).foldl stepF (startF n)) e := by
      rw [List.take_add_one, he]; simp
    rw [hf, stepF, getD_set (by rw [foldF_len]; simp [startF]; omega)]
    by_cases h : to e = v
    · rw [if_pos h]
      subst h
      have hb : ((x.take j).foldl stepF (startF n)).getD (fr e) 0 < NW → ((x.take j).foldl stepF (startF n)).getD (fr e) 0 + e.cost < NW := by
        intro hlt2
        have := least_lt (good_take hg j) (by omega) (ih (fr e) (by omega)) hlt2
        rw [NW_eq]
        omega
      refine (LeastOf.add (ih _ hv) (ih (fr e) (by omega)) hc.1 hb).congr fun c => ?_
      rw [path_from hg hr he]
      simp
    · rw [if_neg h]
      refine (ih v hv).congr fun c => ?_
      rw [path_from hg hr he]
      constructor
      · exact fun h => .inl h
      · rintro (h1 | ⟨h1, _⟩)
        · exact h1
        · exact absurd h1.symm h
theorem distF_least {n : Nat} {x : List DEdge} (hg : Good n x) (hr : Rises x) (hn : n ≤ 20) (h0 : 0 < n) {v : Nat} (hv : v < n) : LeastOf (IsPath x 0 v) ((distF n x).getD v 0) := by
  have := distF_inv hg hr hn h0 x.length (Nat.le_refl _) v hv
  rwa [List.take_length] at this

theorem distB_inv {n : Nat} {x : List DEdge} (hg : Good n x) (hr : Rises x) (hn : n ≤ 20) (h0 : 0 < n) : ∀ (i : Nat) (j : Nat) (_ : j + i = x.length) (v : Nat) (_ : v < n), LeastOf (IsPath (x.drop j) v (n - 1)) (((x.drop j).reverse.foldl stepB (startB n)).getD v 0)
  | 0, j, hj, v, hv => by
    rw [List.drop_of_length_le (by omega)]
    simp only [List.reverse_nil, List.foldl_nil]
    unfold startB
    rw [getD_set (by simp; omega)]
    by_cases h : n - 1 = v
    · rw [if_pos h]
      exact .inr ⟨by decide, nil_path.2 ⟨h.symm, rfl⟩, fun c hc => by have := (nil_path.1 hc).2; omega⟩
    · rw [if_neg h]
      exact .inl ⟨by simp [List.getD, hv], fun c hc => h (nil_path.1 hc).1.symm⟩
  | i + 1, j, hj, v, hv => by
    obtain ⟨e, he⟩ : ∃ e, x[j]? = some e := ⟨_, List.getElem?_eq_getElem (by omega)⟩
    have hlt := hg.lt (List.mem_of_getElem? he)
    have hc := (hg e (List.mem_of_getElem? he)).2.2.2
    have ih := distB_inv hg hr hn h0 i (j + 1) (by omega)
    have hd : x.drop j = e :: x.drop (j + 1) := by
      obtain ⟨h1, rfl⟩ := List.getElem?_eq_some_iff.1 he
      exact List.drop_eq_getElem_cons h1
    have hf : (x.drop j).reverse.foldl stepB (startB n) = stepB ((x.drop (j + 1)).reverse.foldl stepB (startB n)) e := by
      rw [hd, List.reverse_cons, List.foldl_append]; rfl
    rw [hf, stepB, getD_set (by rw [foldB_len]; simp [startB]; omega)]
    by_cases h : fr e = v
    · rw [if_pos h]
      subst h
      have hb : ((x.drop (j + 1)).reverse.foldl stepB (startB n)).getD (to e) 0 < NW → ((x.drop (j + 1)).reverse.foldl stepB (startB n)).getD (to e) 0 + e.cost < NW := by
        intro hlt2
        have := least_lt (good_drop hg (j + 1)) (by omega) (ih (to e) (by omega)) hlt2
        rw [NW_eq]
        omega
      refine (LeastOf.add (ih _ hv) (ih (to e) (by omega)) hc.1 hb).congr fun c => ?_
      rw [path_to hg hr he]
      simp
    · rw [if_neg h]
      refine (ih v hv).congr fun c => ?_
      rw [path_to hg hr he]
      constructor
      · exact fun h => .inl h
      · rintro (h1 | ⟨h1, _⟩)
        · exact h1
        · exact absurd h1.symm h
theorem distB_least {n : Nat} {x : List DEdge} (hg : Good n x) (hr : Rises x) (hn : n ≤ 20) (h0 : 0 < n) {v : Nat} (hv : v < n) : LeastOf (IsPath x v (n - 1)) ((distB n x).getD v 0) := by
  have := distB_inv hg hr hn h0 x.length 0 (by omega) v hv
  rwa [List.drop_zero] at this
/-- from the first node to the last one: both passes find the same -/
theorem dist_same {n : Nat} {x : List DEdge} (hg : Good n x) (hr : Rises x) (hn : n ≤ 20) (h0 : 0 < n) : (distF n x).getD (n - 1) 0 = (distB n x).getD 0 0 :=
  (distF_least hg hr hn h0 (v := n - 1) (by omega)).uniq (distB_least hg hr hn h0 h0)

/-- the values of one pass: no way, or small -/
def okD (D : List Int) : Prop := ∀ (k : Nat) (r : Int), D[k]? = some r → r = NW ∨ (0 ≤ r ∧ r ≤ 1000000 * 20)
theorem distF_ok {n : Nat} {x : List DEdge} (hg : Good n x) (hr : Rises x) (hn : n ≤ 20) (h0 : 0 < n) {j : Nat} (hj : j ≤ x.length) : okD ((x.take j).foldl stepF (startF n)) := by
  intro k r hk
  have hk' : k < n := by
    have := (List.getElem?_eq_some_iff.1 hk).1
    rw [foldF_len] at this
    simpa [startF] using this
  have h1 := distF_inv hg hr hn h0 j hj k hk'
  rw [show ((x.take j).foldl stepF (startF n)).getD k 0 = r by simp [List.getD, hk]] at h1
  have h2 := least_lt (good_take hg j) (by omega) h1
  rcases h1 with ⟨h3, _⟩ | ⟨h3, _, _⟩
  · exact .inl h3
  · have := h2 h3; exact .inr (by omega)
end Go.Proofs.Ytnhmailnnggmjaa
