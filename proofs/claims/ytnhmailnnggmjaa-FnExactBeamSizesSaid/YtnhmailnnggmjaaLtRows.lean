/- Least costs node by node, as the reference finds them: -1 in the place of 'no way'. Plain lemmas, no program. -/
import Derived.Test.YtnhmailnnggmjaaLtDist2
namespace Go.Proofs.Ytnhmailnnggmjaa

theorem valid_good {n : Nat} {x : List DEdge} (h : validLt ((n : Int), x) = true) : Good n x := by
  intro e he
  obtain ⟨k, hk⟩ := List.mem_iff_getElem?.1 he
  exact valid_fit h hk
theorem ordE_frm {a b : DEdge} (h : ordE a b < 0) : a.frm ≤ b.frm := by
  unfold ordE at h
  by_cases h1 : a.frm = b.frm
  · omega
  · rw [if_pos h1] at h
    unfold cmpI at h
    split at h
    · omega
    · split at h <;> omega
theorem valid_next {n : Int} {x : List DEdge} (h : validLt (n, x) = true) {k : Nat} {p e : DEdge} (hp : x[k]? = some p) (he : x[k + 1]? = some e) : fr p ≤ fr e := by
  have h1 : validEd n x = true := by simp [validLt] at h; exact h.2
  have h2 := validEd_mem h1 he
  simp [edOk] at h2
  have h3 := h2.2
  simp [ordAtE, hp] at h3
  have := ordE_frm h3
  unfold fr; omega
theorem valid_rises {n : Int} {x : List DEdge} (h : validLt (n, x) = true) : Rises x := by
  have key : ∀ (d i : Nat) (a b : DEdge), x[i]? = some a → x[i + d]? = some b → fr a ≤ fr b := by
    intro d
    induction d with
    | zero => intro i a b ha hb; rw [Nat.add_zero, ha] at hb; cases hb; exact Nat.le_refl _
    | succ d ih =>
      intro i a b ha hb
      have hlt := (List.getElem?_eq_some_iff.1 hb).1
      obtain ⟨c, hc⟩ : ∃ c, x[i + d]? = some c := ⟨_, List.getElem?_eq_getElem (by omega)⟩
      exact Nat.le_trans (ih i a c ha hc) (valid_next h hc hb)
  refine List.pairwise_iff_getElem.2 fun i j hi hj hij => ?_
  obtain ⟨d, rfl⟩ : ∃ d, j = i + d := ⟨j - i, by omega⟩
  exact key d i _ _ (List.getElem?_eq_getElem hi) (List.getElem?_eq_getElem hj)

def enc1 (r : Int) : Int := if r = NW then -1 else r
def encD (D : List Int) : List Int := D.map enc1
theorem encD_len (D : List Int) : (encD D).length = D.length := by simp [encD]
theorem encD_get {D : List Int} {k : Nat} {r : Int} (h : D[k]? = some r) : (encD D)[k]? = some (enc1 r) := by simp [encD, h]
theorem encD_set (D : List Int) (k : Nat) (r : Int) : encD (D.set k r) = (encD D).set k (enc1 r) := by simp [encD, List.map_set]
theorem enc1_no : enc1 NW = -1 := if_pos rfl
theorem enc1_yes {r : Int} (h : r ≠ NW) : enc1 r = r := if_neg h
theorem set_self {D : List Int} {k : Nat} {r : Int} (h : D[k]? = some r) : D.set k r = D := by
  refine List.ext_getElem? fun i => ?_
  by_cases e : k = i
  · subst e
    rw [List.getElem?_set_self (List.getElem?_eq_some_iff.1 h).1, h]
  · rw [List.getElem?_set_ne e]
theorem getD_of {D : List Int} {k : Nat} {r : Int} (h : D[k]? = some r) : D.getD k 0 = r := by simp [List.getD, h]

/-- what a list of costs holds, by its places -/
def okV (f : Nat → Int) (D : List Int) : Prop := ∀ (k : Nat) (r : Int), D[k]? = some r → r = NW ∨ (0 ≤ r ∧ r ≤ f k)
def upF (k : Nat) : Int := 1000000 * (k : Int)
def upB (n k : Nat) : Int := 1000000 * ((n : Int) - 1 - (k : Int))
theorem okV_set {f : Nat → Int} {D : List Int} (h : okV f D) {k : Nat} {v : Int} (hv : v = NW ∨ (0 ≤ v ∧ v ≤ f k)) : okV f (D.set k v) := by
  intro i r hr
  by_cases e : k = i
  · subst e
    have hl := (List.getElem?_eq_some_iff.1 hr).1
    rw [List.length_set] at hl
    rw [List.getElem?_set_self hl] at hr
    cases hr; exact hv
  · rw [List.getElem?_set_ne e] at hr
    exact h i r hr
theorem okV_startF (n : Nat) : okV upF (startF n) := by
  refine okV_set (fun i r hr => ?_) (.inr (by simp [upF]))
  left
  simp [List.getElem?_replicate] at hr
  exact hr.2.symm
theorem okV_startB (n : Nat) : okV (upB n) (startB n) := by
  by_cases h0 : n = 0
  · subst h0; intro i r hr; simp [startB] at hr
  · refine okV_set (fun i r hr => ?_) (.inr (by unfold upB; omega))
    left
    simp [List.getElem?_replicate] at hr
    exact hr.2.symm
/-- one edge, from the first node on: the three ways -/
theorem stepF_no {D : List Int} {e : DEdge} {r1 r2 : Int} (h1 : D[fr e]? = some r1) (h2 : D[to e]? = some r2) (hr : r1 = NW) (hc : 0 ≤ e.cost) (hb : r2 ≤ NW) : stepF D e = D := by
  rw [stepF, getD_of h1, getD_of h2, show min r2 (r1 + e.cost) = r2 by omega, set_self h2]
theorem stepF_set {D : List Int} {e : DEdge} {r1 r2 : Int} (h1 : D[fr e]? = some r1) (h2 : D[to e]? = some r2) (hlt : r1 + e.cost < r2) : stepF D e = D.set (to e) (r1 + e.cost) := by
  rw [stepF, getD_of h1, getD_of h2, show min r2 (r1 + e.cost) = r1 + e.cost by omega]
theorem stepF_keep {D : List Int} {e : DEdge} {r1 r2 : Int} (h1 : D[fr e]? = some r1) (h2 : D[to e]? = some r2) (hle : r2 ≤ r1 + e.cost) : stepF D e = D := by
  rw [stepF, getD_of h1, getD_of h2, show min r2 (r1 + e.cost) = r2 by omega, set_self h2]
theorem stepB_no {D : List Int} {e : DEdge} {r1 r2 : Int} (h1 : D[to e]? = some r1) (h2 : D[fr e]? = some r2) (hr : r1 = NW) (hc : 0 ≤ e.cost) (hb : r2 ≤ NW) : stepB D e = D := by
  rw [stepB, getD_of h1, getD_of h2, show min r2 (r1 + e.cost) = r2 by omega, set_self h2]
theorem stepB_set {D : List Int} {e : DEdge} {r1 r2 : Int} (h1 : D[to e]? = some r1) (h2 : D[fr e]? = some r2) (hlt : r1 + e.cost < r2) : stepB D e = D.set (fr e) (r1 + e.cost) := by
  rw [stepB, getD_of h1, getD_of h2, show min r2 (r1 + e.cost) = r1 + e.cost by omega]
theorem stepB_keep {D : List Int} {e : DEdge} {r1 r2 : Int} (h1 : D[to e]? = some r1) (h2 : D[fr e]? = some r2) (hle : r2 ≤ r1 + e.cost) : stepB D e = D := by
  rw [stepB, getD_of h1, getD_of h2, show min r2 (r1 + e.cost) = r2 by omega, set_self h2]

/-- node by node -/
def gF (k : Nat) (D : List Int) (e : DEdge) : List Int := if fr e = k then stepF D e else D
def gB (k : Nat) (D : List Int) (e : DEdge) : List Int := if fr e = k then stepB D e else D
def farTo (n : Nat) (x : List DEdge) : Nat → List Int
  | 0 => startF n
  | k + 1 => x.foldl (gF k) (farTo n x k)
def backTo (n : Nat) (x : List DEdge) : Nat → List Int
  | 0 => startB n
  | m + 1 => x.foldl (gB (n - 1 - m)) (backTo n x m)
theorem fold_take {g : List Int → DEdge → List Int} {D : List Int} {x : List DEdge} {j : Nat} {e : DEdge} (h : x[j]? = some e) : (x.take (j + 1)).foldl g D = g ((x.take j).foldl g D) e := by
  rw [List.take_add_one, h]; simp
theorem farTo_fold (n : Nat) (x : List DEdge) : ∀ m, farTo n x m = (List.range m).foldl (fun a k => x.foldl (fun a e => if decide (fr e = k) = true then stepF a e else a) a) (startF n)
  | 0 => rfl
  | m + 1 => by
    rw [List.range_succ, List.foldl_append, ← farTo_fold n x m]
    simp only [List.foldl_cons, List.foldl_nil, farTo]
    congr 1
    funext a e
    simp [gF]
theorem farTo_all {n : Nat} {x : List DEdge} (hg : Good n x) (hr : Rises x) : farTo n x n = distF n x := by
  rw [farTo_fold, foldl_rows fr stepF hr (fun e he => by have := hg.lt he; omega)]
  rfl
theorem backTo_fold (n : Nat) (x : List DEdge) : ∀ m, m ≤ n → backTo n x m = ((List.range n).reverse.take m).foldl (fun a k => x.foldl (fun a e => if decide (fr e = k) = true then stepB a e else a) a) (startB n)
  | 0, _ => by simp [backTo]
  | m + 1, hm => by
    have hx : (List.range n).reverse[m]? = some (n - 1 - m) := by
      rw [List.getElem?_reverse (by simp; omega), List.length_range, List.getElem?_range (by omega)]
    rw [List.take_add_one, hx, List.foldl_append, ← backTo_fold n x m (by omega)]
    simp only [Option.toList, List.foldl_cons, List.foldl_nil, backTo]
    congr 1
    funext a e
    simp [gB]
theorem stepB_comm {n : Nat} {x : List DEdge} (hg : Good n x) {a b : DEdge} (ha : a ∈ x) (hb : b ∈ x) (h : fr a = fr b) (z : List Int) : stepB (stepB z a) b = stepB (stepB z b) a := by
  have la := hg.lt ha
  have lb := hg.lt hb
  unfold stepB
  rw [h]
  by_cases hl : fr b < z.length
  · rw [getD_set hl, if_pos rfl, getD_set hl, if_neg (by omega), getD_set hl, if_pos rfl, getD_set hl, if_neg (by omega), List.set_set, List.set_set]
    congr 1
    omega
  · have e1 : ∀ v, z.set (fr b) v = z := fun v => List.set_eq_of_length_le (by omega)
    simp only [e1]
theorem backTo_all {n : Nat} {x : List DEdge} (hg : Good n x) (hr : Rises x) : backTo n x n = distB n x := by
  rw [backTo_fold n x n (Nat.le_refl _), List.take_of_length_le (by simp)]
  rw [foldl_rows_down fr stepB hr (fun e he => by have := hg.lt he; omega) (fun a ha b hb h z => stepB_comm hg ha hb h z)]
  rfl
end Go.Proofs.Ytnhmailnnggmjaa
