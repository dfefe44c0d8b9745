/- Classify: plain lemmas. -/
import Derived.Test.YtdifhnckhocmdabGreatPcScOf
import Derived.Test.YtdifhnckhocmdabGreatPcMar
import Derived.Test.YtdifhnckhocmdabGreatPcTrP
import Derived.Test.YtdifhnckhocmdabGreatPcScores
import Derived.Test.YtdifhnckhocmdabGreatWrPcp
import Derived.Test.YtdifhnckhocmdabGreatWrSmp
namespace Go.Proofs.YtdifhnckhocmdabGreat
open Go.RowKit

def clsI (x : XPerceptron) (y : XFeatS) : Nat := bestI (scoresF x.2 (inpF y))
def clsL (x : XPerceptron) (y : XFeatS) : ByteArray := if scOk x y then (x.1[clsI x y]?).getD ⟨#[]⟩ else ⟨#[]⟩
def clsM (x : XPerceptron) (y : XFeatS) : Int := if scOk x y then marginL (scoresF x.2 (inpF y)) else 0
theorem scores_bd {W : List (List Int)} {x : List Int} (hW : ∀ r ∈ W, rowOk r = true) (hx : okInp x) {k : Nat} {c : Int} (h : (scoresF W x)[k]? = some c) : -4915200000000 ≤ c ∧ c ≤ 4915200000000 := by
  unfold scoresF at h
  rw [List.getElem?_map] at h
  cases hr : W[k]? with
  | none => rw [hr] at h; cases h
  | some r =>
    rw [hr] at h
    cases h
    exact score_bd (hW r (List.mem_of_getElem? hr)) hx
theorem cls_lab {x : XPerceptron} {y : XFeatS} (hp : pcOk x = true) : ∃ s, x.1[clsI x y]? = some s := by
  have h := pcOk_rows hp
  have := bestI_lt (l := scoresF x.2 (inpF y)) (by rw [scoresF_len]; omega)
  rw [scoresF_len] at this
  exact ⟨_, List.getElem?_eq_getElem (by unfold clsI; omega)⟩
end Go.Proofs.YtdifhnckhocmdabGreat
namespace Go.Proofs.YtdifhnckhocmdabGreat
open Go.RowKit

def gotL (x : XPerceptron) (s : XSample) : ByteArray := (x.1[clsI x s.2]?).getD ⟨#[]⟩
def wrongB (x : XPerceptron) (s : XSample) : Bool := !((gotL x s).toList == s.1.toList)
def misAt (x : XPerceptron) (l : XSampleS) (k : Nat) : List Int := match l[k]? with
  | some s => if wrongB x s then [(k : Int)] else []
  | none => []
def misTo (x : XPerceptron) (l : XSampleS) : Nat → List Int
  | 0 => []
  | k + 1 => misTo x l k ++ misAt x l k
def misX (x : XPerceptron) (l : XSampleS) : List Int := if trCode x l = 0 then misTo x l l.length else []
theorem misAt_len (x : XPerceptron) (l : XSampleS) (k : Nat) : (misAt x l k).length ≤ 1 := by
  unfold misAt
  split
  · split <;> simp
  · simp
theorem misTo_len (x : XPerceptron) (l : XSampleS) : ∀ k, (misTo x l k).length ≤ k
  | 0 => Nat.le_refl _
  | k + 1 => by rw [misTo, List.length_append]; have := misTo_len x l k; have := misAt_len x l k; omega
theorem misAt_t {x : XPerceptron} {l : XSampleS} {k : Nat} {s : XSample} (h : l[k]? = some s) (hw : wrongB x s = true) : misTo x l (k + 1) = misTo x l k ++ [(k : Int)] := by
  rw [misTo, misAt, h]; simp [hw]
theorem misAt_f {x : XPerceptron} {l : XSampleS} {k : Nat} {s : XSample} (h : l[k]? = some s) (hw : wrongB x s = false) : misTo x l (k + 1) = misTo x l k := by
  rw [misTo, misAt, h]; simp [hw]
theorem okMis {x : XPerceptron} {l : XSampleS} (ok : okSampleS l) : okInt64S (misX x l) := by
  have h := misTo_len x l l.length
  unfold okSampleS at ok
  unfold okInt64S misX
  split
  · omega
  · simp
end Go.Proofs.YtdifhnckhocmdabGreat
namespace Go.Proofs.YtdifhnckhocmdabGreat
open Go.RowKit

/-- the first k numbers are told by f, the others are those of r -/
def mixTo (f : Nat → Int) (r : List Int) (k : Nat) : List Int := (List.range k).map f ++ r.drop k
theorem mixTo_zero (f : Nat → Int) (r : List Int) : mixTo f r 0 = r := by simp [mixTo]
theorem mixTo_len (f : Nat → Int) (r : List Int) {k : Nat} (h : k ≤ r.length) : (mixTo f r k).length = r.length := by simp [mixTo]; omega
theorem mixTo_get (f : Nat → Int) {r : List Int} {k : Nat} {c : Int} (h : r[k]? = some c) : (mixTo f r k)[k]? = some c := by
  unfold mixTo
  rw [List.getElem?_append_right (by simp), List.getElem?_drop]
  simpa using h
theorem mixTo_step (f : Nat → Int) {r : List Int} {k : Nat} (h : k < r.length) : (mixTo f r k).set k (f k) = mixTo f r (k + 1) := by
  unfold mixTo
  rw [List.range_succ, List.drop_eq_getElem_cons h, List.set_append_right _ _ (by simp)]
  simp only [List.length_map, List.length_range, Nat.sub_self, List.set_cons_zero, List.map_append, List.map_cons, List.map_nil, List.append_assoc, List.singleton_append]

def addF (r x : List Int) (i : Nat) : Int := r.getD i 0 + x.getD i 0
def subF (r x : List Int) (i : Nat) : Int := r.getD i 0 - x.getD i 0
/-- the rows behind k rounds: a has grown, b has shrunk -/
def rowsTo (W : List (List Int)) (x : List Int) (a b k : Nat) : List (List Int) := (W.set a (mixTo (addF (W.getD a []) x) (W.getD a []) k)).set b (mixTo (subF (W.getD b []) x) (W.getD b []) k)
theorem rowsTo_len (W : List (List Int)) (x : List Int) (a b k : Nat) : (rowsTo W x a b k).length = W.length := by simp [rowsTo]
theorem rowsTo_zero {W : List (List Int)} (x : List Int) {a b : Nat} (ha : a < W.length) (hb : b < W.length) : rowsTo W x a b 0 = W := by
  unfold rowsTo
  rw [mixTo_zero, mixTo_zero]
  have e : ∀ j, j < W.length → W.set j (W.getD j []) = W := fun j hj => by
    rw [List.getD, List.getElem?_eq_getElem hj, Option.getD_some]
    exact List.set_getElem_self hj
  rw [e a ha, e b hb]
theorem rowsTo_a {W : List (List Int)} (x : List Int) {a b : Nat} (k : Nat) (ha : a < W.length) (hab : a ≠ b) : (rowsTo W x a b k)[a]? = some (mixTo (addF (W.getD a []) x) (W.getD a []) k) := by
  unfold rowsTo
  rw [List.getElem?_set_ne (Ne.symm hab), List.getElem?_set_self ha]
theorem rowsTo_b {W : List (List Int)} (x : List Int) {a b : Nat} (k : Nat) (hb : b < W.length) : (rowsTo W x a b k)[b]? = some (mixTo (subF (W.getD b []) x) (W.getD b []) k) := by
  unfold rowsTo
  rw [List.getElem?_set_self (by simpa using hb)]
/-- one round: first a's number, then b's -/
theorem rowsTo_step {W : List (List Int)} (x : List Int) {a b k : Nat} (hab : a ≠ b) (hka : k < (W.getD a []).length) (hkb : k < (W.getD b []).length) :
    ((rowsTo W x a b k).set a ((mixTo (addF (W.getD a []) x) (W.getD a []) k).set k (addF (W.getD a []) x k))).set b ((mixTo (subF (W.getD b []) x) (W.getD b []) k).set k (subF (W.getD b []) x k)) = rowsTo W x a b (k + 1) := by
  rw [mixTo_step _ hka, mixTo_step _ hkb]
  unfold rowsTo
  have h1 : ∀ A B A' : List Int, ((W.set a A).set b B).set a A' = (W.set a A').set b B := fun A B A' => by
    rw [List.set_comm _ _ hab.symm, List.set_set]
  rw [h1, List.set_set]
/-- the sample's label stands at a, the greatest score at b -/
def hitB (x : XPerceptron) (s : XSample) : Bool := labIx x.1 s.1 == some (clsI x s.2)
def rightI (x : XPerceptron) (s : XSample) : Nat := (labIx x.1 s.1).getD 0
def stepX (x : XPerceptron) (s : XSample) : XPerceptron := if hitB x s then x else (x.1, rowsTo x.2 (inpF s.2) (rightI x s) (clsI x s.2) 25)
theorem stepX_lab (x : XPerceptron) (s : XSample) : (stepX x s).1 = x.1 := by unfold stepX; split <;> rfl
theorem stepX_len (x : XPerceptron) (s : XSample) : (stepX x s).2.length = x.2.length := by
  unfold stepX
  split
  · rfl
  · exact rowsTo_len _ _ _ _ _
/-- all samples: the perceptron and the changes, none if a weight is too great -/
def stepAll : XPerceptron → Int → XSampleS → Option (XPerceptron × Int)
  | x, n, [] => some (x, n)
  | x, n, s :: t => if pcOk (stepX x s) then stepAll (stepX x s) (if hitB x s then n else n + 1) t else none
end Go.Proofs.YtdifhnckhocmdabGreat
namespace Go.Proofs.YtdifhnckhocmdabGreat
open Go.RowKit

theorem tot25 : ∀ (R : List (List Int)), (∀ r ∈ R, r.length = 25) → totSS R = 25 * R.length
  | [], _ => rfl
  | r :: t, hR => by
    have h1 := tot25 t fun r hr => hR r (List.mem_cons_of_mem _ hr)
    have h2 := hR r List.mem_cons_self
    unfold totSS sumOf at *
    rw [List.map_cons, List.sum_cons, h1, List.length_cons]
    omega
theorem okRows25 {R : List (List Int)} (h : ∀ r ∈ R, r.length = 25) (hl : R.length ≤ 12) : okInt64SS R := by
  unfold okInt64SS
  rw [tot25 R h]
  omega
theorem rowsTo_25 {W : List (List Int)} (x : List Int) {a b : Nat} (ha : a < W.length) (hb : b < W.length) (h : ∀ r ∈ W, r.length = 25) : ∀ r ∈ rowsTo W x a b 25, r.length = 25 := by
  intro r hr
  have key : ∀ j, j < W.length → (W.getD j []).length = 25 := fun j hj => by
    rw [List.getD, List.getElem?_eq_getElem hj, Option.getD_some]
    exact h _ (List.getElem_mem hj)
  unfold rowsTo at hr
  rcases List.mem_or_eq_of_mem_set hr with h1 | h1
  · rcases List.mem_or_eq_of_mem_set h1 with h2 | h2
    · exact h r h2
    · rw [h2, mixTo_len _ _ (by rw [key a ha]; exact Nat.le_refl _), key a ha]
  · rw [h1, mixTo_len _ _ (by rw [key b hb]; exact Nat.le_refl _), key b hb]
theorem okP_of {y : XPerceptron} (h : pcOk y = true) : okPerceptron y := by
  have hr := pcOk_rows h
  exact ⟨by show y.1.length ≤ 1048576; omega, okRows25 (fun r hr2 => rowOk_len (hr.1 r hr2)) (by omega)⟩
theorem stepAll_inv : ∀ (l : XSampleS) (x : XPerceptron) (n : Int) (y : XPerceptron) (m : Int), pcOk x = true → stepAll x n l = some (y, m) → y.1 = x.1 ∧ pcOk y = true ∧ n ≤ m ∧ m ≤ n + l.length
  | [], x, n, y, m, h, e => by
    unfold stepAll at e
    simp at e
    obtain ⟨rfl, rfl⟩ := e
    exact ⟨rfl, h, by omega, by simp⟩
  | s :: t, x, n, y, m, h, e => by
    unfold stepAll at e
    split at e
    · rename_i h1
      have := stepAll_inv t _ _ y m h1 e
      rw [stepX_lab] at this
      refine ⟨this.1, this.2.1, ?_, ?_⟩
      · have := this.2.2.1; split at this <;> omega
      · have := this.2.2.2; rw [List.length_cons]; split at this <;> omega
    · cases e
def stX (x : XPerceptron) (s : XSample) : XPerceptron := if pcOk (stepX x s) then stepX x s else ([], [])
def stB (x : XPerceptron) (s : XSample) : Bool := pcOk (stepX x s) && !hitB x s
def stC (x : XPerceptron) (s : XSample) : Int := if pcOk (stepX x s) then 0 else 5
def aX (o : Option (XPerceptron × Int)) : XPerceptron := match o with | some p => p.1 | none => ([], [])
def aN (o : Option (XPerceptron × Int)) : Int := match o with | some p => p.2 | none => 0
def aC (o : Option (XPerceptron × Int)) : Int := match o with | some _ => 0 | none => 5
def epX (x : XPerceptron) (l : XSampleS) : XPerceptron := if trCode x l = 0 then aX (stepAll x 0 l) else ([], [])
def epN (x : XPerceptron) (l : XSampleS) : Int := if trCode x l = 0 then aN (stepAll x 0 l) else 0
def epC (x : XPerceptron) (l : XSampleS) : Int := if trCode x l = 0 then aC (stepAll x 0 l) else trCode x l
def oneX (x : XPerceptron) (s : XSample) : XPerceptron := epX x [s]
def oneB (x : XPerceptron) (s : XSample) : Bool := decide (0 < epN x [s])
def oneC (x : XPerceptron) (s : XSample) : Int := epC x [s]
theorem one_neg {x : XPerceptron} {s : XSample} (h : trCode x [s] ≠ 0) : oneX x s = ([], []) ∧ oneB x s = false ∧ oneC x s = trCode x [s] := by
  simp [oneX, oneB, oneC, epX, epN, epC, h]
theorem one_pos {x : XPerceptron} {s : XSample} (h : trCode x [s] = 0) : oneX x s = stX x s ∧ oneB x s = stB x s ∧ oneC x s = stC x s := by
  unfold oneX oneB oneC epX epN epC stX stB stC
  simp only [if_pos h]
  unfold stepAll stepAll
  by_cases h1 : pcOk (stepX x s) = true
  · by_cases h2 : hitB x s = true
    · simp [h1, h2, aX, aN, aC]
    · rw [Bool.not_eq_true] at h2; simp [h1, h2, aX, aN, aC]
  · rw [Bool.not_eq_true] at h1
    simp [h1, aX, aN, aC]
def trainTo : Nat → XPerceptron → List Int → XSampleS → Option (XPerceptron × List Int)
  | 0, x, a, _ => some (x, a)
  | k + 1, x, a, l => match stepAll x 0 l with
    | none => none
    | some (y, n) => if n = 0 then some (y, a ++ [n]) else trainTo k y (a ++ [n]) l
def tX (o : Option (XPerceptron × List Int)) : XPerceptron := match o with | some p => p.1 | none => ([], [])
def tL (o : Option (XPerceptron × List Int)) : List Int := match o with | some p => p.2 | none => []
def tC (o : Option (XPerceptron × List Int)) : Int := match o with | some _ => 0 | none => 5
def trX (x : XPerceptron) (l : XSampleS) (E : Int) : XPerceptron := if trCode x l = 0 then (if inB E 0 20 then tX (trainTo E.toNat x [] l) else ([], [])) else ([], [])
def trL (x : XPerceptron) (l : XSampleS) (E : Int) : List Int := if trCode x l = 0 then (if inB E 0 20 then tL (trainTo E.toNat x [] l) else []) else []
def trC (x : XPerceptron) (l : XSampleS) (E : Int) : Int := if trCode x l = 0 then (if inB E 0 20 then tC (trainTo E.toNat x [] l) else 2) else trCode x l
theorem trainTo_inv : ∀ (k : Nat) (x : XPerceptron) (a : List Int) (l : XSampleS) (y : XPerceptron) (b : List Int), pcOk x = true → trainTo k x a l = some (y, b) → y.1 = x.1 ∧ pcOk y = true ∧ b.length ≤ a.length + k
  | 0, x, a, l, y, b, h, e => by
    unfold trainTo at e
    simp at e
    obtain ⟨rfl, rfl⟩ := e
    exact ⟨rfl, h, by omega⟩
  | k + 1, x, a, l, y, b, h, e => by
    unfold trainTo at e
    cases hs : stepAll x 0 l with
    | none => rw [hs] at e; cases e
    | some p =>
      obtain ⟨z, n⟩ := p
      rw [hs] at e
      have h1 := stepAll_inv l x 0 z n h hs
      simp only at e
      split at e
      · simp at e
        obtain ⟨rfl, rfl⟩ := e
        exact ⟨h1.1, h1.2.1, by simp⟩
      · have h2 := trainTo_inv k z _ l y b h1.2.1 e
        refine ⟨h2.1.trans h1.1, h2.2.1, ?_⟩
        have := h2.2.2
        simp at this
        omega
theorem okNil : okPerceptron (([], []) : XPerceptron) := ⟨by show ([] : XStringS).length ≤ 1048576; simp, by show ([] : XInt64SS).length + totSS [] ≤ 1048576; simp [totSS, sumOf]⟩
theorem okEp (x : XPerceptron) (l : XSampleS) : okPerceptron (epX x l) := by
  unfold epX
  split
  · rename_i h
    cases hs : stepAll x 0 l with
    | none => exact okNil
    | some p => exact okP_of (stepAll_inv l x 0 p.1 p.2 (trCode_zero h).1 hs).2.1
  · exact okNil
theorem okOne (x : XPerceptron) (s : XSample) : okPerceptron (oneX x s) := okEp x [s]
theorem okTr (x : XPerceptron) (l : XSampleS) (E : Int) : okPerceptron (trX x l E) := by
  unfold trX
  split
  · rename_i h
    split
    · cases hs : trainTo E.toNat x [] l with
      | none => exact okNil
      | some p => exact okP_of (trainTo_inv _ x [] l p.1 p.2 (trCode_zero h).1 hs).2.1
    · exact okNil
  · exact okNil
theorem okTrL (x : XPerceptron) (l : XSampleS) (E : Int) : okInt64S (trL x l E) := by
  unfold okInt64S trL
  split
  · rename_i h
    split
    · rename_i hE
      rw [inB_true] at hE
      cases hs : trainTo E.toNat x [] l with
      | none => simp [tL]
      | some p => have := (trainTo_inv _ x [] l p.1 p.2 (trCode_zero h).1 hs).2.2; simp [tL] at *; omega
    · simp
  · simp
end Go.Proofs.YtdifhnckhocmdabGreat
