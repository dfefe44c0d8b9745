/- The words of a lexicon that a lattice's paths read, in their order. Plain lemmas, no program. -/
import Derived.Test.YtcikndmmbfompaaGreatDoorFlFound
import Derived.Test.YtcikndmmbfompaaGreatDoorLxCost
import Derived.Test.YtcikndmmbfompaaGreatDoorLtText
import Derived.Test.YtcikndmmbfompaaGreatDoorSortOwn
import Derived.Test.YtcikndmmbfompaaGreatDoorCmp
namespace Go.Proofs.YtcikndmmbfompaaGreatDoor
open Go.Sort

def sumF (f : DFound) : Int := IntKind.i64.wrap (f.path + f.own_)
def ordF (a b : DFound) : Int := orL [cmpI (sumF a) (sumF b), cmpI a.word.size b.word.size, cmpB a.word b.word]
def ltF (a b : DFound) : Bool := decide (ordF a b < 0)
/-- the reference's order of a cost and a text -/
def befR (c1 : Int) (t1 : ByteArray) (c2 : Int) (t2 : ByteArray) : Bool := if c1 = c2 then (if t1.size = t2.size then ltB t1 t2 else decide (t1.size < t2.size)) else decide (c1 < c2)
theorem orL0 (xs : List Int) : orL (0 :: xs) = orL xs := by simp [orL]
theorem orLn {x : Int} (h : x ≠ 0) (xs : List Int) : orL (x :: xs) = x := by simp [orL, h]
theorem orL1 (x : Int) : orL [x] = x := by
  by_cases h : x = 0
  · subst h; simp [orL]
  · exact orLn h []
theorem cmpI_dec {a b : Int} (h : a ≠ b) : decide (cmpI a b < 0) = decide (a < b) := by
  unfold cmpI
  by_cases h1 : a < b
  · rw [if_pos h1]; simp [h1]
  · rw [if_neg h1, if_pos (by omega)]; simp [h1]
theorem cmpB_dec (a b : ByteArray) : decide (cmpB a b < 0) = ltB a b := by
  unfold cmpB
  cases ltB a b
  · cases eqS a b <;> rfl
  · rfl
theorem ltF_bef (a b : DFound) : ltF a b = befR (sumF a) a.word (sumF b) b.word := by
  unfold ltF ordF befR
  by_cases h1 : sumF a = sumF b
  · rw [if_pos h1, h1, cmpI_self, orL0]
    by_cases h2 : a.word.size = b.word.size
    · rw [if_pos h2, h2, cmpI_self, orL0, orL1, cmpB_dec]
    · rw [if_neg h2, orLn (cmpI_ne (by omega)), cmpI_dec (by omega)]
      by_cases h3 : a.word.size < b.word.size
      · simp [h3]
      · simp [h3]
  · rw [if_neg h1, orLn (cmpI_ne h1), cmpI_dec h1]
theorem ltB_ntrans {a b c : ByteArray} (h : ltB a b = false) (k : ltB b c = false) : ltB a c = false := by
  unfold ltB at *; rw [bless_eq] at *; simp at *; exact List.le_trans k h
theorem swoF : SWO ltF where
  irrefl a := by rw [ltF_bef]; simp [befR, ltB_irrefl]
  trans a b c h1 h2 := by
    rw [ltF_bef] at *
    unfold befR at *
    split at h1 <;> split at h2 <;> (try split at h1) <;> (try split at h2) <;> (try simp only [decide_eq_true_eq] at h1) <;> (try simp only [decide_eq_true_eq] at h2)
    all_goals (first
      | (rw [if_pos (by omega), if_pos (by omega)]; exact ltB_trans h1 h2)
      | (rw [if_pos (by omega), if_neg (by omega)]; simp; omega)
      | (rw [if_neg (by omega)]; simp; omega))
  ntrans a b c h1 h2 := by
    rw [ltF_bef] at *
    unfold befR at *
    split at h1 <;> split at h2 <;> (try split at h1) <;> (try split at h2) <;> (try simp only [decide_eq_false_iff_not] at h1) <;> (try simp only [decide_eq_false_iff_not] at h2)
    all_goals (first
      | (rw [if_pos (by omega), if_pos (by omega)]; exact ltB_ntrans h1 h2)
      | (rw [if_pos (by omega), if_neg (by omega)]; simp; omega)
      | (rw [if_neg (by omega)]; simp; omega))
theorem ltF_tie {a b : DFound} (h1 : ltF a b = false) (h2 : ltF b a = false) : a.word.toList = b.word.toList := by
  rw [ltF_bef] at *
  unfold befR at *
  by_cases h3 : sumF a = sumF b
  · rw [if_pos h3] at h1
    rw [if_pos h3.symm] at h2
    by_cases h4 : a.word.size = b.word.size
    · rw [if_pos h4] at h1
      rw [if_pos h4.symm] at h2
      exact ltB_or h1 h2
    · rw [if_neg h4] at h1
      rw [if_neg (Ne.symm h4)] at h2
      simp at h1 h2; omega
  · rw [if_neg h3] at h1
    rw [if_neg (Ne.symm h3)] at h2
    simp at h1 h2; omega

def found1 (x : XLattice) (e : DEntry) : Option DFound := if textR x e.word < NW then some ⟨e.word, textR x e.word, e.cost⟩ else none
def foundL (x : XLattice) (y : XLexicon) : List DFound := y.filterMap (found1 x)
def findAll (x : XLattice) (y : XLexicon) : List DFound := (foundL x y).foldl (insE ltF) []
theorem foundL_take {x : XLattice} {y : XLexicon} {k : Nat} {e : DEntry} (h : y[k]? = some e) : foundL x (y.take (k + 1)) = foundL x (y.take k) ++ (found1 x e).toList := by
  unfold foundL
  rw [List.take_add_one, h, List.filterMap_append]
  cases hf : found1 x e <;> simp [hf]
theorem findAll_take {x : XLattice} {y : XLexicon} {k : Nat} {e : DEntry} (h : y[k]? = some e) : findAll x (y.take (k + 1)) = match found1 x e with | none => findAll x (y.take k) | some f => insE ltF (findAll x (y.take k)) f := by
  unfold findAll
  rw [foundL_take h, List.foldl_append]
  cases found1 x e <;> rfl
theorem foundL_mem {x : XLattice} {y : XLexicon} {f : DFound} (h : f ∈ foundL x y) : ∃ e ∈ y, f = ⟨e.word, textR x e.word, e.cost⟩ := by
  obtain ⟨e, he, hf⟩ := List.mem_filterMap.1 h
  refine ⟨e, he, ?_⟩
  unfold found1 at hf
  split at hf
  · cases hf; rfl
  · cases hf
theorem sorted_word {y : XLexicon} (hs : Sorted y) {a b : DEntry} (ha : a ∈ y) (hb : b ∈ y) (h : a.word.toList = b.word.toList) : a = b := by
  obtain ⟨i, hi⟩ := List.mem_iff_getElem?.1 ha
  obtain ⟨j, hj⟩ := List.mem_iff_getElem?.1 hb
  rcases Nat.lt_trichotomy i j with hl | hl | hl
  · have := hs i j a b hl hi hj
    rw [(ltB_congr h).1, ltB_irrefl] at this; cases this
  · subst hl; rw [hi] at hj; cases hj; rfl
  · have := hs j i b a hl hj hi
    rw [(ltB_congr h).2, ltB_irrefl] at this; cases this
/-- whatever sorts the found words gives the reference's list -/
theorem find_unique {x : XLattice} {y : XLexicon} (hs : Sorted y) {l : List DFound} (hp : l.Perm (foundL x y)) (hu : Up ltF l) : l = findAll x y := by
  have hf := fold_ins swoF (foundL x y) [] List.Pairwise.nil
  rw [List.append_nil] at hf
  refine up_unique l _ (hp.trans hf.2.symm) hu hf.1 fun a ha b hb h1 h2 => ?_
  obtain ⟨e1, m1, r1⟩ := foundL_mem (hp.subset ha)
  obtain ⟨e2, m2, r2⟩ := foundL_mem (hp.subset hb)
  have ht := ltF_tie h1 h2
  subst r1
  subst r2
  rw [sorted_word hs m1 m2 ht]
theorem findAll_len (x : XLattice) (y : XLexicon) : (findAll x y).length ≤ y.length := by
  have hf := fold_ins swoF (foundL x y) [] List.Pairwise.nil
  unfold findAll
  rw [hf.2.length_eq, List.append_nil]
  exact List.length_filterMap_le _ _

def fz : DFound := ⟨ByteArray.empty, 0, 0⟩
def findW (x : XLattice) (y : XLexicon) : DFound := if validLt x && validLx y then (findAll x y).headD fz else fz
def findC (x : XLattice) (y : XLexicon) : Int := if validLt x && validLx y then (if (findAll x y).length = 0 then 3 else 0) else 1
def findWs (x : XLattice) (y : XLexicon) (k : Int) : List DFound := if validLt x && validLx y && inB k 1 20 then (findAll x y).take k.toNat else []
def findWsC (x : XLattice) (y : XLexicon) (k : Int) : Int := if validLt x && validLx y then (if inB k 1 20 then 0 else 2) else 1
end Go.Proofs.YtcikndmmbfompaaGreatDoor
