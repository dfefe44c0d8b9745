/- Arrays of encoded elements: what a slice value holds in a world, and what a call owns. Plain lemmas, no program. -/
import Derived.WalkKit
import Derived.WalkSpells
import Derived.WalkLawsBesides
import Derived.BigQuiet
import Derived.Deep.QuietTactic
import Derived.Deep.DeepMust
import Derived.Deep.DeepFit
namespace Go.Proofs.YtlnoelbeaolikaaGreat
open Go.RowKit
theorem hid {p : Prop} (h : p) : Hid p := h
/-- how one element of a slice lies in cells -/
structure Enc (α : Type) where
 row : α → List Value
 sz : Nat
 len : ∀ x, (row x).length = sz
 pos : 0 < sz
 one : ∀ x, ∀ u ∈ row x, u.oneCell' = true
def Enc.flat {α : Type} (E : Enc α) (xs : List α) : List Value := xs.flatMap E.row
theorem Enc.flat_len {α : Type} (E : Enc α) (xs : List α) : (E.flat xs).length = xs.length * E.sz := by
 induction xs with
 | nil => simp [Enc.flat]
 | cons x xs ih => simp only [Enc.flat, List.flatMap_cons, List.length_append, List.length_cons, E.len] at *; rw [ih, Nat.add_mul]; omega
theorem Enc.flat_cons {α : Type} (E : Enc α) (x : α) (xs : List α) : E.flat (x :: xs) = E.row x ++ E.flat xs := rfl
theorem Enc.flat_append {α : Type} (E : Enc α) (xs ys : List α) : E.flat (xs ++ ys) = E.flat xs ++ E.flat ys := by simp [Enc.flat]
theorem Enc.flat_nil {α : Type} (E : Enc α) : E.flat [] = [] := rfl
theorem Enc.flat_get {α : Type} (E : Enc α) : ∀ (xs : List α) (k : Nat) (x : α) (j : Nat), xs[k]? = some x → j < E.sz → (E.flat xs)[k * E.sz + j]? = (E.row x)[j]? := by
 intro xs
 induction xs with
 | nil => intro k x j h _; simp at h
 | cons y ys ih =>
  intro k x j h hj
  rw [E.flat_cons]
  cases k with
  | zero =>
   simp at h; subst h
   rw [List.getElem?_append_left (by rw [E.len]; omega)]; simp
  | succ k =>
   rw [List.getElem?_append_right (by rw [E.len, Nat.add_mul]; omega), E.len]
   have := ih k x j (by simpa using h) hj
   rw [show (k + 1) * E.sz + j - E.sz = k * E.sz + j from by rw [Nat.add_mul]; omega]
   exact this
theorem Enc.flat_one {α : Type} (E : Enc α) (xs : List α) : ∀ u ∈ E.flat xs, u.oneCell' = true := by
 intro u hu
 obtain ⟨x, _, hx⟩ := List.mem_flatMap.1 hu
 exact E.one x u hx
/-- the cells of a list of elements lie from ⟨b, off⟩ on -/
def Cells {α : Type} (E : Enc α) (w : World) (b off : Nat) (xs : List α) : Prop :=
 ∀ k x, xs[k]? = some x → ∀ j u, (E.row x)[j]? = some u → w.cell? ⟨b, off + k * E.sz + j, none⟩ = some u
/-- the slice value v holds the elements xs in the world w -/
def Arr {α : Type} (E : Enc α) (w : World) (v : Value) (xs : List α) : Prop :=
 ∃ b off ao cap, v = .slice ao xs.length cap ∧ xs.length ≤ cap ∧ cap ≤ maxLen ∧ (0 < xs.length → ao = some ⟨b, off, none⟩ ∧ b < w.heap.size) ∧ Cells E w b off xs
/-- the slice value v owns the elements xs: its block is one from B on -/
def Own {α : Type} (E : Enc α) (e : TypeId) (B : Nat) (w : World) (v : Value) (xs : List α) : Prop :=
 w.ownsRow B e E.sz v xs.length (E.flat xs)
theorem Cells.below {α : Type} {E : Enc α} {B : Nat} {w w' : World} {b off : Nat} {xs : List α} (h : Cells E w b off xs) (hb : Below B w w') (hB : b < B) : Cells E w' b off xs :=
 fun k x hx j u hu => (hb.cell (p := ⟨b, off + k * E.sz + j, none⟩) hB).trans (h k x hx j u hu)
theorem Arr.below {α : Type} {E : Enc α} {w w' : World} {v : Value} {xs : List α} (h : Arr E w v xs) (hb : Below w.heap.size w w') : Arr E w' v xs := by
 obtain ⟨b, off, ao, cap, hv, h1, h2, h3, h4⟩ := h
 refine ⟨b, off, ao, cap, hv, h1, h2, fun h => ⟨(h3 h).1, Nat.lt_of_lt_of_le (h3 h).2 hb.size⟩, fun k x hx => ?_⟩
 have hk : k < xs.length := (List.getElem?_eq_some_iff.1 hx).1
 exact (h4.below hb (h3 (by omega)).2) k x hx
theorem Arr.alloc {α : Type} {E : Enc α} {w : World} {v : Value} {xs : List α} (h : Arr E w v xs) (o : Obj) : Arr E (w.alloc o) v xs :=
 h.below ((Below.refl _ _).alloc (Nat.le_refl _) _)
theorem Arr.drew {α : Type} {E : Enc α} {w : World} {v : Value} {xs : List α} (h : Arr E w v xs) : Arr E w.drew v xs := h
theorem Own.below {α : Type} {E : Enc α} {e : TypeId} {B : Nat} {w w' : World} {v : Value} {xs : List α} (h : Own E e B w v xs) (hb : Below w.heap.size w w') : Own E e B w' v xs := by
 obtain ⟨h1, h2⟩ := h
 refine ⟨h1, ?_⟩
 rcases h2 with h2 | ⟨g, cap, cur, hv, hB, hg, rest⟩
 ·exact .inl h2
 ·refine .inr ⟨g, cap, cur, hv, hB, ?_, rest⟩
  rw [hb.block g (Array.getElem?_eq_some_iff.1 hg).1]; exact hg
theorem Own.alloc {α : Type} {E : Enc α} {e : TypeId} {B : Nat} {w : World} {v : Value} {xs : List α} (h : Own E e B w v xs) (o : Obj) : Own E e B (w.alloc o) v xs :=
 World.ownsRow.alloc h o
theorem Own.mono {α : Type} {E : Enc α} {e : TypeId} {B B' : Nat} {w : World} {v : Value} {xs : List α} (h : Own E e B w v xs) (hB : B' ≤ B) : Own E e B' w v xs := by
 obtain ⟨h1, h2⟩ := h
 refine ⟨h1, ?_⟩
 rcases h2 with h2 | ⟨g, cap, cur, hv, hb, rest⟩
 ·exact .inl h2
 ·exact .inr ⟨g, cap, cur, hv, Nat.le_trans hB hb, rest⟩
theorem Own.arr {α : Type} {E : Enc α} {e : TypeId} {B : Nat} {w : World} {v : Value} {xs : List α} (h : Own E e B w v xs) : Arr E w v xs := by
 rcases h.2 with ⟨hv, hn⟩ | ⟨g, cap, cur, hv, hB, hg, hnc, hcm, hcs, ht⟩
 ·have : xs = [] := List.length_eq_zero_iff.1 hn
  subst this
  exact ⟨0, 0, none, 0, hv, Nat.le_refl _, by simp [maxLen], by simp, fun k x hx => by simp at hx⟩
 ·refine ⟨g, 0, some ⟨g, 0, none⟩, cap, hv, hnc, hcm, fun _ => ⟨rfl, (Array.getElem?_eq_some_iff.1 hg).1⟩, fun k x hx j u hu => ?_⟩
  subst hv
  have hj : j < E.sz := by rw [← E.len x]; exact (List.getElem?_eq_some_iff.1 hu).1
  have hk : k < xs.length := (List.getElem?_eq_some_iff.1 hx).1
  have hlt : k * E.sz + j < xs.length * E.sz := by
   have : (k + 1) * E.sz ≤ xs.length * E.sz := Nat.mul_le_mul_right _ hk
   rw [Nat.add_mul] at this; omega
  rw [Nat.zero_add, World.ownsRow.cellAt h _ hlt, E.flat_get xs k x j hx hj, hu]
/-! ### one element of an owned slice is written -/
theorem Enc.flat_get' {α : Type} (E : Enc α) (xs : List α) (i : Nat) : (E.flat xs)[i]? = (xs[i / E.sz]?).bind fun x => (E.row x)[i % E.sz]? := by
 have hp := E.pos
 have hi : i / E.sz * E.sz + i % E.sz = i := by rw [Nat.mul_comm]; exact Nat.div_add_mod i E.sz
 cases h : xs[i / E.sz]? with
 | none =>
  have h' : xs.length ≤ i / E.sz := List.getElem?_eq_none_iff.1 h
  simp only [Option.bind_none]
  rw [List.getElem?_eq_none_iff, E.flat_len]
  have := Nat.mul_le_mul_right E.sz h'
  omega
 | some x =>
  simp only [Option.bind_some]
  have := E.flat_get xs (i / E.sz) x (i % E.sz) h (Nat.mod_lt _ hp)
  rw [hi] at this
  exact this
/-- the cells of a list after the cells from k * sz on have been set to us -/
def setFrom (l : List Value) (o : Nat) : List Value → List Value
 | [] => l
 | u :: us => setFrom (l.set o u) (o + 1) us
theorem setFrom_get (us : List Value) : ∀ (l : List Value) (o i : Nat), (setFrom l o us)[i]? = if o ≤ i ∧ i < o + us.length ∧ i < l.length then us[i - o]? else l[i]? := by
 induction us with
 | nil => intro l o i; simp only [setFrom, List.length_nil]; rw [if_neg (by omega)]
 | cons u us ih =>
  intro l o i
  simp only [setFrom, ih, List.length_set, List.length_cons, List.getElem?_set]
  by_cases h1 : i = o
  ·subst h1
   rw [if_neg (by omega), if_pos rfl]
   by_cases h2 : i < l.length
   ·rw [if_pos h2, if_pos (by omega)]; simp
   ·rw [if_neg h2, if_neg (by omega)]; simp; omega
  ·by_cases h2 : o + 1 ≤ i ∧ i < o + 1 + us.length ∧ i < l.length
   ·rw [if_pos h2, if_pos (by omega), show i - o = (i - (o + 1)) + 1 from by omega, List.getElem?_cons_succ]
   ·rw [if_neg h2, if_neg (by omega), if_neg (by omega)]
theorem Enc.flat_set {α : Type} (E : Enc α) (xs : List α) (k : Nat) (x : α) (hk : k < xs.length) : E.flat (xs.set k x) = setFrom (E.flat xs) (k * E.sz) (E.row x) := by
 have hp := E.pos
 refine List.ext_getElem? fun i => ?_
 rw [setFrom_get, E.flat_get', E.flat_len, E.len, List.getElem?_set]
 have hi : i / E.sz * E.sz + i % E.sz = i := by rw [Nat.mul_comm]; exact Nat.div_add_mod i E.sz
 have hm := Nat.mod_lt i hp
 by_cases h : k = i / E.sz
 ·subst h
  have hlt : (i / E.sz + 1) * E.sz ≤ xs.length * E.sz := Nat.mul_le_mul_right _ hk
  rw [Nat.add_mul] at hlt
  rw [if_pos rfl, if_pos hk, if_pos (by omega)]
  simp only [Option.bind_some]
  congr 1
  omega
 ·rw [if_neg h, if_neg, ← E.flat_get']
  rintro ⟨h1, h2, _⟩
  apply h
  have h3 : k * E.sz / E.sz = k := Nat.mul_div_cancel _ hp
  have h4 : k ≤ i / E.sz := by rw [← h3]; exact Nat.div_le_div_right h1
  have h5 : i / E.sz < k + 1 := by
   rw [Nat.div_lt_iff_lt_mul hp, Nat.add_mul]; omega
  omega
/-- stores of a row of cells, one behind the other -/
def storesAt (w : World) (g o : Nat) : List Value → World
 | [] => w
 | u :: us => storesAt (w.setCell ⟨g, o, none⟩ u) g (o + 1) us
theorem ownsRow_stores {B : Nat} {e : TypeId} {sz n cap g : Nat} (us : List Value) : ∀ {w : World} {xs : List Value} (o : Nat), w.ownsRow B e sz (.slice (some ⟨g, 0, none⟩) n cap) n xs →
  (storesAt w g o us).ownsRow B e sz (.slice (some ⟨g, 0, none⟩) n cap) n (setFrom xs o us) ∧ w.grownBy (storesAt w g o us) (some g) := by
 induction us with
 | nil => intro w xs o h; exact ⟨h, World.grownBy.refl _ _⟩
 | cons u us ih =>
  intro w xs o h
  have h1 := h.stored o u
  have h2 := ih (o + 1) h1.1
  refine ⟨h2.1, ?_⟩
  exact ⟨h2.2.os.trans h1.2.os, h2.2.tape.trans h1.2.tape, h2.2.output.trans h1.2.output, Nat.le_trans h1.2.size h2.2.size,
   fun k hk hne => (h2.2.block k (Nat.lt_of_lt_of_le hk h1.2.size) hne).trans (h1.2.block k hk hne)⟩
theorem Own.set {α : Type} {E : Enc α} {e : TypeId} {B g cap : Nat} {w : World} {xs : List α} {n : Nat} (h : Own E e B w (.slice (some ⟨g, 0, none⟩) n cap) xs) (hn : n = xs.length) (k : Nat) (hk : k < xs.length) (x : α) :
  Own E e B (storesAt w g (k * E.sz) (E.row x)) (.slice (some ⟨g, 0, none⟩) n cap) (xs.set k x) ∧ w.grownBy (storesAt w g (k * E.sz) (E.row x)) (some g) := by
 subst hn
 have h1 := ownsRow_stores (E.row x) (k * E.sz) h
 refine ⟨?_, h1.2⟩
 have h2 := h1.1
 rw [← E.flat_set xs k x hk] at h2
 unfold Own
 rw [List.length_set]
 exact h2
theorem Own.slot {α : Type} {E : Enc α} {e : TypeId} {B g cap n : Nat} {w : World} {xs : List α} (h : Own E e B w (.slice (some ⟨g, 0, none⟩) n cap) xs) (hn : n = xs.length) (k : Nat) (hk : k < n) (j : Nat) (hj : j < E.sz) :
  ∃ u, w.cell? ⟨g, k * E.sz + j, none⟩ = some u := by
 subst hn
 have hlt : k * E.sz + j < xs.length * E.sz := by
  have : (k + 1) * E.sz ≤ xs.length * E.sz := Nat.mul_le_mul_right _ hk
  rw [Nat.add_mul] at this; omega
 rw [World.ownsRow.cellAt h _ hlt, E.flat_get xs k _ j (List.getElem?_eq_getElem hk) hj]
 exact ⟨_, List.getElem?_eq_getElem (by rw [E.len]; exact hj)⟩
theorem Own.free {α : Type} {E : Enc α} {e : TypeId} {B g cap n : Nat} {w : World} {xs : List α} (h : Own E e B w (.slice (some ⟨g, 0, none⟩) n cap) xs) (hn : n = xs.length) (o : Nat) :
  w.frozen? ⟨g, o, none⟩ = false := by
 subst hn; exact World.ownsRow.frozenAt h o
theorem Own.lt {α : Type} {E : Enc α} {e : TypeId} {B g cap n : Nat} {w : World} {xs : List α} (h : Own E e B w (.slice (some ⟨g, 0, none⟩) n cap) xs) : B ≤ g ∧ g < w.heap.size := by
 rcases h.2 with ⟨h, _⟩ | ⟨g', _, _, h, hB, hh, _⟩
 ·simp at h
 ·simp at h; obtain ⟨rfl, _⟩ := h; exact ⟨hB, (Array.getElem?_eq_some_iff.1 hh).1⟩
/-- the shape of an owned slice -/
theorem Own.shape {α : Type} {E : Enc α} {e : TypeId} {B : Nat} {w : World} {v : Value} {xs : List α} (h : Own E e B w v xs) :
  (v = .slice none 0 0 ∧ xs = []) ∨ ∃ g cap, v = .slice (some ⟨g, 0, none⟩) xs.length cap ∧ B ≤ g ∧ g < w.heap.size := by
 rcases h.2 with ⟨h, h2⟩ | ⟨g', cap, _, h, hB, hh, _⟩
 ·exact .inl ⟨h, List.length_eq_zero_iff.1 h2⟩
 ·exact .inr ⟨g', cap, h, hB, (Array.getElem?_eq_some_iff.1 hh).1⟩
theorem Own.setBelow {α : Type} {E : Enc α} {e : TypeId} {B : Nat} {w : World} {v : Value} {xs : List α} (h : Own E e B w v xs) {a : Addr} (ha : a.block < B) (u : Value) : Own E e B (w.setCell a u) v xs := ownsRow_setCell_below h ha u
theorem Own.isSlice {α : Type} {E : Enc α} {e : TypeId} {B : Nat} {w : World} {v : Value} {xs : List α} (h : Own E e B w v xs) : ∃ a c, v = .slice a xs.length c := by
 rcases h.shape with ⟨hv, h2⟩ | ⟨g, cap, hv, _⟩
 ·subst h2; exact ⟨_, _, hv⟩
 ·exact ⟨_, _, hv⟩
theorem Arr.isSlice {α : Type} {E : Enc α} {w : World} {v : Value} {xs : List α} (h : Arr E w v xs) : ∃ a c, v = .slice a xs.length c := by
 obtain ⟨b, off, ao, cap, hv, _⟩ := h
 exact ⟨_, _, hv⟩
/-- one step of a list that is being filled from the left -/
theorem fill_step {α : Type} {xs ys : List α} {k : Nat} {x : α} (hl : ys.length = xs.length) (h : ∀ j, j < k → ys[j]? = xs[j]?) (hx : xs[k]? = some x) :
  (ys.set k x).length = xs.length ∧ ∀ j, j < k + 1 → (ys.set k x)[j]? = xs[j]? := by
 have hk : k < xs.length := (List.getElem?_eq_some_iff.1 hx).1
 refine ⟨by simpa using hl, fun j hj => ?_⟩
 by_cases e : k = j
 ·subst e; rw [List.getElem?_set_self (by omega)]; exact hx.symm
 ·rw [List.getElem?_set_ne e]; exact h j (by omega)
theorem fill_done {α : Type} {xs ys : List α} {k : Nat} (hl : ys.length = xs.length) (h : ∀ j, j < k → ys[j]? = xs[j]?) (hk : xs.length ≤ k) : ys = xs := by
 refine List.ext_getElem? fun j => ?_
 by_cases hj : j < k
 ·exact h j hj
 ·rw [List.getElem?_eq_none_iff.2 (by omega), List.getElem?_eq_none_iff.2 (by omega)]
/-! ### a slice that make has just laid -/
theorem madeCells_flat (c : Array Value) (n : Nat) (hc : 0 < c.size) : (madeCells c (n * c.size)).toList = (List.replicate n c.toList).flatten := by
 have key : ∀ (n : Nat) (i : Nat), ((List.replicate n c.toList).flatten)[i]? = if i < n * c.size then c[i % c.size]? else none := by
  intro n
  induction n with
  | zero => intro i; simp
  | succ n ih =>
   intro i
   rw [List.replicate_succ, List.flatten_cons]
   by_cases h : i < c.size
   ·rw [List.getElem?_append_left (by simpa using h), if_pos (by rw [Nat.add_mul]; omega), Nat.mod_eq_of_lt h]; simp
   ·rw [List.getElem?_append_right (by simpa using h), ih]
    simp only [Array.length_toList]
    have e1 : (i - c.size) % c.size = i % c.size := by
     rw [Nat.mod_eq_sub_mod (by omega : i ≥ c.size)]
    rw [e1]
    by_cases h2 : i < (n + 1) * c.size
    ·rw [if_pos h2, if_pos (by rw [Nat.add_mul] at h2; omega)]
    ·rw [if_neg h2, if_neg (by rw [Nat.add_mul] at h2; omega)]
 refine List.ext_getElem? fun i => ?_
 rw [key]
 by_cases h : i < n * c.size
 ·rw [if_pos h]
  have hm : i % c.size < c.size := Nat.mod_lt _ hc
  simp [madeCells, h, hm]
 ·rw [if_neg h]; simp [madeCells]; omega
theorem Own.made {α : Type} {E : Enc α} {e : TypeId} {B : Nat} {w : World} {v : Value} {n : Nat} {c : Array Value} {z : α} (h : w.ownsRow B e E.sz v n (madeCells c (n * E.sz)).toList) (hz : c.toList = E.row z) :
  Own E e B w v (List.replicate n z) := by
 have hs : c.size = E.sz := by rw [← E.len z, ← hz]; simp
 unfold Own
 rw [← hs, madeCells_flat c n (by rw [hs]; exact E.pos), hs] at h
 rw [List.length_replicate]
 have : E.flat (List.replicate n z) = (List.replicate n c.toList).flatten := by
  rw [Enc.flat, List.flatMap_def, List.map_replicate, hz]
 rw [this]; exact h
/-! ### sizes -/
def szOf (T : Nat) (left : Int) : Int := if left < T then -1 else left - T
theorem szOf_neg {T : Nat} {left : Int} (h : left < T) : szOf T left = -1 := if_pos h
theorem szOf_pos {T : Nat} {left : Int} (h : (T : Int) ≤ left) : szOf T left = left - T := if_neg (by omega)
def sumOf {α : Type} (f : α → Nat) (xs : List α) : Nat := (xs.map f).sum
theorem sumOf_take {α : Type} (f : α → Nat) {xs : List α} {k : Nat} {x : α} (h : xs[k]? = some x) : sumOf f (xs.take (k + 1)) = sumOf f (xs.take k) + f x := by
 unfold sumOf
 rw [List.take_add_one, h]; simp
theorem sumOf_take_le {α : Type} (f : α → Nat) (xs : List α) (k : Nat) : sumOf f (xs.take k) ≤ sumOf f xs := by
 unfold sumOf
 conv => rhs; rw [← List.take_append_drop k xs]
 rw [List.map_append, List.sum_append]; omega
theorem sumOf_mem {α : Type} (f : α → Nat) {xs : List α} {k : Nat} {x : α} (h : xs[k]? = some x) : f x ≤ sumOf f xs := by
 have h1 := sumOf_take_le f xs (k + 1)
 rw [sumOf_take f h] at h1
 omega
/-! ### equality of lists, element by element -/
theorem Arr.len {α : Type} {E : Enc α} {w : World} {v : Value} {xs : List α} (h : Arr E w v xs) : xs.length ≤ maxLen := by
 obtain ⟨b, off, ao, cap, hv, h1, h2, h3, h4⟩ := h
 omega
theorem bcell {W w1 : World} (hb : Below W.heap.size W w1) : (∀ b o, b < W.heap.size → w1.cell? ⟨b, o, none⟩ = W.cell? ⟨b, o, none⟩) ∧ (∀ b o, b < W.heap.size → w1.frozen? ⟨b, o, none⟩ = W.frozen? ⟨b, o, none⟩) :=
 ⟨fun b o h => hb.cell (p := ⟨b, o, none⟩) h, fun b o h => hb.frozen (p := ⟨b, o, none⟩) h⟩
/-- the call returns v and leaves what was there -/
def Ret (v : Value) (W : World) (e : Ending) (w' : World) : Prop := e = .returned v ∧ Below W.heap.size W w'
theorem ret_ret {v u : Value} {W w' : World} (h : u = v) (hb : Below W.heap.size W w') : Ret v W (.returned u) w' := ⟨by rw [h], hb⟩
theorem ret_int {k : IntKind} {a b : Int} {W w' : World} (h : a = b) (hb : Below W.heap.size W w') : Ret (.int k b) W (.returned (.int k a)) w' := ⟨by rw [h], hb⟩
theorem ret_bool {a b : Bool} {W w' : World} (h : a = b) (hb : Below W.heap.size W w') : Ret (.bool b) W (.returned (.bool a)) w' := ⟨by rw [h], hb⟩
theorem ret_str {a b : ByteArray} {W w' : World} (h : a = b) (hb : Below W.heap.size W w') : Ret (.string b) W (.returned (.string a)) w' := ⟨by rw [h], hb⟩
/-- the call returns a slice of its own that holds xs, and leaves what was there -/
def RetOwn {α : Type} (E : Enc α) (e : TypeId) (xs : List α) (W : World) (en : Ending) (w' : World) : Prop :=
 ∃ v, en = .returned v ∧ Own E e W.heap.size w' v xs ∧ Below W.heap.size W w'
/-! ### a region that draws its order, whose operations read and whose callees leave what was there -/
/-- a world that has grown out of w -/
structure ExtOf (w : World) where
 world : World
 below : Below w.heap.size w world
instance extOfNonempty (w : World) : Nonempty (ExtOf w) := ⟨⟨w, Below.refl _ _⟩⟩
def ext (w : World) (n : ExtOf w) : World := n.world
theorem ext_below (w : World) (n : ExtOf w) : Below w.heap.size w (ext w n) := n.below
theorem ext_cell {w : World} {b o : Nat} {u : Value} (h : w.cell? ⟨b, o, none⟩ = some u) : ∀ n, (ext w n).cell? ⟨b, o, none⟩ = some u :=
 fun n => ((ext_below w n).cell (p := ⟨b, o, none⟩) (World.block_lt_of_cell? w ⟨b, o, none⟩ h)).trans h
theorem ext_arr {α : Type} {E : Enc α} {w : World} {v : Value} {xs : List α} (h : Arr E w v xs) (n : ExtOf w) : Arr E (ext w n) v xs := h.below (ext_below w n)
theorem wp_region_ext {P : Program} {id : Nat} {Q : Exit → Act → World → Prop} {a : Act} {w : World} {l : List Oper} (hm : P.follows .mixedOrders = true) (hB : Region.lexB .any l.toArray = true)
  (h : wpQuiet P l.toArray (fun w' => ∃ n, w' = ext w n) (fun a' => ∀ w', (∃ n, w' = ext w n) → Q .normal a' w') l a) : (Code.region id l.toArray true).wp P Q a w :=
 wp_region_quiet (C := fun w' => ∃ n, w' = ext w n) hm hB ⟨⟨{ w with drawn := w.drawn + 1 }, ⟨rfl, rfl, rfl, Nat.le_refl _, fun _ _ => rfl⟩⟩, rfl⟩ (by simpa using h)
theorem ret_ext {P : Program} {f : FuncId} {args : Array Value} {w : World} {n : ExtOf w} {v : Value}
  (h : Calls P f args (ext w n) (Ret v (ext w n))) : Calls P f args (ext w n) fun e w'' => e = .returned v ∧ ∃ m, w'' = ext w m :=
 h.mono fun _ w' ⟨he, hb⟩ => ⟨he, ⟨w', (ext_below w n).trans (hb.mono (ext_below w n).size)⟩, rfl⟩
theorem same_ext {P : Program} {f : FuncId} {args : Array Value} {w : World} {n : ExtOf w} {v : Value}
  (h : Calls P f args (ext w n) fun e w' => e = .returned v ∧ ext w n = w') : Calls P f args (ext w n) fun e w'' => e = .returned v ∧ ∃ m, w'' = ext w m :=
 h.mono fun _ _ ⟨he, hb⟩ => ⟨he, n, hb.symm⟩
theorem cell_alloc {w : World} {b o : Nat} {v : Value} (h : w.cell? ⟨b, o, none⟩ = some v) (ob : Obj) : (w.alloc ob).cell? ⟨b, o, none⟩ = some v :=
 cell_later ((Below.refl _ _).alloc (Nat.le_refl _) _) h
theorem cell_lt {w : World} {b o : Nat} {v : Value} (h : w.cell? ⟨b, o, none⟩ = some v) : b < w.heap.size := World.block_lt_of_cell? w ⟨b, o, none⟩ h
theorem cell_other {w : World} {b o : Nat} {a : Addr} {v u : Value} (h : w.cell? ⟨b, o, none⟩ = some v) (hne : b ≠ a.block) : (w.setCell a u).cell? ⟨b, o, none⟩ = some v :=
 (World.cell?_of_block (w := w) (Below.heap_setCell w a u b hne)).trans h
def inB (n l h : Int) : Bool := decide (l ≤ n) && decide (n ≤ h)
theorem inB_t {n l h : Int} (h1 : l ≤ n) : decide (n ≤ h) = inB n l h := by simp [inB, h1]
theorem inB_f {n l h : Int} (h1 : n < l) : false = inB n l h := by simp [inB]; intro h2; omega
theorem inB_true {n l h : Int} : inB n l h = true ↔ l ≤ n ∧ n ≤ h := by simp [inB]
end Go.Proofs.YtlnoelbeaolikaaGreat
