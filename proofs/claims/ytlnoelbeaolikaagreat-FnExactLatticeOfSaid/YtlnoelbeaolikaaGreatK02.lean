/- How values of a type lie in memory: readable within a range of blocks, or owned within it; what keeps them. Plain lemmas, no program. -/
import Derived.Test.YtlnoelbeaolikaaGreatK00
import Derived.Test.YtlnoelbeaolikaaGreatRows
import Derived.ProofKit
import Derived.Deep.Slices
import Derived.Test.YtlnoelbeaolikaaGreatK01
namespace Go.Proofs.YtlnoelbeaolikaaGreat
open Go.RowKit
/-- w' is w but for the blocks a .. b - 1, and for new blocks -/
structure Chg (a b : Nat) (w w' : World) : Prop where
 os : w'.os = w.os
 tape : w'.tape = w.tape
 output : w'.output = w.output
 size : w.heap.size ≤ w'.heap.size
 block : ∀ k, k < w.heap.size → (k < a ∨ b ≤ k) → w'.heap[k]? = w.heap[k]?
theorem Chg.refl (a b : Nat) (w : World) : Chg a b w w := ⟨rfl, rfl, rfl, Nat.le_refl _, fun _ _ _ => rfl⟩
theorem Chg.trans {a b : Nat} {x y z : World} (h : Chg a b x y) (k : Chg a b y z) : Chg a b x z :=
 ⟨k.os.trans h.os, k.tape.trans h.tape, k.output.trans h.output, Nat.le_trans h.size k.size, fun i hi hj => (k.block i (Nat.lt_of_lt_of_le hi h.size) hj).trans (h.block i hi hj)⟩
theorem Chg.of_below {a b : Nat} {w w' : World} (h : Below w.heap.size w w') : Chg a b w w' := ⟨h.os, h.tape, h.output, h.size, fun k hk _ => h.block k hk⟩
theorem Chg.of_grown {a b : Nat} {w w' : World} {g : Nat} (h : w.grownBy w' (some g)) (ha : a ≤ g) (hb : g < b) : Chg a b w w' :=
 ⟨h.os, h.tape, h.output, h.size, fun k hk hj => h.block k hk (by intro e; simp at e; omega)⟩
theorem Chg.mono {a b a' b' : Nat} {w w' : World} (h : Chg a b w w') (ha : a' ≤ a) (hb : b ≤ b') : Chg a' b' w w' := ⟨h.os, h.tape, h.output, h.size, fun k hk hj => h.block k hk (by omega)⟩
theorem below_chg {a b : Nat} {w0 w w' : World} (h : Below w0.heap.size w0 w) (hc : Chg a b w w') (ha : w0.heap.size ≤ a) : Below w0.heap.size w0 w' :=
 h.trans ⟨hc.os, hc.tape, hc.output, hc.size, fun k hk => hc.block k (Nat.lt_of_lt_of_le hk h.size) (.inl (by omega))⟩
theorem chg_cell {a b : Nat} {w w' : World} (hc : Chg a b w w') {p o : Nat} {u : Value} (h : w.cell? ⟨p, o, none⟩ = some u) (hp : p < a ∨ b ≤ p) : w'.cell? ⟨p, o, none⟩ = some u :=
 (World.cell?_of_block (w := w) (hc.block p (cell_lt h) hp)).trans h
/-- blocks of other element types are as they were -/
def Typed (ty : TypeId → Bool) (w w' : World) : Prop := ∀ (k : Nat) c T f, w.heap[k]? = some (.cells c T f) → ty T = false → w'.heap[k]? = some (.cells c T f)
/-- what a function that marks does to the world -/
def Mk (ty : TypeId → Bool) (a b : Nat) (w w' : World) : Prop := Chg a b w w' ∧ Typed ty w w'
theorem Mk.refl (ty : TypeId → Bool) (a b : Nat) (w : World) : Mk ty a b w w := ⟨Chg.refl _ _ _, fun _ _ _ _ h _ => h⟩
theorem Mk.trans {ty : TypeId → Bool} {a b : Nat} {x y z : World} (h : Mk ty a b x y) (k : Mk ty a b y z) : Mk ty a b x z := ⟨h.1.trans k.1, fun i c T f h1 h2 => k.2 i c T f (h.2 i c T f h1 h2) h2⟩
theorem Mk.of_below {ty : TypeId → Bool} {a b : Nat} {w w' : World} (h : Below w.heap.size w w') : Mk ty a b w w' :=
 ⟨Chg.of_below h, fun k _ _ _ h1 _ => (h.block k (Array.getElem?_eq_some_iff.1 h1).1).trans h1⟩
/-- a block of a known element type -/
def BoxT (w : World) (p : Nat) (T : TypeId) : Prop := ∃ c f, w.heap[p]? = some (.cells c T f)
theorem BoxT.below {w w' : World} {p : Nat} {T : TypeId} (h : BoxT w p T) (hb : Below w.heap.size w w') : BoxT w' p T := by
 obtain ⟨c, f, h⟩ := h
 exact ⟨c, f, (hb.block p (Array.getElem?_eq_some_iff.1 h).1).trans h⟩
theorem BoxT.typed {ty : TypeId → Bool} {w w' : World} {p : Nat} {T : TypeId} (h : BoxT w p T) (ht : Typed ty w w') (hT : ty T = false) : BoxT w' p T := by
 obtain ⟨c, f, h⟩ := h
 exact ⟨c, f, ht p c T f h hT⟩
theorem typed_cell {ty : TypeId → Bool} {w w' : World} {p o : Nat} {T : TypeId} {u : Value} (ht : Typed ty w w') (h : BoxT w p T) (hT : ty T = false) (hc : w.cell? ⟨p, o, none⟩ = some u) : w'.cell? ⟨p, o, none⟩ = some u := by
 obtain ⟨c, f, h⟩ := h
 exact (World.cell?_of_block (w := w) ((ht p c T f h hT).trans h.symm)).trans hc
theorem BoxT.set {w : World} {p o : Nat} {T : TypeId} {u : Value} (h : BoxT w p T) : BoxT (w.setCell ⟨p, o, none⟩ u) p T := by
 obtain ⟨c, f, h⟩ := h
 refine ⟨c.setIfInBounds o u, f, ?_⟩
 simp [World.setCell, Array.getElem?_modify, h]
/-- readable, from blocks lo .. hi - 1 -/
def ArrIn {α : Type} (E : Enc α) (lo hi : Nat) (w : World) (v : Value) (xs : List α) : Prop :=
 ∃ b off ao cap, v = .slice ao xs.length cap ∧ xs.length ≤ cap ∧ cap ≤ maxLen ∧ (0 < xs.length → ao = some ⟨b, off, none⟩ ∧ lo ≤ b ∧ b < hi) ∧ Cells E w b off xs
theorem Cells.lt {α : Type} {E : Enc α} {w : World} {b off : Nat} {xs : List α} (h : Cells E w b off xs) (h0 : 0 < xs.length) : b < w.heap.size := by
 obtain ⟨x, hx⟩ : ∃ x, xs[0]? = some x := ⟨_, List.getElem?_eq_getElem h0⟩
 obtain ⟨u, hu⟩ : ∃ u, (E.row x)[0]? = some u := ⟨_, List.getElem?_eq_getElem (by rw [E.len]; exact E.pos)⟩
 exact cell_lt (h 0 x hx 0 u hu)
theorem Arr.in_ {α : Type} {E : Enc α} {w : World} {v : Value} {xs : List α} (h : Arr E w v xs) : ArrIn E 0 w.heap.size w v xs := by
 obtain ⟨b, off, ao, cap, hv, h1, h2, h3, h4⟩ := h
 exact ⟨b, off, ao, cap, hv, h1, h2, fun h => ⟨(h3 h).1, Nat.zero_le _, (h3 h).2⟩, h4⟩
theorem ArrIn.arr {α : Type} {E : Enc α} {lo hi : Nat} {w : World} {v : Value} {xs : List α} (h : ArrIn E lo hi w v xs) : Arr E w v xs := by
 obtain ⟨b, off, ao, cap, hv, h1, h2, h3, h4⟩ := h
 exact ⟨b, off, ao, cap, hv, h1, h2, fun h => ⟨(h3 h).1, h4.lt h⟩, h4⟩
theorem ArrIn.mono {α : Type} {E : Enc α} {lo hi lo' hi' : Nat} {w : World} {v : Value} {xs : List α} (h : ArrIn E lo hi w v xs) (hl : lo' ≤ lo) (hh : hi ≤ hi') : ArrIn E lo' hi' w v xs := by
 obtain ⟨b, off, ao, cap, hv, h1, h2, h3, h4⟩ := h
 exact ⟨b, off, ao, cap, hv, h1, h2, fun h => ⟨(h3 h).1, Nat.le_trans hl (h3 h).2.1, Nat.lt_of_lt_of_le (h3 h).2.2 hh⟩, h4⟩
theorem ArrIn.chg {α : Type} {E : Enc α} {lo hi a b : Nat} {w w' : World} {v : Value} {xs : List α} (h : ArrIn E lo hi w v xs) (hc : Chg a b w w') (hd : b ≤ lo ∨ hi ≤ a) : ArrIn E lo hi w' v xs := by
 obtain ⟨b, off, ao, cap, hv, h1, h2, h3, h4⟩ := h
 refine ⟨b, off, ao, cap, hv, h1, h2, h3, fun k x hx j u hu => ?_⟩
 have hk : k < xs.length := (List.getElem?_eq_some_iff.1 hx).1
 exact chg_cell hc (h4 k x hx j u hu) (by have := h3 (by omega); omega)
def OwnIn {α : Type} (E : Enc α) (e : TypeId) (lo hi : Nat) (w : World) (v : Value) (xs : List α) : Prop :=
 Own E e lo w v xs ∧ ∀ g, v.ownBlock = some g → g < hi
theorem Own.in_ {α : Type} {E : Enc α} {e : TypeId} {lo : Nat} {w : World} {v : Value} {xs : List α} (h : Own E e lo w v xs) : OwnIn E e lo w.heap.size w v xs :=
 ⟨h, fun g hg => (World.ownsRow.lt h g hg).2⟩
theorem OwnIn.arrIn {α : Type} {E : Enc α} {e : TypeId} {lo hi : Nat} {w : World} {v : Value} {xs : List α} (h : OwnIn E e lo hi w v xs) : ArrIn E lo hi w v xs := by
 obtain ⟨ho, hh⟩ := h
 have ha := ho.arr
 rcases ho.shape with ⟨rfl, rfl⟩ | ⟨g, cap, rfl, hl, hs⟩
 ·exact ⟨0, 0, none, 0, rfl, Nat.le_refl _, by simp [maxLen], by simp, fun k x hx => by simp at hx⟩
 ·obtain ⟨b, off, ao, cap', hv, h1, h2, h3, h4⟩ := ha
  simp at hv
  obtain ⟨rfl, rfl⟩ := hv
  refine ⟨b, off, some ⟨g, 0, none⟩, cap, rfl, h1, h2, fun h => ⟨(h3 h).1, ?_⟩, h4⟩
  have e := (h3 h).1
  simp at e
  rw [← e.1]
  exact ⟨hl, hh g (by simp [Value.ownBlock])⟩
theorem OwnIn.chg {α : Type} {E : Enc α} {e : TypeId} {lo hi a b : Nat} {w w' : World} {v : Value} {xs : List α} (h : OwnIn E e lo hi w v xs) (hc : Chg a b w w') (hd : b ≤ lo ∨ hi ≤ a) : OwnIn E e lo hi w' v xs := by
 obtain ⟨⟨h1, h2⟩, hh⟩ := h
 refine ⟨⟨h1, ?_⟩, hh⟩
 rcases h2 with h2 | ⟨g, cap, cur, hv, hB, hg, rest⟩
 ·exact .inl h2
 ·refine .inr ⟨g, cap, cur, hv, hB, ?_, rest⟩
  have := hh g (by rw [hv]; simp [Value.ownBlock])
  rw [hc.block g (Array.getElem?_eq_some_iff.1 hg).1 (by omega)]; exact hg
theorem OwnIn.mono {α : Type} {E : Enc α} {e : TypeId} {lo hi lo' hi' : Nat} {w : World} {v : Value} {xs : List α} (h : OwnIn E e lo hi w v xs) (hl : lo' ≤ lo) (hh : hi ≤ hi') : OwnIn E e lo' hi' w v xs :=
 ⟨h.1.mono hl, fun g hg => Nat.lt_of_lt_of_le (h.2 g hg) hh⟩
/-- one cell of one element of an owned slice is written -/
theorem Own.set1 {α : Type} {E : Enc α} {e : TypeId} {B g cap n : Nat} {w : World} {xs : List α} (h : Own E e B w (.slice (some ⟨g, 0, none⟩) n cap) xs) (hn : n = xs.length) {k j : Nat} {x x' : α} {u : Value} (hx : xs[k]? = some x) (hj : j < E.sz) (hr : E.row x' = (E.row x).set j u) :
  Own E e B (w.setCell ⟨g, k * E.sz + j, none⟩ u) (.slice (some ⟨g, 0, none⟩) n cap) (xs.set k x') ∧ w.grownBy (w.setCell ⟨g, k * E.sz + j, none⟩ u) (some g) := by
 subst hn
 have hk : k < xs.length := (List.getElem?_eq_some_iff.1 hx).1
 have h1 := World.ownsRow.stored h (k * E.sz + j) u
 refine ⟨?_, h1.2⟩
 have h2 := h1.1
 have e2 : (E.flat xs).set (k * E.sz + j) u = E.flat (xs.set k x') := by
  refine List.ext_getElem? fun i => ?_
  have hp := E.pos
  have hi : i / E.sz * E.sz + i % E.sz = i := by rw [Nat.mul_comm]; exact Nat.div_add_mod i E.sz
  have hm := Nat.mod_lt i hp
  rw [E.flat_get' (xs.set k x'), List.getElem?_set, List.getElem?_set, E.flat_len]
  have hlt : k * E.sz + j < xs.length * E.sz := by
   have : (k + 1) * E.sz ≤ xs.length * E.sz := Nat.mul_le_mul_right _ hk
   rw [Nat.add_mul] at this; omega
  by_cases ek : k = i / E.sz
  ·subst ek
   rw [if_pos rfl, if_pos hk]
   simp only [Option.bind_some]
   rw [hr, List.getElem?_set, E.len]
   by_cases ej : j = i % E.sz
   ·subst ej; rw [if_pos hi, if_pos hlt, if_pos rfl, if_pos hm]
   ·rw [if_neg (by omega), if_neg ej, E.flat_get', hx]; rfl
  ·rw [if_neg ek, if_neg, ← E.flat_get']
   intro e3
   apply ek
   rw [← e3, Nat.mul_comm k, Nat.mul_add_div hp, Nat.div_eq_of_lt hj]
   omega
 rw [e2] at h2
 unfold Own
 rw [List.length_set]
 exact h2
theorem OwnIn.set1 {α : Type} {E : Enc α} {e : TypeId} {lo hi g cap n : Nat} {w : World} {xs : List α} (h : OwnIn E e lo hi w (.slice (some ⟨g, 0, none⟩) n cap) xs) (hn : n = xs.length) {k j : Nat} {x x' : α} {u : Value} (hx : xs[k]? = some x) (hj : j < E.sz) (hr : E.row x' = (E.row x).set j u) :
  OwnIn E e lo hi (w.setCell ⟨g, k * E.sz + j, none⟩ u) (.slice (some ⟨g, 0, none⟩) n cap) (xs.set k x') ∧ Mk (fun T => T == e) lo hi w (w.setCell ⟨g, k * E.sz + j, none⟩ u) := by
 have hg := h.2 g (by simp [Value.ownBlock])
 have hl := h.1.lt.1
 have h1 := h.1.set1 hn hx hj hr
 refine ⟨⟨h1.1, h.2⟩, Chg.of_grown h1.2 hl hg, fun q c T f hq hT => ?_⟩
 have hne : q ≠ g := by
  intro e2; subst e2
  rcases h.1.2 with ⟨h', _⟩ | ⟨g', cap', cur, h', _, hgg, _⟩
  ·simp at h'
  ·simp at h'
   obtain ⟨rfl, _⟩ := h'
   rw [hgg] at hq
   simp at hq
   simp [hq.2.1] at hT
 rw [Below.heap_setCell _ _ _ _ hne]; exact hq
theorem set_same {α : Type} {xs : List α} {k : Nat} {x y : α} (h : xs[k]? = some x) : (xs.set k y)[k]? = some y := by
 rw [List.getElem?_set_self (List.getElem?_eq_some_iff.1 h).1]
theorem set_set {α : Type} (xs : List α) (k : Nat) (x y : α) : (xs.set k x).set k y = xs.set k y := by simp
theorem OwnIn.set_other {α : Type} {E : Enc α} {e : TypeId} {lo hi : Nat} {w : World} {v : Value} {xs : List α} {p o : Nat} {c : Array Value} {T : TypeId} {f : Nat × Nat} {u : Value} (h : OwnIn E e lo hi w v xs)
  (hp : w.heap[p]? = some (.cells c T f)) (hT : T ≠ e) : OwnIn E e lo hi (w.setCell ⟨p, o, none⟩ u) v xs := by
 obtain ⟨⟨h1, h2⟩, hh⟩ := h
 refine ⟨⟨h1, ?_⟩, hh⟩
 rcases h2 with h2 | ⟨g, cap, cur, hv, hB, hg, rest⟩
 ·exact .inl h2
 ·refine .inr ⟨g, cap, cur, hv, hB, ?_, rest⟩
  have hne : g ≠ p := by
   intro e2; subst e2
   rw [hg] at hp
   simp at hp
   exact hT hp.2.1.symm
  rw [Below.heap_setCell _ _ _ _ hne]; exact hg
/-- how the values of a type lie in memory -/
structure Rep (X : Type) where
 at_ : Nat → Nat → World → Value → X → Prop
 own : Nat → Nat → World → Value → X → Prop
 own_at : ∀ {lo hi w v x}, own lo hi w v x → at_ lo hi w v x
 at_chg : ∀ {lo hi w v x a b w'}, at_ lo hi w v x → Chg a b w w' → (b ≤ lo ∨ hi ≤ a) → at_ lo hi w' v x
 own_chg : ∀ {lo hi w v x a b w'}, own lo hi w v x → Chg a b w w' → (b ≤ lo ∨ hi ≤ a) → own lo hi w' v x
 at_mono : ∀ {lo hi w v x lo' hi'}, at_ lo hi w v x → lo' ≤ lo → hi ≤ hi' → at_ lo' hi' w v x
 own_mono : ∀ {lo hi w v x lo' hi'}, own lo hi w v x → lo' ≤ lo → hi ≤ hi' → own lo' hi' w v x
 ty : TypeId → Bool
 own_set : ∀ {lo hi w v x p c T f o u}, own lo hi w v x → w.heap[p]? = some (.cells c T f) → ty T = false → own lo hi (w.setCell ⟨p, o, none⟩ u) v x
theorem Rep.at_below {X : Type} (R : Rep X) {lo hi : Nat} {w w' : World} {v : Value} {x : X} (h : R.at_ lo hi w v x) (hb : Below w.heap.size w w') : R.at_ lo hi w' v x :=
 R.at_chg h (Chg.of_below (a := hi) (b := hi) hb) (.inr (Nat.le_refl _))
theorem Rep.own_below {X : Type} (R : Rep X) {lo hi : Nat} {w w' : World} {v : Value} {x : X} (h : R.own lo hi w v x) (hb : Below w.heap.size w w') : R.own lo hi w' v x :=
 R.own_chg h (Chg.of_below (a := hi) (b := hi) hb) (.inr (Nat.le_refl _))
theorem Rep.own_now {X : Type} (R : Rep X) {lo : Nat} {w w' : World} {v : Value} {x : X} (h : R.own lo w.heap.size w v x) (hb : Below w.heap.size w w') : R.own lo w'.heap.size w' v x :=
 R.own_mono (R.own_below h hb) (Nat.le_refl _) hb.size
theorem below_alloc (w : World) (o : Obj) : Below w.heap.size w (w.alloc o) := (Below.refl _ _).alloc (Nat.le_refl _) _
theorem Rep.at_alloc {X : Type} (R : Rep X) {lo hi : Nat} {w : World} {v : Value} {x : X} (h : R.at_ lo hi w v x) (o : Obj) : R.at_ lo hi (w.alloc o) v x := R.at_below h (below_alloc w o)
theorem Rep.own_alloc {X : Type} (R : Rep X) {lo hi : Nat} {w : World} {v : Value} {x : X} (h : R.own lo hi w v x) (o : Obj) : R.own lo hi (w.alloc o) v x := R.own_below h (below_alloc w o)
def Rep.flat {α : Type} (E : Enc α) (e : TypeId) : Rep (List α) where
 at_ := ArrIn E
 own := OwnIn E e
 own_at := OwnIn.arrIn
 at_chg := ArrIn.chg
 own_chg := OwnIn.chg
 at_mono := ArrIn.mono
 own_mono := OwnIn.mono
 ty := fun T => T == e
 own_set := fun h hp hT => OwnIn.set_other h hp (by simpa using hT)
/-- a struct of one field -/
def Rep.agg1 {X : Type} (R : Rep X) : Rep X where
 at_ := fun lo hi w v x => ∃ u, v = .agg #[u] ∧ R.at_ lo hi w u x
 own := fun lo hi w v x => ∃ u, v = .agg #[u] ∧ R.own lo hi w u x
 own_at := fun ⟨u, hv, h⟩ => ⟨u, hv, R.own_at h⟩
 at_chg := fun ⟨u, hv, h⟩ hc hd => ⟨u, hv, R.at_chg h hc hd⟩
 own_chg := fun ⟨u, hv, h⟩ hc hd => ⟨u, hv, R.own_chg h hc hd⟩
 at_mono := fun ⟨u, hv, h⟩ hl hh => ⟨u, hv, R.at_mono h hl hh⟩
 own_mono := fun ⟨u, hv, h⟩ hl hh => ⟨u, hv, R.own_mono h hl hh⟩
 ty := R.ty
 own_set := fun ⟨u, hv, h⟩ hp hT => ⟨u, hv, R.own_set h hp hT⟩
/-- a struct whose first field is a plain value f x.1, the second a value with memory -/
def Rep.aggP {Y X : Type} (f : Y → Value) (R : Rep X) : Rep (Y × X) where
 at_ := fun lo hi w v x => ∃ u, v = .agg #[f x.1, u] ∧ R.at_ lo hi w u x.2
 own := fun lo hi w v x => ∃ u, v = .agg #[f x.1, u] ∧ R.own lo hi w u x.2
 own_at := fun ⟨u, hv, h⟩ => ⟨u, hv, R.own_at h⟩
 at_chg := fun ⟨u, hv, h⟩ hc hd => ⟨u, hv, R.at_chg h hc hd⟩
 own_chg := fun ⟨u, hv, h⟩ hc hd => ⟨u, hv, R.own_chg h hc hd⟩
 at_mono := fun ⟨u, hv, h⟩ hl hh => ⟨u, hv, R.at_mono h hl hh⟩
 own_mono := fun ⟨u, hv, h⟩ hl hh => ⟨u, hv, R.own_mono h hl hh⟩
 ty := R.ty
 own_set := fun ⟨u, hv, h⟩ hp hT => ⟨u, hv, R.own_set h hp hT⟩
/-- the call returns a value of its own that is x, and leaves what was there -/
def RetR {X : Type} (R : Rep X) (x : X) (W : World) (e : Ending) (w' : World) : Prop :=
 ∃ v, e = .returned v ∧ R.own W.heap.size w'.heap.size w' v x ∧ Below W.heap.size W w'
/-- the call returns a value of its own that is x, and plain results behind it -/
def RetNew {X : Type} (R : Rep X) (x : X) (rest : Array Value) (W : World) (e : Ending) (w' : World) : Prop :=
 ∃ v, e = .returned (.tuple (#[v] ++ rest)) ∧ R.own W.heap.size w'.heap.size w' v x ∧ Below W.heap.size W w'
/-- what was owned has been marked: the call returns k' -/
def RetMark {X : Type} (R : Rep X) (x : X) (k' : Int) (lo hi : Nat) (v : Value) (W : World) (e : Ending) (w' : World) : Prop :=
 e = .returned (.int .i64 k') ∧ R.own lo hi w' v x ∧ Mk R.ty lo hi W w'
end Go.Proofs.YtlnoelbeaolikaaGreat
namespace Go.Proofs.YtlnoelbeaolikaaGreat
open Go.RowKit
theorem baseB0 {w u u' : World} (h : Below w.heap.size w u) (hb : Below u.heap.size u u') : Below w.heap.size w u' := h.trans (hb.mono h.size)
theorem belowA1 (u : World) (a : Obj) : Below u.heap.size u (u.alloc a) := below_alloc u a
theorem belowA2 (u : World) (a b : Obj) : Below u.heap.size u ((u.alloc a).alloc b) := (below_alloc u a).alloc (by simp) b
theorem belowA3 (u : World) (a b c : Obj) : Below u.heap.size u (((u.alloc a).alloc b).alloc c) := (belowA2 u a b).alloc (by simp <;> omega) c
theorem belowA4 (u : World) (a b c d : Obj) : Below u.heap.size u ((((u.alloc a).alloc b).alloc c).alloc d) := (belowA3 u a b c).alloc (by simp <;> omega) d
theorem base1 {w u : World} {a : Obj} (h : Below w.heap.size w u) : Below w.heap.size w (u.alloc a) := baseB0 h (belowA1 u a)
theorem base3 {w u : World} {a b c : Obj} (h : Below w.heap.size w u) : Below w.heap.size w (((u.alloc a).alloc b).alloc c) := baseB0 h (belowA3 u a b c)
theorem baseB1 {w u u' : World} {a : Obj} (h : Below w.heap.size w u) (hb : Below (u.alloc a).heap.size (u.alloc a) u') : Below w.heap.size w u' := baseB0 (base1 h) hb
theorem baseB3 {w u u' : World} {a b c : Obj} (h : Below w.heap.size w u) (hb : Below (((u.alloc a).alloc b).alloc c).heap.size (((u.alloc a).alloc b).alloc c) u') : Below w.heap.size w u' := baseB0 (base3 h) hb
end Go.Proofs.YtlnoelbeaolikaaGreat
namespace Go.Proofs.YtlnoelbeaolikaaGreat
open Go.RowKit
def mtGo (k : Nat) (out : List UInt8) : List UInt8 := if h : k = 0 then out else mtGo (k / 10) (UInt8.ofNat (48 + k % 10) :: out)
termination_by k
decreasing_by exact Nat.div_lt_self (Nat.pos_of_ne_zero h) (by decide)
def mt (k : Int) : ByteArray := if k ≤ 0 then ⟨#[109, 48]⟩ else ⟨(109 :: mtGo k.toNat []).toArray⟩
set_option maxHeartbeats 400000 in
theorem markText_any (k : Int) (w : World) (hk : k ≤ 100000000) :
  Calls Tryz.prog 41 #[.int .i64 k] w (Ret (.string (mt k)) w) := by
 by_cases h0 : k ≤ 0
 ·go_enter Tryz.func41, Tryz.ntmps41
  go_wp2
  go_ret
  exact ret_str (by simp [mt, h0]) (Below.refl _ _)
 ·obtain ⟨n, rfl⟩ := Int.eq_ofNat_of_zero_le (show 0 ≤ k by omega)
  have hd : decide ((n : Int) ≤ 0) = false := by simp; omega
  go_enter Tryz.func41, Tryz.ntmps41
  go_wp2
  go_loopw [0, 3] (fun i o wr => ∃ (k : Nat) (out : List UInt8), i = .int .i64 k ∧ o = .string ⟨out.toArray⟩ ∧ out.length + k ≤ n ∧ mtGo k out = mtGo n [] ∧ Below w.heap.size w wr) (fun i _ _ => (intOf i).toNat)
  case atStart => exact ⟨n, [], rfl, rfl, by simp, rfl, Below.refl _ _⟩
  case round =>
   obtain ⟨k, out, rfl, rfl, hl, hg, hb⟩ := hrel
   have HG := hid hg
   clear hg
   by_cases hk : 0 < k
   ·have hcv : (convert 136 9 (.slice (some ⟨wr.heap.size, 0, none⟩) 1 1)).run Tryz.prog (wr.alloc (.cells #[.int .u8 (48 + (k : Int) % 10)] 5)) = .ok (.string ⟨#[UInt8.ofNat (48 + k % 10)]⟩) (wr.alloc (.cells #[.int .u8 (48 + (k : Int) % 10)] 5)) := by
     have h := run_convert_bytes_arg (P := Tryz.prog) (wr.alloc (.cells #[.int .u8 (48 + (k : Int) % 10)] 5)) 136 5 Tryz.underlying136 Tryz.underlying5 wr.heap.size 0 1 1 [48 + (k : Int) % 10] rfl (fun i hi => by
      obtain rfl : i = 0 := by omega
      simp) 9 Tryz.underlying9
     rw [h]
     simp only [strOfNums, List.map_cons, List.map_nil]
     rw [show (48 + (k : Int) % 10).toNat = 48 + k % 10 from by omega]
    go_wp2
    go_roundw
    case rel => exact ⟨k / 10, UInt8.ofNat (48 + k % 10) :: out, by go_num, congrArg Value.string (by rw [ByteArray.mk.injEq]; simp), by simp; omega, by have := HG.out; rw [mtGo, dif_neg (by omega)] at this; exact this, hb.alloc hb.size _⟩
    case measure => simp [intOf]; omega
   ·obtain rfl : k = 0 := by omega
    go_wp2
    go_ret
    refine ret_str ?_ hb
    rw [mt, if_neg (by omega), Int.toNat_natCast, ← HG.out, mtGo, dif_pos rfl]
    exact ByteArray.ext (by simp)
end Go.Proofs.YtlnoelbeaolikaaGreat
namespace Go.Proofs.YtlnoelbeaolikaaGreat
open Go.ChangeShapes Go.WideShapes Go.ChangeAt Go.RowKit Go.Deep
/-- the cells cs can be read as a value of type t -/
def Rd (P : Program) (w : World) (t : TypeId) (cs : List Value) : Prop :=
 ∃ (H : Type) (enc : TypeId × Value → H) (base : Nat) (spare : Nat → Bool) (held : Bool) (fuel : Nat) (x : DataW H × List MemPlace), DataW.trod enc P w base spare held fuel t cs = some x
theorem rd_of_trod {H : Type} {enc : TypeId × Value → H} {P : Program} {w : World} {base : Nat} {spare : Nat → Bool} {held : Bool} {t : TypeId} {v : Value} {d : DataW H} {ps : List MemPlace}
  (h : DataW.Trod enc P w base spare held t v d ps) : Rd P w t v.cells.toList := by
 obtain ⟨fuel, h⟩ := h
 exact ⟨_, _, _, _, _, _, _, h⟩
theorem rd_int {P : Program} {w : World} {t : TypeId} {cs : List Value} {k : IntKind} (ht : P.underlying t = some (.int k)) (h : Rd P w t cs) : ∃ n, cs = [.int k n] ∧ (Lit.int k n).wf = true := by
 obtain ⟨_, _, _, _, _, _, _, h⟩ := h
 obtain ⟨n, h1, _, h2⟩ := DataW.trod_int ht h
 exact ⟨n, h1, h2⟩
theorem rd_string {P : Program} {w : World} {t : TypeId} {cs : List Value} (ht : P.underlying t = some .string) (h : Rd P w t cs) : ∃ s : ByteArray, cs = [.string s] ∧ s.size ≤ maxLen := by
 obtain ⟨_, _, _, _, _, _, _, h⟩ := h
 obtain ⟨n, h1, _, h2⟩ := DataW.trod_string ht h
 exact ⟨n, h1, h2⟩
theorem rd_struct {P : Program} {w : World} {t : TypeId} {cs : List Value} {fs : Array Field} (ht : P.underlying t = some (.struct fs)) (h : Rd P w t cs) :
  cs.length = P.cellsOf t ∧ ∀ (i : Nat) (f : Field), fs[i]? = some f → Rd P w f.type ((cs.drop f.offset).take (P.cellsOf f.type)) := by
 obtain ⟨_, _, _, _, _, _, _, h⟩ := h
 obtain ⟨xs, n, _, _, hl, hlen, hf⟩ := DataW.trod_struct ht h
 refine ⟨hl, fun i f hi => ?_⟩
 have hi' : i < xs.length := by
  have := (Array.getElem?_eq_some_iff.1 hi).1
  simpa [hlen] using this
 obtain ⟨y, hy⟩ : ∃ y, xs[i]? = some y := ⟨_, List.getElem?_eq_getElem hi'⟩
 exact ⟨_, _, _, _, _, _, _, (hf i f hi).trans hy⟩
/-- elements told by a relation -/
def ArrR {α : Type} (R : World → List Value → α → Prop) (sz : Nat) (w : World) (v : Value) (xs : List α) : Prop :=
 ∃ b off ao cap, v = .slice ao xs.length cap ∧ xs.length ≤ cap ∧ cap ≤ maxLen ∧ (0 < xs.length → ao = some ⟨b, off, none⟩ ∧ b < w.heap.size) ∧
  ∀ k x, xs[k]? = some x → ∃ cs : List Value, cs.length = sz ∧ R w cs x ∧ ∀ j u, cs[j]? = some u → w.cell? ⟨b, off + k * sz + j, none⟩ = some u
theorem addr_add (b off i : Nat) : (⟨b, off, none⟩ : Addr).add i = ⟨b, off + i, none⟩ := Addr.add_lit b off i
theorem cells_get {w : World} {base : Nat} {a : Addr} {n : Nat} {cs : List Value} (h : w.cells? base a n = some cs) : cs.length = n ∧ ∀ j u, cs[j]? = some u → w.cell? (a.add j) = some u := by
 unfold World.cells? at h
 split at h
 ·have hl := mapM_some_length h
  rw [List.length_range] at hl
  refine ⟨hl, fun j u hu => ?_⟩
  have hj : j < n := by rw [← hl]; exact (List.getElem?_eq_some_iff.1 hu).1
  have := mapM_some_get h j j (by simp [hj])
  exact this.trans hu
 ·cases h
theorem list_of_lt {α : Type} {p : Nat → α → Prop} : ∀ (n : Nat), (∀ i, i < n → ∃ x, p i x) → ∃ xs : List α, xs.length = n ∧ ∀ i x, xs[i]? = some x → p i x
 | 0, _ => ⟨[], rfl, by simp⟩
 | n + 1, h => by
  obtain ⟨xs, hl, hx⟩ := list_of_lt n fun i hi => h i (by omega)
  obtain ⟨y, hy⟩ := h n (by omega)
  refine ⟨xs ++ [y], by simp [hl], fun i x hi => ?_⟩
  by_cases e : i < xs.length
  ·rw [List.getElem?_append_left e] at hi; exact hx i x hi
  ·have hlt := (List.getElem?_eq_some_iff.1 hi).1
   simp at hlt
   have e2 : i = xs.length := by omega
   subst e2
   simp at hi
   subst hi; rw [hl]; exact hy
theorem rd_slice {α : Type} {P : Program} {w : World} {t e : TypeId} {v : Value} {sz : Nat} {R : World → List Value → α → Prop} (ht : P.underlying t = some (.slice e)) (hC : P.cellsOf e = sz) (hs : 0 < sz)
  (dec : ∀ cs, Rd P w e cs → ∃ x, R w cs x) (h : Rd P w t [v]) : ∃ xs, ArrR R sz w v xs := by
 obtain ⟨_, _, _, _, _, _, _, h⟩ := h
 rcases open_slice ht h with ⟨h0, _⟩ | ⟨a, len, cap, m, n, D, Pl, hv, hb, hl, hm, hmm, _, hx⟩
 ·simp at h0; subst h0
  exact ⟨[], 0, 0, none, 0, rfl, Nat.le_refl _, by simp [maxLen], by simp, by simp⟩
 ·simp at hv; subst hv
  have hlm : len ≤ m := by rw [hmm]; split <;> omega
  have each : ∀ i, i < len → ∃ (x : α) (cs : List Value), cs.length = sz ∧ R w cs x ∧ ∀ j u, cs[j]? = some u → w.cell? ((a.add (i * sz)).add j) = some u := by
   intro i hi
   obtain ⟨cs, h1, h2⟩ := hx i (by omega)
   rw [hC] at h1
   obtain ⟨x, hR⟩ := dec cs ⟨_, _, _, _, _, _, _, h2⟩
   exact ⟨x, cs, (cells_get h1).1, hR, (cells_get h1).2⟩
  obtain ⟨xs, hxl, hxs⟩ := list_of_lt len each
  by_cases h0 : len = 0
  ·have : xs = [] := List.length_eq_zero_iff.1 (by omega)
   subst this
   exact ⟨[], 0, 0, some a, cap, by simp [h0], by simp, hm, by simp, by simp⟩
  ·obtain ⟨b, off, spot⟩ := a
   obtain ⟨_, cs0, hc0, _, hc⟩ := each 0 (by omega)
   obtain ⟨u0, hu0⟩ : ∃ u, cs0[0]? = some u := ⟨_, List.getElem?_eq_getElem (by omega)⟩
   have hcell := hc 0 u0 hu0
   have hspot : spot = none := by simpa [Addr.add] using World.cell?_spot hcell
   subst hspot
   have hlt : b < w.heap.size := by
    have := World.block_lt_of_cell? w _ hcell
    simpa [Addr.add] using this
   refine ⟨xs, b, off, some ⟨b, off, none⟩, cap, by rw [hxl], by omega, hm, fun _ => ⟨rfl, hlt⟩, fun k x hx => ?_⟩
   obtain ⟨cs, h1, h2, h3⟩ := hxs k x hx
   refine ⟨cs, h1, h2, fun j u hu => ?_⟩
   have := h3 j u hu
   rwa [addr_add, addr_add] at this
theorem ArrR.arr {α : Type} {E : Enc α} {good : α → Prop} {w : World} {v : Value} {xs : List α} (h : ArrR (fun _ cs x => cs = E.row x ∧ good x) E.sz w v xs) : Arr E w v xs ∧ ∀ x ∈ xs, good x := by
 obtain ⟨b, off, ao, cap, hv, h1, h2, h3, h4⟩ := h
 refine ⟨⟨b, off, ao, cap, hv, h1, h2, h3, fun k x hx j u hu => ?_⟩, fun x hx => ?_⟩
 ·obtain ⟨cs, _, ⟨rfl, _⟩, h5⟩ := h4 k x hx
  exact h5 j u hu
 ·obtain ⟨k, hk⟩ := List.mem_iff_getElem?.1 hx
  obtain ⟨cs, _, ⟨_, hg⟩, _⟩ := h4 k x hk
  exact hg
end Go.Proofs.YtlnoelbeaolikaaGreat
namespace Go.Proofs.YtlnoelbeaolikaaGreat
open Go.ChangeShapes Go.WideShapes Go.ChangeAt Go.RowKit Go.Deep
def eStr : Enc ByteArray := ⟨fun x => [.string x], 1, fun _ => rfl, by decide, fun x u hu => by simp at hu; subst hu; rfl⟩
end Go.Proofs.YtlnoelbeaolikaaGreat
namespace Go.Proofs.YtlnoelbeaolikaaGreat
open Go.RowKit
structure DFeat where
 x : Int
 y : Int
 d : Int
def eFeat : Enc DFeat := ⟨fun x => [.int .i64 x.x, .int .i64 x.y, .int .i64 x.d], 3, fun _ => rfl, by decide, fun x u hu => by simp at hu; rcases hu with rfl | rfl | rfl <;> rfl⟩
theorem eFeat_cells {w : World} {b off : Nat} {es : List DFeat} (h : Cells eFeat w b off es) {k : Nat} {x : DFeat} (hx : es[k]? = some x) :
  w.cell? ⟨b, off + k * 3, none⟩ = some (.int .i64 x.x) ∧ w.cell? ⟨b, off + k * 3 + 1, none⟩ = some (.int .i64 x.y) ∧ w.cell? ⟨b, off + k * 3 + 2, none⟩ = some (.int .i64 x.d) :=
 ⟨h k x hx 0 _ rfl, h k x hx 1 _ rfl, h k x hx 2 _ rfl⟩
set_option maxRecDepth 100000 in
set_option maxHeartbeats 400000 in
theorem toFeat_any (x : DFeat) (w : World) :
  Calls Tryz.prog 145 #[.agg #[.int .i64 x.x, .int .i64 x.y, .int .i64 x.d]] w (Ret (.agg #[.int .i64 x.x, .int .i64 x.y, .int .i64 x.d]) w) := by
 go_enter Tryz.func145, Tryz.ntmps145
 go_wp2
 exact bodyPost_ret (v := .agg #[.int .i64 x.x, .int .i64 x.y, .int .i64 x.d]) (by simp [results, Tryz.results145, go_sem]) rfl
  (ret_ret rfl ((((Below.refl _ _).alloc (Nat.le_refl _) _).alloc (by simp) _).alloc (by simp <;> omega) _))
theorem infoFeat : (Tryz.prog.info? 176).map (fun i => (i.zero, i.size, i.bytes)) = some (some (.agg #[.int .i64 0, .int .i64 0, .int .i64 0]), 3, 24) := by kernel_rfl
set_option maxRecDepth 100000 in
set_option maxHeartbeats 400000 in
theorem toFeatS_any (v : Value) (es : List DFeat) (w : World) (h : Arr eFeat w v es) (hn : es.length ≤ 1048576) :
  Calls Tryz.prog 99 #[v] w (RetOwn eFeat 176 es w) := by
 obtain ⟨b, off, ao, cap, rfl, hnc, hcm, hao, hc⟩ := h
 obtain ⟨i0, hi, hz0, hz1, hz2⟩ := info_parts infoFeat
 go_enter Tryz.func99, Tryz.ntmps99
 go_wp2_with (at_make; refine wpList_make_full _ rfl _ _ 104 rfl w.heap.size 176 i0 _ 3 Tryz.underlying104 hi hz0 hz1 _ _ _ _ es.length rfl rfl rfl rfl (by rw [hz2]; omega) (by unfold maxLen; omega) (Nat.le_refl _) ?_; intro w1 hown hgr)
 have hown := Own.made (E := eFeat) (z := (⟨0, 0, 0⟩ : DFeat)) hown rfl
 obtain ⟨g, hg⟩ : ∃ g, g = w.heap.size := ⟨_, rfl⟩
 rw [← hg] at hown ⊢
 have hw1 : Below w.heap.size w w1 := (Below.refl _ _).grown hgr (Nat.le_refl _) (by simp)
 have hg1 : g < w1.heap.size := hown.lt.2
 have Hg := hid hg
 clear hg
 go_loopw [4] (fun i wr => ∃ (k : Nat) (ys : List DFeat), k ≤ es.length ∧ i = .int .i64 k ∧ ys.length = es.length ∧ (∀ j, j < k → ys[j]? = es[j]?) ∧
   Own eFeat 176 g wr (.slice (some ⟨g, 0, none⟩) es.length es.length) ys ∧ Below w.heap.size w wr ∧ g < wr.heap.size) (fun i _ => es.length - (intOf i).toNat)
 case atStart => exact ⟨0, _, Nat.zero_le _, rfl, by simp, by simp, hown, hw1, hg1⟩
 case round =>
  clear hown hgr hw1 hg1 hi hz0 hz1 hz2 hnc hcm
  obtain ⟨k, ys, hk, rfl, hyl, hys, hown, hb, hgw⟩ := hrel
  have HY := hid hyl
  clear hyl
  by_cases hlt : k < es.length
  ·obtain ⟨hao', hbw⟩ := hao (by omega)
   subst hao'
   obtain ⟨x, hx⟩ : ∃ x, es[k]? = some x := ⟨_, List.getElem?_eq_getElem hlt⟩
   obtain ⟨c0, c1, c2⟩ := eFeat_cells (hc.below hb hbw) hx
   clear hao
   have HYS := hid hys
   clear hys
   go_wp2_with (go_at_call 145; refine (toFeat_any _ _).mono ?_; rintro e w2 ⟨rfl, hb2⟩; have hown2 := hown.below hb2; clear hown; have hw2 := hb2.size; obtain ⟨u0, hu0⟩ := hown2.slot HY.out.symm k hlt 0 (by decide); obtain ⟨u1, hu1⟩ := hown2.slot HY.out.symm k hlt 1 (by decide); obtain ⟨u2, hu2⟩ := hown2.slot HY.out.symm k hlt 2 (by decide); have hf := hown2.free HY.out.symm; have hv0 : w2.cell? ⟨g, k * 3, none⟩ = some u0 := hu0; have hv1 : w2.cell? ⟨g, k * 3 + 1, none⟩ = some u1 := hu1; have hv2 : w2.cell? ⟨g, k * 3 + 2, none⟩ = some u2 := hu2; clear hu0 hu1 hu2)
   go_roundw
   case rel =>
    have h1 := fill_step HY.out HYS.out hx
    have h2 := hown2.set HY.out.symm k (by rw [HY.out]; exact hlt) x
    exact ⟨k + 1, ys.set k x, by omega, by go_num, h1.1, h1.2, h2.1, (hb.trans (hb2.mono (by rw [← Hg.out]; omega))).grown h2.2 (by have := hb.size; omega) (by have := Hg.out; simp; omega), Nat.lt_of_lt_of_le (Nat.lt_of_lt_of_le hgw hw2) h2.2.size⟩
   case measure => simp [intOf]; omega
  ·go_wp2
   go_ret
   have := fill_done HY.out hys (by omega)
   subst this
   exact ⟨_, rfl, by rw [← Hg.out, ← HY.out]; exact hown, hb⟩
def szFeat (_ : DFeat) : Nat := 0
def goodFeat (x : DFeat) : Prop := (Lit.int .i64 x.x).wf = true ∧ (Lit.int .i64 x.y).wf = true ∧ (Lit.int .i64 x.d).wf = true
theorem sumOf_szFeat (es : List DFeat) : sumOf szFeat es = 0 := by
 unfold sumOf; induction es with
 | nil => rfl
 | cons e es ih => simp only [List.map_cons, List.sum_cons, ih]; rfl
set_option maxRecDepth 100000 in
set_option maxHeartbeats 400000 in
theorem szFeatS_any (v : Value) (es : List DFeat) (left : Int) (w : World) (h : Arr eFeat w v es) (_hs : ∀ x ∈ es, goodFeat x) (hl : 0 ≤ left) (hu : left ≤ 1048576) :
  Calls Tryz.prog 88 #[v, .int .i64 left] w (Ret (.int .i64 (szOf (es.length + sumOf szFeat es) left)) w) := by
 rw [sumOf_szFeat, Nat.add_zero]
 obtain ⟨b, off, ao, cap, rfl, hnc, hcm, hao, hc⟩ := h
 unfold maxLen at hcm
 by_cases h0 : left < es.length
 ·go_enter Tryz.func88, Tryz.ntmps88
  go_wp2
  go_ret
  exact ret_int (by rw [szOf_neg (by omega)]) (Below.refl _ _)
 ·go_enter Tryz.func88, Tryz.ntmps88
  go_wp2
  go_ret
  exact ret_int (by rw [szOf_pos (by omega)]) (Below.refl _ _)
set_option maxRecDepth 100000 in
set_option maxHeartbeats 400000 in
theorem eqFeat_any (x : DFeat) (w : World) :
  Calls Tryz.prog 160 #[.agg #[.int .i64 x.x, .int .i64 x.y, .int .i64 x.d], .agg #[.int .i64 x.x, .int .i64 x.y, .int .i64 x.d]] w (Ret (.bool true) w) := by
 go_enter Tryz.func160, Tryz.ntmps160
 go_wp2
 go_ret
 exact ret_bool rfl (((Below.refl _ _).alloc (Nat.le_refl _) _).alloc (by simp) _)
set_option maxRecDepth 100000 in
set_option maxHeartbeats 400000 in
theorem eqFeatS_any (v1 v2 : Value) (es : List DFeat) (w : World) (h1 : Arr eFeat w v1 es) (h2 : Arr eFeat w v2 es) :
  Calls Tryz.prog 114 #[v1, v2] w (Ret (.bool true) w) := by
 obtain ⟨b, off, ao, cap, rfl, hnc, hcm, hao, hc⟩ := h1
 obtain ⟨b2, off2, ao2, cap2, rfl, hnc2, hcm2, hao2, hc2⟩ := h2
 unfold maxLen at hcm
 go_enter Tryz.func114, Tryz.ntmps114
 go_wp2
 go_loopw [5] (fun i wr => ∃ k : Nat, k ≤ es.length ∧ i = .int .i64 k ∧ Below w.heap.size w wr) (fun i _ => es.length - (intOf i).toNat)
 case atStart => exact ⟨0, Nat.zero_le _, rfl, Below.refl _ _⟩
 case round =>
  obtain ⟨k, hk, rfl, hb⟩ := hrel
  by_cases hlt : k < es.length
  ·obtain ⟨hao', hbw⟩ := hao (by omega)
   obtain ⟨hao2', hbw2⟩ := hao2 (by omega)
   subst hao' hao2'
   obtain ⟨x, hx⟩ : ∃ x, es[k]? = some x := ⟨_, List.getElem?_eq_getElem hlt⟩
   obtain ⟨c0, c1, c2⟩ := eFeat_cells (hc.below hb hbw) hx
   obtain ⟨d0, d1, d2⟩ := eFeat_cells (hc2.below hb hbw2) hx
   have c0 := ext_cell c0
   have c1 := ext_cell c1
   have c2 := ext_cell c2
   have d0 := ext_cell d0
   have d1 := ext_cell d1
   have d2 := ext_cell d2
   clear hao hao2
   have hli : (k : Int) < (es.length : Int) := by omega
   go_wp2
   refine wp_region_ext (by kernel_rfl) (by kernel_rfl) ?_
   repeat (go_big_quiet_step (((go_at_call 160; exact ret_ext (eqFeat_any _ _)))))
   refine wpQuiet_nil ?_
   intro _ hw'
   obtain ⟨nq, hw''⟩ := hw'
   subst hw''
   go_wp2
   go_roundw
   case rel => exact ⟨k + 1, by omega, by go_num, hb.trans ((ext_below _ _).mono hb.size)⟩
   case measure => simp [intOf]; omega
  ·go_wp2
   go_ret
   exact ret_bool rfl hb
/-- what markTS leaves -/
def mkFeat (k : Int) (n : Nat) : List DFeat := (List.range n).map fun (i : Nat) => ⟨k + 3 * (i : Int), k + 3 * (i : Int) + 1, k + 3 * (i : Int) + 1 + 1⟩
theorem mkFeat_len (k : Int) (n : Nat) : (mkFeat k n).length = n := by simp [mkFeat]
theorem mkFeat_get (k : Int) (n i : Nat) (h : i < n) : (mkFeat k n)[i]? = some ⟨k + 3 * (i : Int), k + 3 * (i : Int) + 1, k + 3 * (i : Int) + 1 + 1⟩ := by simp [mkFeat, h]
set_option maxHeartbeats 1000000 in
theorem markFeatS_any (v : Value) (es : List DFeat) (lo hi : Nat) (k : Int) (w : World) (h : OwnIn eFeat 176 lo hi w v es) (hn : es.length ≤ 1048576) (hk0 : 0 ≤ k) (hk1 : k ≤ 20000000) :
  Calls Tryz.prog 74 #[v, .int .i64 k] w (RetMark (Rep.flat eFeat 176) (mkFeat k es.length) (k + 3 * (es.length : Int)) lo hi v w) := by
 have hsl : ∃ (ao : Option Addr) (cap g : Nat), v = .slice ao es.length cap ∧ (0 < es.length → ao = some ⟨g, 0, none⟩) := by
  rcases h.1.shape with ⟨rfl, rfl⟩ | ⟨g, cap, rfl, _, _⟩
  ·exact ⟨none, 0, 0, rfl, by simp⟩
  ·exact ⟨_, cap, g, rfl, fun _ => rfl⟩
 obtain ⟨ao, cap, g, rfl, hao⟩ := hsl
 go_enter Tryz.func74, Tryz.ntmps74
 go_wp2
 go_loopw [1, 5] (fun kv iv wr => ∃ (i : Nat) (ys : List DFeat), i ≤ es.length ∧ iv = .int .i64 i ∧ kv = .int .i64 (k + 3 * (i : Int)) ∧ ys.length = es.length ∧ (∀ j, j < i → ys[j]? = (mkFeat k es.length)[j]?) ∧
   OwnIn eFeat 176 lo hi wr (.slice ao es.length cap) ys ∧ Mk (fun T => T == 176) lo hi w wr) (fun _ i _ => es.length - (intOf i).toNat)
 case atStart => exact ⟨0, es, Nat.zero_le _, rfl, by simp, rfl, by simp, h, Mk.refl _ _ _ _⟩
 case round =>
  clear h
  obtain ⟨i, ys, hk, rfl, rfl, hyl, hys, ho, hch⟩ := hrel
  have HY := hid hyl
  have HYS := hid hys
  clear hyl hys
  by_cases hlt : i < es.length
  ·have hao' := hao (by omega)
   subst hao'
   clear hao
   obtain ⟨y, hy⟩ : ∃ y, ys[i]? = some y := ⟨_, List.getElem?_eq_getElem (by rw [HY.out]; exact hlt)⟩
   have Y0 := hid hy
   clear hy
   have O0 := ho
   clear ho
   obtain ⟨u0, hu0⟩ := O0.1.slot (by simp [HY.out]) i hlt 0 (by decide)
   obtain ⟨u1, hu1⟩ := O0.1.slot (by simp [HY.out]) i hlt 1 (by decide)
   obtain ⟨u2, hu2⟩ := O0.1.slot (by simp [HY.out]) i hlt 2 (by decide)
   have hv0 : wr.cell? ⟨g, i * 3, none⟩ = some u0 := hu0
   have hv1 : wr.cell? ⟨g, i * 3 + 1, none⟩ = some u1 := hu1
   have hv2 : wr.cell? ⟨g, i * 3 + 2, none⟩ = some u2 := hu2
   have hf := O0.1.free (by simp [HY.out])
   clear hu0 hu1 hu2
   go_wp2
   have S0 := O0.set1 (by simp [HY.out]) Y0.out (j := 0) (x' := (⟨k + 3 * (i : Int), y.y, y.d⟩ : DFeat)) (u := .int .i64 (k + 3 * (i : Int))) (by decide) rfl
   have O1 := S0.1
   have Y1 := hid (set_same (y := (⟨k + 3 * (i : Int), y.y, y.d⟩ : DFeat)) Y0.out)
   have S1 := O1.set1 (by simp [HY.out]) Y1.out (j := 1) (x' := (⟨k + 3 * (i : Int), k + 3 * (i : Int) + 1, y.d⟩ : DFeat)) (u := .int .i64 (k + 3 * (i : Int) + 1)) (by decide) rfl
   have O2 := S1.1
   rw [set_set] at O2
   have Y2 := hid (set_same (y := (⟨k + 3 * (i : Int), k + 3 * (i : Int) + 1, y.d⟩ : DFeat)) Y0.out)
   have S2 := O2.set1 (by simp [HY.out]) Y2.out (j := 2) (x' := (⟨k + 3 * (i : Int), k + 3 * (i : Int) + 1, k + 3 * (i : Int) + 1 + 1⟩ : DFeat)) (u := .int .i64 (k + 3 * (i : Int) + 1 + 1)) (by decide) rfl
   have O3 := S2.1
   rw [set_set] at O3
   have Y3 := hid (set_same (y := (⟨k + 3 * (i : Int), k + 3 * (i : Int) + 1, k + 3 * (i : Int) + 1 + 1⟩ : DFeat)) Y0.out)
   go_roundw
   case rel =>
    have h1 := fill_step (xs := mkFeat k es.length) (by rw [mkFeat_len]; exact HY.out) HYS.out (mkFeat_get k es.length i hlt)
    exact ⟨i + 1, ys.set i ⟨k + 3 * (i : Int), k + 3 * (i : Int) + 1, k + 3 * (i : Int) + 1 + 1⟩, by omega, by go_num, by go_num, by rw [h1.1, mkFeat_len], h1.2, O3, (((hch).trans S0.2).trans S1.2).trans S2.2⟩
   case measure => simp [intOf]; omega
  ·obtain rfl : i = es.length := by omega
   have := fill_done (xs := mkFeat k es.length) (by rw [mkFeat_len]; exact HY.out) HYS.out (by rw [mkFeat_len]; exact Nat.le_refl _)
   subst this
   clear HYS
   go_wp2
   go_ret
   exact ⟨rfl, ho, hch⟩
set_option maxRecDepth 100000 in
theorem decFeat (w : World) (cs : List Value) (h : Rd Tryz.prog w 210 cs) : ∃ x : DFeat, cs = eFeat.row x ∧ goodFeat x := by
 obtain ⟨hl, hf⟩ := rd_struct Tryz.underlying210 h
 rw [show Tryz.prog.cellsOf 210 = 3 by kernel_rfl] at hl
 obtain ⟨c0, c1, c2, rfl⟩ : ∃ c0 c1 c2, cs = [c0, c1, c2] := by
  match cs, hl with
  | [c0, c1, c2], _ => exact ⟨c0, c1, c2, rfl⟩
 have h0 : Rd Tryz.prog w 2 (([c0, c1, c2].drop 0).take (Tryz.prog.cellsOf 2)) := hf 0 _ rfl
 have h1 : Rd Tryz.prog w 2 (([c0, c1, c2].drop 1).take (Tryz.prog.cellsOf 2)) := hf 1 _ rfl
 have h2 : Rd Tryz.prog w 2 (([c0, c1, c2].drop 2).take (Tryz.prog.cellsOf 2)) := hf 2 _ rfl
 rw [show Tryz.prog.cellsOf 2 = 1 by kernel_rfl] at h0
 obtain ⟨s0, hs0, hg0⟩ := rd_int Tryz.underlying2 h0
 simp at hs0
 subst hs0
 rw [show Tryz.prog.cellsOf 2 = 1 by kernel_rfl] at h1
 obtain ⟨s1, hs1, hg1⟩ := rd_int Tryz.underlying2 h1
 simp at hs1
 subst hs1
 rw [show Tryz.prog.cellsOf 2 = 1 by kernel_rfl] at h2
 obtain ⟨s2, hs2, hg2⟩ := rd_int Tryz.underlying2 h2
 simp at hs2
 subst hs2
 exact ⟨⟨s0, s1, s2⟩, rfl, hg0, hg1, hg2⟩
end Go.Proofs.YtlnoelbeaolikaaGreat
namespace Go.Proofs.YtlnoelbeaolikaaGreat
open Go.ChangeShapes Go.WideShapes Go.ChangeAt Go.RowKit Go.Deep
abbrev XFeatS := List DFeat
def rFeatS : Rep XFeatS := Rep.flat eFeat 176
def goodFeatS (x : XFeatS) : Prop := ∀ e ∈ x, goodFeat e
def sizeFeatS (x : XFeatS) : Nat := x.length + sumOf szFeat x
def okFeatS (x : XFeatS) : Prop := x.length ≤ 1048576
def cntFeatS (x : XFeatS) : Int := 3 * (x.length : Int)
def mkXFeatS (k : Int) (x : XFeatS) : XFeatS := mkFeat k x.length
theorem shapeFeatS {lo hi : Nat} {w : World} {v : Value} {x : XFeatS} (h : rFeatS.at_ lo hi w v x) : ∃ sa sc, v = .slice sa x.length sc := (ArrIn.arr h).isSlice
theorem rFeatS_arr {lo hi : Nat} {w : World} {v : Value} {x : XFeatS} (h : rFeatS.at_ lo hi w v x) : Arr eFeat w v x := ArrIn.arr h
theorem toFeatSR_any (v : Value) (x : XFeatS) (w : World) {lo hi : Nat} (h : rFeatS.at_ lo hi w v x) (hn : okFeatS x) :
  Calls Tryz.prog 99 #[v] w (RetR rFeatS x w) :=
 (toFeatS_any v x w (ArrIn.arr h) hn).mono fun _ _ ⟨u, he, ho, hb⟩ => ⟨u, he, ho.in_, hb⟩
theorem szFeatSR_any (v : Value) (x : XFeatS) (left : Int) (w : World) {lo hi : Nat} (h : rFeatS.at_ lo hi w v x) (hs : goodFeatS x) (hl : 0 ≤ left) (hu : left ≤ 1048576) :
  Calls Tryz.prog 88 #[v, .int .i64 left] w (Ret (.int .i64 (szOf (sizeFeatS x) left)) w) :=
 szFeatS_any v x left w (ArrIn.arr h) hs hl hu
theorem eqFeatSR_any (v1 v2 : Value) (x : XFeatS) (w : World) {lo1 hi1 lo2 hi2 : Nat} (h1 : rFeatS.at_ lo1 hi1 w v1 x) (h2 : rFeatS.at_ lo2 hi2 w v2 x) :
  Calls Tryz.prog 114 #[v1, v2] w (Ret (.bool true) w) :=
 eqFeatS_any v1 v2 x w (ArrIn.arr h1) (ArrIn.arr h2)
theorem markFeatSR_any (v : Value) (x : XFeatS) (lo hi : Nat) (k : Int) (w : World) (h : rFeatS.own lo hi w v x) (hn : okFeatS x) (hk0 : 0 ≤ k) (hk1 : k ≤ 20000000) :
  Calls Tryz.prog 74 #[v, .int .i64 k] w (RetMark rFeatS (mkXFeatS k x) (k + cntFeatS x) lo hi v w) :=
 markFeatS_any v x lo hi k w h hn hk0 hk1
end Go.Proofs.YtlnoelbeaolikaaGreat
namespace Go.Proofs.YtlnoelbeaolikaaGreat
open Go.RowKit
/-- a slice header -/
structure SV where
 a : Option Addr
 n : Nat
 c : Nat
def SV.val (s : SV) : Value := .slice s.a s.n s.c
/-- an element: plain cells y, then a slice -/
def eSV {Y : Type} (E : Enc Y) : Enc (Y × SV) where
 row := fun x => E.row x.1 ++ [x.2.val]
 sz := E.sz + 1
 len := fun x => by simp [E.len]
 pos := by omega
 one := fun x u hu => by
  simp at hu
  rcases hu with h | rfl
  ·exact E.one x.1 u h
  ·rfl
/-- an element that is a slice alone -/
def eS1 : Enc SV := ⟨fun s => [s.val], 1, fun _ => rfl, by decide, fun s u hu => by simp at hu; subst hu; rfl⟩
theorem eS1_cells {w : World} {b off : Nat} {es : List SV} (h : Cells eS1 w b off es) {k : Nat} {s : SV} (hx : es[k]? = some s) : w.cell? ⟨b, off + k, none⟩ = some (.slice s.a s.n s.c) := by
 have := h k s hx 0 _ rfl
 have e : off + k * eS1.sz + 0 = off + k := by show off + k * 1 + 0 = off + k; omega
 rw [e] at this
 exact this
/-- the slice value u holds strokes: each of its elements is a slice value that holds a row of X -/
def NestIn {α : Type} (E : Enc α) (lo hi : Nat) (w : World) (u : Value) (X : List (List α)) : Prop :=
 ∃ vs : List SV, ArrIn eS1 lo hi w u vs ∧ vs.length = X.length ∧ ∀ (i : Nat) (s : SV) (x : List α), vs[i]? = some s → X[i]? = some x → ArrIn E lo hi w s.val x
def SV.blk (s : SV) : Option Nat := s.val.ownBlock
def NestOwn {α : Type} (E : Enc α) (e eo : TypeId) (lo hi : Nat) (w : World) (u : Value) (X : List (List α)) : Prop :=
 ∃ vs : List SV, OwnIn eS1 eo lo hi w u vs ∧ vs.length = X.length ∧ (∀ (i : Nat) (s : SV) (x : List α), vs[i]? = some s → X[i]? = some x → OwnIn E e lo hi w s.val x) ∧
  (∀ (i j : Nat) (s t : SV) (g : Nat), vs[i]? = some s → vs[j]? = some t → s.blk = some g → t.blk = some g → i = j)
theorem NestIn.mono {α : Type} {E : Enc α} {lo hi lo' hi' : Nat} {w : World} {u : Value} {X : List (List α)} (h : NestIn E lo hi w u X) (hl : lo' ≤ lo) (hh : hi ≤ hi') : NestIn E lo' hi' w u X := by
 obtain ⟨vs, h1, h2, h3⟩ := h
 exact ⟨vs, h1.mono hl hh, h2, fun i s x hs hx => (h3 i s x hs hx).mono hl hh⟩
theorem NestIn.chg {α : Type} {E : Enc α} {lo hi a b : Nat} {w w' : World} {u : Value} {X : List (List α)} (h : NestIn E lo hi w u X) (hc : Chg a b w w') (hd : b ≤ lo ∨ hi ≤ a) : NestIn E lo hi w' u X := by
 obtain ⟨vs, h1, h2, h3⟩ := h
 exact ⟨vs, h1.chg hc hd, h2, fun i s x hs hx => (h3 i s x hs hx).chg hc hd⟩
theorem NestOwn.mono {α : Type} {E : Enc α} {e eo : TypeId} {lo hi lo' hi' : Nat} {w : World} {u : Value} {X : List (List α)} (h : NestOwn E e eo lo hi w u X) (hl : lo' ≤ lo) (hh : hi ≤ hi') : NestOwn E e eo lo' hi' w u X := by
 obtain ⟨vs, h1, h2, h3, h4⟩ := h
 exact ⟨vs, h1.mono hl hh, h2, fun i s x hs hx => (h3 i s x hs hx).mono hl hh, h4⟩
theorem NestOwn.chg {α : Type} {E : Enc α} {e eo : TypeId} {lo hi a b : Nat} {w w' : World} {u : Value} {X : List (List α)} (h : NestOwn E e eo lo hi w u X) (hc : Chg a b w w') (hd : b ≤ lo ∨ hi ≤ a) : NestOwn E e eo lo hi w' u X := by
 obtain ⟨vs, h1, h2, h3, h4⟩ := h
 exact ⟨vs, h1.chg hc hd, h2, fun i s x hs hx => (h3 i s x hs hx).chg hc hd, h4⟩
theorem NestOwn.nestIn {α : Type} {E : Enc α} {e eo : TypeId} {lo hi : Nat} {w : World} {u : Value} {X : List (List α)} (h : NestOwn E e eo lo hi w u X) : NestIn E lo hi w u X := by
 obtain ⟨vs, h1, h2, h3, _⟩ := h
 exact ⟨vs, h1.arrIn, h2, fun i s x hs hx => (h3 i s x hs hx).arrIn⟩
def Rep.nest {α : Type} (E : Enc α) (e eo : TypeId) : Rep (List (List α)) where
 at_ := NestIn E
 own := NestOwn E e eo
 own_at := NestOwn.nestIn
 at_chg := NestIn.chg
 own_chg := NestOwn.chg
 at_mono := NestIn.mono
 own_mono := NestOwn.mono
 ty := fun T => T == e || T == eo
 own_set := fun h hp hT => by
  obtain ⟨vs, h1, h2, h3, h4⟩ := h
  simp at hT
  exact ⟨vs, h1.set_other hp hT.2, h2, fun i s x hs hx => (h3 i s x hs hx).set_other hp hT.1, h4⟩
theorem NestIn.arr {α : Type} {E : Enc α} {lo hi : Nat} {w : World} {u : Value} {X : List (List α)} (h : NestIn E lo hi w u X) :
  ∃ vs : List SV, Arr eS1 w u vs ∧ vs.length = X.length ∧ ∀ (i : Nat) (s : SV) (x : List α), vs[i]? = some s → X[i]? = some x → Arr E w s.val x := by
 obtain ⟨vs, h1, h2, h3⟩ := h
 exact ⟨vs, h1.arr, h2, fun i s x hs hx => (h3 i s x hs hx).arr⟩
theorem OwnIn.chgB {α : Type} {E : Enc α} {e : TypeId} {lo hi a b : Nat} {w w' : World} {v : Value} {xs : List α} (h : OwnIn E e lo hi w v xs) (hc : Chg a b w w') (hd : ∀ g, v.ownBlock = some g → g < a ∨ b ≤ g) : OwnIn E e lo hi w' v xs := by
 obtain ⟨⟨h1, h2⟩, hh⟩ := h
 refine ⟨⟨h1, ?_⟩, hh⟩
 rcases h2 with h2 | ⟨g, cap, cur, hv, hB, hg, rest⟩
 ·exact .inl h2
 ·refine .inr ⟨g, cap, cur, hv, hB, ?_, rest⟩
  rw [hc.block g (Array.getElem?_eq_some_iff.1 hg).1 (hd g (by rw [hv]; simp [Value.ownBlock]))]; exact hg
theorem OwnIn.typed {α : Type} {E : Enc α} {e : TypeId} {lo hi : Nat} {ty : TypeId → Bool} {w w' : World} {v : Value} {xs : List α} (h : OwnIn E e lo hi w v xs) (ht : Typed ty w w') (hT : ty e = false) : OwnIn E e lo hi w' v xs := by
 obtain ⟨⟨h1, h2⟩, hh⟩ := h
 refine ⟨⟨h1, ?_⟩, hh⟩
 rcases h2 with h2 | ⟨g, cap, cur, hv, hB, hg, rest⟩
 ·exact .inl h2
 ·exact .inr ⟨g, cap, cur, hv, hB, ht g _ _ _ hg hT, rest⟩
theorem OwnIn.narrow {α : Type} {E : Enc α} {e : TypeId} {lo hi : Nat} {w : World} {v : Value} {xs : List α} (h : OwnIn E e lo hi w v xs) :
  ∃ lo' hi', lo ≤ lo' ∧ OwnIn E e lo' hi' w v xs ∧ (∀ k, (k < lo ∨ hi ≤ k) → (k < lo' ∨ hi' ≤ k)) ∧ (∀ g, lo' ≤ g → g < hi' → v.ownBlock = some g) := by
 obtain ⟨⟨h1, h2⟩, hh⟩ := h
 rcases h2 with h2 | ⟨g, cap, cur, hv, hB, hg, rest⟩
 ·refine ⟨lo, lo, Nat.le_refl _, ⟨⟨h1, .inl h2⟩, ?_⟩, by omega, by omega⟩
  obtain ⟨rfl, _⟩ := h2
  intro g hg
  simp [Value.ownBlock] at hg
 ·have hk : v.ownBlock = some g := by rw [hv]; simp [Value.ownBlock]
  have hl := hh g hk
  refine ⟨g, g + 1, hB, ⟨⟨h1, .inr ⟨g, cap, cur, hv, Nat.le_refl _, hg, rest⟩⟩, ?_⟩, by omega, ?_⟩
  ·intro q hq; rw [hk] at hq; cases hq; omega
  ·intro q h1 h2
   have : q = g := by omega
   rw [this]; exact hk
theorem OwnIn.widen {α : Type} {E : Enc α} {e : TypeId} {lo hi lo' hi' : Nat} {w w' : World} {v : Value} {xs ys : List α} (h : OwnIn E e lo' hi' w' v ys) (h0 : OwnIn E e lo hi w v xs) (hl : lo ≤ lo') : OwnIn E e lo hi w' v ys :=
 ⟨h.1.mono hl, h0.2⟩
theorem chg_set (w : World) (p o : Nat) (u : Value) : Chg p (p + 1) w (w.setCell ⟨p, o, none⟩ u) :=
 ⟨rfl, rfl, rfl, by simp, fun k hk hj => by simp only [World.setCell, Array.getElem?_modify]; rw [if_neg (by first | omega | (simp; omega))]⟩
/-- the first k elements hold rows of their own -/
structure NestTo {α : Type} (E : Enc α) (e : TypeId) (g : Nat) (X : List (List α)) (k : Nat) (vs : List SV) (w : World) : Prop where
 own : ∀ (j : Nat) (s : SV) (x : List α), j < k → vs[j]? = some s → X[j]? = some x → OwnIn E e (g + 1) w.heap.size w s.val x
 apart : ∀ (i j : Nat) (s t : SV) (q : Nat), i < k → j < k → vs[i]? = some s → vs[j]? = some t → s.blk = some q → t.blk = some q → i = j
theorem NestTo.zero {α : Type} {E : Enc α} {e : TypeId} {g : Nat} {X : List (List α)} {vs : List SV} {w : World} : NestTo E e g X 0 vs w := ⟨fun _ _ _ h => by omega, fun _ _ _ _ _ h => by omega⟩
theorem NestTo.step {α : Type} {E : Enc α} {e : TypeId} {g k : Nat} {X : List (List α)} {vs : List SV} {wr w2 w3 : World} {s : SV} {x : List α} (h : NestTo E e g X k vs wr) (hb : Below wr.heap.size wr w2)
  (ho : OwnIn E e wr.heap.size w2.heap.size w2 s.val x) (hx : X[k]? = some x) (hg : g < wr.heap.size) (hl : vs.length = X.length) (hc : Chg g (g + 1) w2 w3) : NestTo E e g X (k + 1) (vs.set k s) w3 := by
 have hk : k < vs.length := by rw [hl]; exact (List.getElem?_eq_some_iff.1 hx).1
 have hb2 := hb.size
 have hc2 := hc.size
 refine ⟨fun j t y hj ht hy => ?_, fun i j t u q hi hj ht hu hq hq2 => ?_⟩
 ·by_cases e2 : j = k
  ·subst e2
   rw [List.getElem?_set_self hk] at ht
   cases ht
   rw [hx] at hy; cases hy
   exact (ho.chg hc (.inl (by omega))).mono (by omega) hc2
  ·rw [List.getElem?_set_ne (Ne.symm e2)] at ht
   have h1 := h.own j t y (by omega) ht hy
   exact ((h1.chg (Chg.of_below (a := 0) (b := 0) hb) (.inl (by omega))).chg hc (.inl (by omega))).mono (Nat.le_refl _) (by omega)
 ·have key : ∀ (j : Nat) (t : SV) (q : Nat), j < k → vs[j]? = some t → t.blk = some q → s.blk = some q → False := by
   intro j t q hj ht h1 h2
   have hj2 : j < X.length := by rw [← hl]; exact (List.getElem?_eq_some_iff.1 ht).1
   have := (h.own j t _ hj ht (List.getElem?_eq_getElem hj2)).2 q h1
   have h3 := ho.1.mono (B' := wr.heap.size) (Nat.le_refl _)
   have := World.ownsRow.lt h3 q h2
   omega
  by_cases e1 : i = k
  ·subst e1
   rw [List.getElem?_set_self hk] at ht; cases ht
   by_cases e2 : j = i
   ·exact e2.symm
   ·rw [List.getElem?_set_ne (Ne.symm e2)] at hu
    exact (key j u q (by omega) hu hq2 hq).elim
  ·rw [List.getElem?_set_ne (Ne.symm e1)] at ht
   by_cases e2 : j = k
   ·subst e2
    rw [List.getElem?_set_self hk] at hu; cases hu
    exact (key i t q (by omega) ht hq hq2).elim
   ·rw [List.getElem?_set_ne (Ne.symm e2)] at hu
    exact h.apart i j t u q (by omega) (by omega) ht hu hq hq2
theorem NestTo.done {α : Type} {E : Enc α} {e eo : TypeId} {g n cap lo : Nat} {X : List (List α)} {vs : List SV} {w : World} (h : NestTo E e g X X.length vs w) (hl : vs.length = X.length) (hlo : lo ≤ g)
  (ho : Own eS1 eo g w (.slice (some ⟨g, 0, none⟩) n cap) vs) : NestOwn E e eo lo w.heap.size w (.slice (some ⟨g, 0, none⟩) n cap) X := by
 have lt : ∀ (i : Nat) (s : SV), vs[i]? = some s → i < X.length := fun i s hs => by rw [← hl]; exact (List.getElem?_eq_some_iff.1 hs).1
 exact ⟨vs, (ho.in_).mono hlo (Nat.le_refl _), hl, fun i s x hs hx => (h.own i s x (lt i s hs) hs hx).mono (by omega) (Nat.le_refl _), fun i j s t q hs ht => h.apart i j s t q (lt i s hs) (lt j t ht) hs ht⟩
/-- marks: one row is written anew -/
structure NestSt {α : Type} (E : Enc α) (e eo : TypeId) (lo hi : Nat) (u : Value) (vs : List SV) (Y : List (List α)) (w : World) : Prop where
 outer : OwnIn eS1 eo lo hi w u vs
 len : vs.length = Y.length
 inner : ∀ (i : Nat) (s : SV) (x : List α), vs[i]? = some s → Y[i]? = some x → OwnIn E e lo hi w s.val x
 apart : ∀ (i j : Nat) (s t : SV) (g : Nat), vs[i]? = some s → vs[j]? = some t → s.blk = some g → t.blk = some g → i = j
theorem NestSt.own {α : Type} {E : Enc α} {e eo : TypeId} {lo hi : Nat} {u : Value} {vs : List SV} {Y : List (List α)} {w : World} (h : NestSt E e eo lo hi u vs Y w) : NestOwn E e eo lo hi w u Y := ⟨vs, h.outer, h.len, h.inner, h.apart⟩
theorem NestSt.mark {α : Type} {E : Enc α} {e eo : TypeId} {lo hi lo' hi' : Nat} {u : Value} {vs : List SV} {Y : List (List α)} {w w' : World} (h : NestSt E e eo lo hi u vs Y w) (hne : (eo == e) = false) {i : Nat} {s : SV} {x x' : List α}
  (hs : vs[i]? = some s) (hx : Y[i]? = some x) (hl : lo ≤ lo') (hout : ∀ k, (k < lo ∨ hi ≤ k) → (k < lo' ∨ hi' ≤ k)) (hin : ∀ g, lo' ≤ g → g < hi' → s.val.ownBlock = some g)
  (ho : OwnIn E e lo' hi' w' s.val x') (hm : Mk (fun T => T == e) lo' hi' w w') : NestSt E e eo lo hi u vs (Y.set i x') w' ∧ Mk (fun T => T == e || T == eo) lo hi w w' := by
 have hi2 : i < Y.length := (List.getElem?_eq_some_iff.1 hx).1
 refine ⟨⟨h.outer.typed hm.2 hne, by rw [List.length_set]; exact h.len, fun j t y ht hy => ?_, h.apart⟩, ⟨hm.1.os, hm.1.tape, hm.1.output, hm.1.size, fun k hk hj => hm.1.block k hk (hout k hj)⟩, fun k c T f h1 h2 => hm.2 k c T f h1 ?_⟩
 ·by_cases e2 : j = i
  ·subst e2
   rw [List.getElem?_set_self hi2] at hy; cases hy
   rw [hs] at ht; cases ht
   exact ho.widen (h.inner j s x hs hx) hl
  ·rw [List.getElem?_set_ne (Ne.symm e2)] at hy
   refine (h.inner j t y ht hy).chgB hm.1 fun g hg => ?_
   by_cases hr : lo' ≤ g ∧ g < hi'
   ·exact (e2 (h.apart j i t s g ht hs hg (hin g hr.1 hr.2))).elim
   ·omega
 ·simp at h2 ⊢; exact h2.1
end Go.Proofs.YtlnoelbeaolikaaGreat
