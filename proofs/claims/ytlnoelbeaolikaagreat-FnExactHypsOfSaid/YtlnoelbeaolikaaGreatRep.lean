/- How values of a type lie in memory: readable within a range of blocks, or owned within it; what keeps them. Plain lemmas, no program. -/
import Derived.Test.YtlnoelbeaolikaaGreatBase
namespace Go.Proofs.YtlnoelbeaolikaaGreat
open Go.RowKit

/-- w' is w but for the blocks a .. b - 1, and for new blocks -/
structure Chg (a b : Nat) (w w' : World) : Prop where
  os : w'.os = w.os
  tape : w'.tape = w.tape
  output : w'.output = w.output
  size : w.heap.size ≤ w'.heap.size
  block : ∀ k, k < w.heap.size → (k < a ∨ b ≤ k) → w'.heap[k]? = w.heap[k]?

theorem Chg.refl (a b : Nat) (w : World) : Chg a b w w := ⟨rfl, rfl, rfl, Nat.le_refl _, fun _ _ _ => rfl⟩
theorem Chg.trans {a b : Nat} {x y z : World} (h : Chg a b x y) (k : Chg a b y z) : Chg a b x z :=
  ⟨k.os.trans h.os, k.tape.trans h.tape, k.output.trans h.output, Nat.le_trans h.size k.size, fun i hi hj => (k.block i (Nat.lt_of_lt_of_le hi h.size) hj).trans (h.block i hi hj)⟩
theorem Chg.of_below {a b : Nat} {w w' : World} (h : Below w.heap.size w w') : Chg a b w w' := ⟨h.os, h.tape, h.output, h.size, fun k hk _ => h.block k hk⟩
theorem Chg.of_grown {a b : Nat} {w w' : World} {g : Nat} (h : w.grownBy w' (some g)) (ha : a ≤ g) (hb : g < b) : Chg a b w w' :=
  ⟨h.os, h.tape, h.output, h.size, fun k hk hj => h.block k hk (by intro e; simp at e; omega)⟩
theorem Chg.mono {a b a' b' : Nat} {w w' : World} (h : Chg a b w w') (ha : a' ≤ a) (hb : b ≤ b') : Chg a' b' w w' := ⟨h.os, h.tape, h.output, h.size, fun k hk hj => h.block k hk (by omega)⟩
theorem below_chg {a b : Nat} {w0 w w' : World} (h : Below w0.heap.size w0 w) (hc : Chg a b w w') (ha : w0.heap.size ≤ a) : Below w0.heap.size w0 w' :=
  h.trans ⟨hc.os, hc.tape, hc.output, hc.size, fun k hk => hc.block k (Nat.lt_of_lt_of_le hk h.size) (.inl (by omega))⟩
theorem chg_cell {a b : Nat} {w w' : World} (hc : Chg a b w w') {p o : Nat} {u : Value} (h : w.cell? ⟨p, o, none⟩ = some u) (hp : p < a ∨ b ≤ p) : w'.cell? ⟨p, o, none⟩ = some u :=
  (World.cell?_of_block (w := w) (hc.block p (cell_lt h) hp)).trans h

/-- blocks of other element types are as they were -/
def Typed (ty : TypeId → Bool) (w w' : World) : Prop := ∀ (k : Nat) c T f, w.heap[k]? = some (.cells c T f) → ty T = false → w'.heap[k]? = some (.cells c T f)
/-- what a function that marks does to the world -/
def Mk (ty : TypeId → Bool) (a b : Nat) (w w' : World) : Prop := Chg a b w w' ∧ Typed ty w w'
theorem Mk.refl (ty : TypeId → Bool) (a b : Nat) (w : World) : Mk ty a b w w := ⟨Chg.refl _ _ _, fun _ _ _ _ h _ => h⟩
theorem Mk.trans {ty : TypeId → Bool} {a b : Nat} {x y z : World} (h : Mk ty a b x y) (k : Mk ty a b y z) : Mk ty a b x z := ⟨h.1.trans k.1, fun i c T f h1 h2 => k.2 i c T f (h.2 i c T f h1 h2) h2⟩
theorem Mk.of_below {ty : TypeId → Bool} {a b : Nat} {w w' : World} (h : Below w.heap.size w w') : Mk ty a b w w' :=
  ⟨Chg.of_below h, fun k _ _ _ h1 _ => (h.block k (Array.getElem?_eq_some_iff.1 h1).1).trans h1⟩
/-- a block of a known element type -/
def BoxT (w : World) (p : Nat) (T : TypeId) : Prop := ∃ c f, w.heap[p]? = some (.cells c T f)
theorem BoxT.below {w w' : World} {p : Nat} {T : TypeId} (h : BoxT w p T) (hb : Below w.heap.size w w') : BoxT w' p T := by
  obtain ⟨c, f, h⟩ := h
  exact ⟨c, f, (hb.block p (Array.getElem?_eq_some_iff.1 h).1).trans h⟩
theorem BoxT.typed {ty : TypeId → Bool} {w w' : World} {p : Nat} {T : TypeId} (h : BoxT w p T) (ht : Typed ty w w') (hT : ty T = false) : BoxT w' p T := by
  obtain ⟨c, f, h⟩ := h
  exact ⟨c, f, ht p c T f h hT⟩
theorem typed_cell {ty : TypeId → Bool} {w w' : World} {p o : Nat} {T : TypeId} {u : Value} (ht : Typed ty w w') (h : BoxT w p T) (hT : ty T = false) (hc : w.cell? ⟨p, o, none⟩ = some u) : w'.cell? ⟨p, o, none⟩ = some u := by
  obtain ⟨c, f, h⟩ := h
  exact (World.cell?_of_block (w := w) ((ht p c T f h hT).trans h.symm)).trans hc
theorem BoxT.set {w : World} {p o : Nat} {T : TypeId} {u : Value} (h : BoxT w p T) : BoxT (w.setCell ⟨p, o, none⟩ u) p T := by
  obtain ⟨c, f, h⟩ := h
  refine ⟨c.setIfInBounds o u, f, ?_⟩
  simp [World.setCell, Array.getElem?_modify, h]

/-- readable, from blocks lo .. hi - 1 -/
def ArrIn {α : Type} (E : Enc α) (lo hi : Nat) (w : World) (v : Value) (xs : List α) : Prop :=
  ∃ b off ao cap, v = .slice ao xs.length cap ∧ xs.length ≤ cap ∧ cap ≤ maxLen ∧ (0 < xs.length → ao = some ⟨b, off, none⟩ ∧ lo ≤ b ∧ b < hi) ∧ Cells E w b off xs

theorem Cells.lt {α : Type} {E : Enc α} {w : World} {b off : Nat} {xs : List α} (h : Cells E w b off xs) (h0 : 0 < xs.length) : b < w.heap.size := by
  obtain ⟨x, hx⟩ : ∃ x, xs[0]? = some x := ⟨_, List.getElem?_eq_getElem h0⟩
  obtain ⟨u, hu⟩ : ∃ u, (E.row x)[0]? = some u := ⟨_, List.getElem?_eq_getElem (by rw [E.len]; exact E.pos)⟩
  exact cell_lt (h 0 x hx 0 u hu)

theorem Arr.in_ {α : Type} {E : Enc α} {w : World} {v : Value} {xs : List α} (h : Arr E w v xs) : ArrIn E 0 w.heap.size w v xs := by
  obtain ⟨b, off, ao, cap, hv, h1, h2, h3, h4⟩ := h
  exact ⟨b, off, ao, cap, hv, h1, h2, fun h => ⟨(h3 h).1, Nat.zero_le _, (h3 h).2⟩, h4⟩
theorem ArrIn.arr {α : Type} {E : Enc α} {lo hi : Nat} {w : World} {v : Value} {xs : List α} (h : ArrIn E lo hi w v xs) : Arr E w v xs := by
  obtain ⟨b, off, ao, cap, hv, h1, h2, h3, h4⟩ := h
  exact ⟨b, off, ao, cap, hv, h1, h2, fun h => ⟨(h3 h).1, h4.lt h⟩, h4⟩
theorem ArrIn.mono {α : Type} {E : Enc α} {lo hi lo' hi' : Nat} {w : World} {v : Value} {xs : List α} (h : ArrIn E lo hi w v xs) (hl : lo' ≤ lo) (hh : hi ≤ hi') : ArrIn E lo' hi' w v xs := by
  obtain ⟨b, off, ao, cap, hv, h1, h2, h3, h4⟩ := h
  exact ⟨b, off, ao, cap, hv, h1, h2, fun h => ⟨(h3 h).1, Nat.le_trans hl (h3 h).2.1, Nat.lt_of_lt_of_le (h3 h).2.2 hh⟩, h4⟩
theorem ArrIn.chg {α : Type} {E : Enc α} {lo hi a b : Nat} {w w' : World} {v : Value} {xs : List α} (h : ArrIn E lo hi w v xs) (hc : Chg a b w w') (hd : b ≤ lo ∨ hi ≤ a) : ArrIn E lo hi w' v xs := by
  obtain ⟨b, off, ao, cap, hv, h1, h2, h3, h4⟩ := h
  refine ⟨b, off, ao, cap, hv, h1, h2, h3, fun k x hx j u hu => ?_⟩
  have hk : k < xs.length := (List.getElem?_eq_some_iff.1 hx).1
  exact chg_cell hc (h4 k x hx j u hu) (by have := h3 (by omega); omega)

def OwnIn {α : Type} (E : Enc α) (e : TypeId) (lo hi : Nat) (w : World) (v : Value) (xs : List α) : Prop :=
  Own E e lo w v xs ∧ ∀ g, v.ownBlock = some g → g < hi

theorem Own.in_ {α : Type} {E : Enc α} {e : TypeId} {lo : Nat} {w : World} {v : Value} {xs : List α} (h : Own E e lo w v xs) : OwnIn E e lo w.heap.size w v xs :=
  ⟨h, fun g hg => (World.ownsRow.lt h g hg).2⟩
theorem OwnIn.arrIn {α : Type} {E : Enc α} {e : TypeId} {lo hi : Nat} {w : World} {v : Value} {xs : List α} (h : OwnIn E e lo hi w v xs) : ArrIn E lo hi w v xs := by
  obtain ⟨ho, hh⟩ := h
  have ha := ho.arr
  rcases ho.shape with ⟨rfl, rfl⟩ | ⟨g, cap, rfl, hl, hs⟩
  · exact ⟨0, 0, none, 0, rfl, Nat.le_refl _, by simp [maxLen], by simp, fun k x hx => by simp at hx⟩
  · obtain ⟨b, off, ao, cap', hv, h1, h2, h3, h4⟩ := ha
    simp at hv
    obtain ⟨rfl, rfl⟩ := hv
    refine ⟨b, off, some ⟨g, 0, none⟩, cap, rfl, h1, h2, fun h => ⟨(h3 h).1, ?_⟩, h4⟩
    have e := (h3 h).1
    simp at e
    rw [← e.1]
    exact ⟨hl, hh g (by simp [Value.ownBlock])⟩
theorem OwnIn.chg {α : Type} {E : Enc α} {e : TypeId} {lo hi a b : Nat} {w w' : World} {v : Value} {xs : List α} (h : OwnIn E e lo hi w v xs) (hc : Chg a b w w') (hd : b ≤ lo ∨ hi ≤ a) : OwnIn E e lo hi w' v xs := by
  obtain ⟨⟨h1, h2⟩, hh⟩ := h
  refine ⟨⟨h1, ?_⟩, hh⟩
  rcases h2 with h2 | ⟨g, cap, cur, hv, hB, hg, rest⟩
  · exact .inl h2
  · refine .inr ⟨g, cap, cur, hv, hB, ?_, rest⟩
    have := hh g (by rw [hv]; simp [Value.ownBlock])
    rw [hc.block g (Array.getElem?_eq_some_iff.1 hg).1 (by omega)]; exact hg
theorem OwnIn.mono {α : Type} {E : Enc α} {e : TypeId} {lo hi lo' hi' : Nat} {w : World} {v : Value} {xs : List α} (h : OwnIn E e lo hi w v xs) (hl : lo' ≤ lo) (hh : hi ≤ hi') : OwnIn E e lo' hi' w v xs :=
  ⟨h.1.mono hl, fun g hg => Nat.lt_of_lt_of_le (h.2 g hg) hh⟩

/-- one cell of one element of an owned slice is written -/
theorem Own.set1 {α : Type} {E : Enc α} {e : TypeId} {B g cap n : Nat} {w : World} {xs : List α} (h : Own E e B w (.slice (some ⟨g, 0, none⟩) n cap) xs) (hn : n = xs.length) {k j : Nat} {x x' : α} {u : Value} (hx : xs[k]? = some x) (hj : j < E.sz) (hr : E.row x' = (E.row x).set j u) :
    Own E e B (w.setCell ⟨g, k * E.sz + j, none⟩ u) (.slice (some ⟨g, 0, none⟩) n cap) (xs.set k x') ∧ w.grownBy (w.setCell ⟨g, k * E.sz + j, none⟩ u) (some g) := by
  subst hn
  have hk : k < xs.length := (List.getElem?_eq_some_iff.1 hx).1
  have h1 := World.ownsRow.stored h (k * E.sz + j) u
  refine ⟨?_, h1.2⟩
  have h2 := h1.1
  have e2 : (E.flat xs).set (k * E.sz + j) u = E.flat (xs.set k x') := by
    refine List.ext_getElem? fun i => ?_
    have hp := E.pos
    have hi : i / E.sz * E.sz + i % E.sz = i := by rw [Nat.mul_comm]; exact Nat.div_add_mod i E.sz
    have hm := Nat.mod_lt i hp
    rw [E.flat_get' (xs.set k x'), List.getElem?_set, List.getElem?_set, E.flat_len]
    have hlt : k * E.sz + j < xs.length * E.sz := by
      have : (k + 1) * E.sz ≤ xs.length * E.sz := Nat.mul_le_mul_right _ hk
      rw [Nat.add_mul] at this; omega
    by_cases ek : k = i / E.sz
    · subst ek
      rw [if_pos rfl, if_pos hk]
      simp only [Option.bind_some]
      rw [hr, List.getElem?_set, E.len]
      by_cases ej : j = i % E.sz
      · subst ej; rw [if_pos hi, if_pos hlt, if_pos rfl, if_pos hm]
      · rw [if_neg (by omega), if_neg ej, E.flat_get', hx]; rfl
    · rw [if_neg ek, if_neg, ← E.flat_get']
      intro e3
      apply ek
      rw [← e3, Nat.mul_comm k, Nat.mul_add_div hp, Nat.div_eq_of_lt hj]
      omega
  rw [e2] at h2
  unfold Own
  rw [List.length_set]
  exact h2

theorem OwnIn.set1 {α : Type} {E : Enc α} {e : TypeId} {lo hi g cap n : Nat} {w : World} {xs : List α} (h : OwnIn E e lo hi w (.slice (some ⟨g, 0, none⟩) n cap) xs) (hn : n = xs.length) {k j : Nat} {x x' : α} {u : Value} (hx : xs[k]? = some x) (hj : j < E.sz) (hr : E.row x' = (E.row x).set j u) :
    OwnIn E e lo hi (w.setCell ⟨g, k * E.sz + j, none⟩ u) (.slice (some ⟨g, 0, none⟩) n cap) (xs.set k x') ∧ Mk (fun T => T == e) lo hi w (w.setCell ⟨g, k * E.sz + j, none⟩ u) := by
  have hg := h.2 g (by simp [Value.ownBlock])
  have hl := h.1.lt.1
  have h1 := h.1.set1 hn hx hj hr
  refine ⟨⟨h1.1, h.2⟩, Chg.of_grown h1.2 hl hg, fun q c T f hq hT => ?_⟩
  have hne : q ≠ g := by
    intro e2; subst e2
    rcases h.1.2 with ⟨h', _⟩ | ⟨g', cap', cur, h', _, hgg, _⟩
    · simp at h'
    · simp at h'
      obtain ⟨rfl, _⟩ := h'
      rw [hgg] at hq
      simp at hq
      simp [hq.2.1] at hT
  rw [Below.heap_setCell _ _ _ _ hne]; exact hq

theorem set_same {α : Type} {xs : List α} {k : Nat} {x y : α} (h : xs[k]? = some x) : (xs.set k y)[k]? = some y := by
  rw [List.getElem?_set_self (List.getElem?_eq_some_iff.1 h).1]
theorem set_set {α : Type} (xs : List α) (k : Nat) (x y : α) : (xs.set k x).set k y = xs.set k y := by simp

theorem OwnIn.set_other {α : Type} {E : Enc α} {e : TypeId} {lo hi : Nat} {w : World} {v : Value} {xs : List α} {p o : Nat} {c : Array Value} {T : TypeId} {f : Nat × Nat} {u : Value} (h : OwnIn E e lo hi w v xs)
    (hp : w.heap[p]? = some (.cells c T f)) (hT : T ≠ e) : OwnIn E e lo hi (w.setCell ⟨p, o, none⟩ u) v xs := by
  obtain ⟨⟨h1, h2⟩, hh⟩ := h
  refine ⟨⟨h1, ?_⟩, hh⟩
  rcases h2 with h2 | ⟨g, cap, cur, hv, hB, hg, rest⟩
  · exact .inl h2
  · refine .inr ⟨g, cap, cur, hv, hB, ?_, rest⟩
    have hne : g ≠ p := by
      intro e2; subst e2
      rw [hg] at hp
      simp at hp
      exact hT hp.2.1.symm
    rw [Below.heap_setCell _ _ _ _ hne]; exact hg

/-- how the values of a type lie in memory -/
structure Rep (X : Type) where
  at_ : Nat → Nat → World → Value → X → Prop
  own : Nat → Nat → World → Value → X → Prop
  own_at : ∀ {lo hi w v x}, own lo hi w v x → at_ lo hi w v x
  at_chg : ∀ {lo hi w v x a b w'}, at_ lo hi w v x → Chg a b w w' → (b ≤ lo ∨ hi ≤ a) → at_ lo hi w' v x
  own_chg : ∀ {lo hi w v x a b w'}, own lo hi w v x → Chg a b w w' → (b ≤ lo ∨ hi ≤ a) → own lo hi w' v x
  at_mono : ∀ {lo hi w v x lo' hi'}, at_ lo hi w v x → lo' ≤ lo → hi ≤ hi' → at_ lo' hi' w v x
  own_mono : ∀ {lo hi w v x lo' hi'}, own lo hi w v x → lo' ≤ lo → hi ≤ hi' → own lo' hi' w v x
  ty : TypeId → Bool
  own_set : ∀ {lo hi w v x p c T f o u}, own lo hi w v x → w.heap[p]? = some (.cells c T f) → ty T = false → own lo hi (w.setCell ⟨p, o, none⟩ u) v x

theorem Rep.at_below {X : Type} (R : Rep X) {lo hi : Nat} {w w' : World} {v : Value} {x : X} (h : R.at_ lo hi w v x) (hb : Below w.heap.size w w') : R.at_ lo hi w' v x :=
  R.at_chg h (Chg.of_below (a := hi) (b := hi) hb) (.inr (Nat.le_refl _))
theorem Rep.own_below {X : Type} (R : Rep X) {lo hi : Nat} {w w' : World} {v : Value} {x : X} (h : R.own lo hi w v x) (hb : Below w.heap.size w w') : R.own lo hi w' v x :=
  R.own_chg h (Chg.of_below (a := hi) (b := hi) hb) (.inr (Nat.le_refl _))

theorem Rep.at_now {X : Type} (R : Rep X) {lo : Nat} {w w' : World} {v : Value} {x : X} (h : R.at_ lo w.heap.size w v x) (hb : Below w.heap.size w w') : R.at_ lo w'.heap.size w' v x :=
  R.at_mono (R.at_below h hb) (Nat.le_refl _) hb.size
theorem Rep.own_now {X : Type} (R : Rep X) {lo : Nat} {w w' : World} {v : Value} {x : X} (h : R.own lo w.heap.size w v x) (hb : Below w.heap.size w w') : R.own lo w'.heap.size w' v x :=
  R.own_mono (R.own_below h hb) (Nat.le_refl _) hb.size
theorem below_alloc (w : World) (o : Obj) : Below w.heap.size w (w.alloc o) := (Below.refl _ _).alloc (Nat.le_refl _) _
theorem Rep.at_alloc {X : Type} (R : Rep X) {lo hi : Nat} {w : World} {v : Value} {x : X} (h : R.at_ lo hi w v x) (o : Obj) : R.at_ lo hi (w.alloc o) v x := R.at_below h (below_alloc w o)
theorem Rep.own_alloc {X : Type} (R : Rep X) {lo hi : Nat} {w : World} {v : Value} {x : X} (h : R.own lo hi w v x) (o : Obj) : R.own lo hi (w.alloc o) v x := R.own_below h (below_alloc w o)

def Rep.flat {α : Type} (E : Enc α) (e : TypeId) : Rep (List α) where
  at_ := ArrIn E
  own := OwnIn E e
  own_at := OwnIn.arrIn
  at_chg := ArrIn.chg
  own_chg := OwnIn.chg
  at_mono := ArrIn.mono
  own_mono := OwnIn.mono
  ty := fun T => T == e
  own_set := fun h hp hT => OwnIn.set_other h hp (by simpa using hT)

/-- values without memory of their own -/
def Rep.plain {X : Type} (f : X → Value) : Rep X where
  at_ := fun _ _ _ v x => v = f x
  own := fun _ _ _ v x => v = f x
  own_at := fun h => h
  at_chg := fun h _ _ => h
  own_chg := fun h _ _ => h
  at_mono := fun h _ _ => h
  own_mono := fun h _ _ => h
  ty := fun _ => false
  own_set := fun h _ _ => h

/-- a struct of one field -/
def Rep.agg1 {X : Type} (R : Rep X) : Rep X where
  at_ := fun lo hi w v x => ∃ u, v = .agg #[u] ∧ R.at_ lo hi w u x
  own := fun lo hi w v x => ∃ u, v = .agg #[u] ∧ R.own lo hi w u x
  own_at := fun ⟨u, hv, h⟩ => ⟨u, hv, R.own_at h⟩
  at_chg := fun ⟨u, hv, h⟩ hc hd => ⟨u, hv, R.at_chg h hc hd⟩
  own_chg := fun ⟨u, hv, h⟩ hc hd => ⟨u, hv, R.own_chg h hc hd⟩
  at_mono := fun ⟨u, hv, h⟩ hl hh => ⟨u, hv, R.at_mono h hl hh⟩
  own_mono := fun ⟨u, hv, h⟩ hl hh => ⟨u, hv, R.own_mono h hl hh⟩
  ty := R.ty
  own_set := fun ⟨u, hv, h⟩ hp hT => ⟨u, hv, R.own_set h hp hT⟩

/-- a struct whose first field is a plain value f x.1, the second a value with memory -/
def Rep.aggP {Y X : Type} (f : Y → Value) (R : Rep X) : Rep (Y × X) where
  at_ := fun lo hi w v x => ∃ u, v = .agg #[f x.1, u] ∧ R.at_ lo hi w u x.2
  own := fun lo hi w v x => ∃ u, v = .agg #[f x.1, u] ∧ R.own lo hi w u x.2
  own_at := fun ⟨u, hv, h⟩ => ⟨u, hv, R.own_at h⟩
  at_chg := fun ⟨u, hv, h⟩ hc hd => ⟨u, hv, R.at_chg h hc hd⟩
  own_chg := fun ⟨u, hv, h⟩ hc hd => ⟨u, hv, R.own_chg h hc hd⟩
  at_mono := fun ⟨u, hv, h⟩ hl hh => ⟨u, hv, R.at_mono h hl hh⟩
  own_mono := fun ⟨u, hv, h⟩ hl hh => ⟨u, hv, R.own_mono h hl hh⟩
  ty := R.ty
  own_set := fun ⟨u, hv, h⟩ hp hT => ⟨u, hv, R.own_set h hp hT⟩

/-- the call returns a value of its own that is x, and leaves what was there -/
def RetR {X : Type} (R : Rep X) (x : X) (W : World) (e : Ending) (w' : World) : Prop :=
  ∃ v, e = .returned v ∧ R.own W.heap.size w'.heap.size w' v x ∧ Below W.heap.size W w'
/-- the call returns a value that is x, readable, and plain results behind it -/
def RetAt {X : Type} (R : Rep X) (x : X) (rest : Array Value) (W : World) (e : Ending) (w' : World) : Prop :=
  ∃ v, e = .returned (.tuple (#[v] ++ rest)) ∧ R.at_ 0 w'.heap.size w' v x ∧ Below W.heap.size W w'
/-- the call returns a value of its own that is x, and plain results behind it -/
def RetNew {X : Type} (R : Rep X) (x : X) (rest : Array Value) (W : World) (e : Ending) (w' : World) : Prop :=
  ∃ v, e = .returned (.tuple (#[v] ++ rest)) ∧ R.own W.heap.size w'.heap.size w' v x ∧ Below W.heap.size W w'
/-- what was owned has been marked: the call returns k' -/
def RetMark {X : Type} (R : Rep X) (x : X) (k' : Int) (lo hi : Nat) (v : Value) (W : World) (e : Ending) (w' : World) : Prop :=
  e = .returned (.int .i64 k') ∧ R.own lo hi w' v x ∧ Mk R.ty lo hi W w'
end Go.Proofs.YtlnoelbeaolikaaGreat
namespace Go.Proofs.YtlnoelbeaolikaaGreat
open Go.RowKit

theorem baseB0 {w u u' : World} (h : Below w.heap.size w u) (hb : Below u.heap.size u u') : Below w.heap.size w u' := h.trans (hb.mono h.size)
theorem belowA1 (u : World) (a : Obj) : Below u.heap.size u (u.alloc a) := below_alloc u a
theorem belowA2 (u : World) (a b : Obj) : Below u.heap.size u ((u.alloc a).alloc b) := (below_alloc u a).alloc (by simp) b
theorem belowA3 (u : World) (a b c : Obj) : Below u.heap.size u (((u.alloc a).alloc b).alloc c) := (belowA2 u a b).alloc (by simp <;> omega) c
theorem belowA4 (u : World) (a b c d : Obj) : Below u.heap.size u ((((u.alloc a).alloc b).alloc c).alloc d) := (belowA3 u a b c).alloc (by simp <;> omega) d
theorem base1 {w u : World} {a : Obj} (h : Below w.heap.size w u) : Below w.heap.size w (u.alloc a) := baseB0 h (belowA1 u a)
theorem base2 {w u : World} {a b : Obj} (h : Below w.heap.size w u) : Below w.heap.size w ((u.alloc a).alloc b) := baseB0 h (belowA2 u a b)
theorem base3 {w u : World} {a b c : Obj} (h : Below w.heap.size w u) : Below w.heap.size w (((u.alloc a).alloc b).alloc c) := baseB0 h (belowA3 u a b c)
theorem base4 {w u : World} {a b c d : Obj} (h : Below w.heap.size w u) : Below w.heap.size w ((((u.alloc a).alloc b).alloc c).alloc d) := baseB0 h (belowA4 u a b c d)
theorem baseB1 {w u u' : World} {a : Obj} (h : Below w.heap.size w u) (hb : Below (u.alloc a).heap.size (u.alloc a) u') : Below w.heap.size w u' := baseB0 (base1 h) hb
theorem baseB2 {w u u' : World} {a b : Obj} (h : Below w.heap.size w u) (hb : Below ((u.alloc a).alloc b).heap.size ((u.alloc a).alloc b) u') : Below w.heap.size w u' := baseB0 (base2 h) hb
theorem baseB3 {w u u' : World} {a b c : Obj} (h : Below w.heap.size w u) (hb : Below (((u.alloc a).alloc b).alloc c).heap.size (((u.alloc a).alloc b).alloc c) u') : Below w.heap.size w u' := baseB0 (base3 h) hb
theorem baseB4 {w u u' : World} {a b c d : Obj} (h : Below w.heap.size w u) (hb : Below ((((u.alloc a).alloc b).alloc c).alloc d).heap.size ((((u.alloc a).alloc b).alloc c).alloc d) u') : Below w.heap.size w u' := baseB0 (base4 h) hb
end Go.Proofs.YtlnoelbeaolikaaGreat
