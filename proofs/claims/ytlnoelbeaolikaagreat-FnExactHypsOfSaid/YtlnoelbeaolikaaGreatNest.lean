/- Slices of elements that hold a slice of their own: how they lie in memory. Plain lemmas, no program. -/
import Derived.Test.YtlnoelbeaolikaaGreatRep
namespace Go.Proofs.YtlnoelbeaolikaaGreat
open Go.RowKit

/-- a slice header -/
structure SV where
  a : Option Addr
  n : Nat
  c : Nat
def SV.val (s : SV) : Value := .slice s.a s.n s.c
/-- an element: plain cells y, then a slice -/
def eSV {Y : Type} (E : Enc Y) : Enc (Y × SV) where
  row := fun x => E.row x.1 ++ [x.2.val]
  sz := E.sz + 1
  len := fun x => by simp [E.len]
  pos := by omega
  one := fun x u hu => by
    simp at hu
    rcases hu with h | rfl
    · exact E.one x.1 u h
    · rfl
/-- an element that is a slice alone -/
def eS1 : Enc SV := ⟨fun s => [s.val], 1, fun _ => rfl, by decide, fun s u hu => by simp at hu; subst hu; rfl⟩

theorem eS1_cells {w : World} {b off : Nat} {es : List SV} (h : Cells eS1 w b off es) {k : Nat} {s : SV} (hx : es[k]? = some s) : w.cell? ⟨b, off + k, none⟩ = some (.slice s.a s.n s.c) := by
  have := h k s hx 0 _ rfl
  have e : off + k * eS1.sz + 0 = off + k := by show off + k * 1 + 0 = off + k; omega
  rw [e] at this
  exact this

/-- the slice value u holds strokes: each of its elements is a slice value that holds a row of X -/
def NestIn {α : Type} (E : Enc α) (lo hi : Nat) (w : World) (u : Value) (X : List (List α)) : Prop :=
  ∃ vs : List SV, ArrIn eS1 lo hi w u vs ∧ vs.length = X.length ∧ ∀ (i : Nat) (s : SV) (x : List α), vs[i]? = some s → X[i]? = some x → ArrIn E lo hi w s.val x

def SV.blk (s : SV) : Option Nat := s.val.ownBlock
def NestOwn {α : Type} (E : Enc α) (e eo : TypeId) (lo hi : Nat) (w : World) (u : Value) (X : List (List α)) : Prop :=
  ∃ vs : List SV, OwnIn eS1 eo lo hi w u vs ∧ vs.length = X.length ∧ (∀ (i : Nat) (s : SV) (x : List α), vs[i]? = some s → X[i]? = some x → OwnIn E e lo hi w s.val x) ∧
    (∀ (i j : Nat) (s t : SV) (g : Nat), vs[i]? = some s → vs[j]? = some t → s.blk = some g → t.blk = some g → i = j)

theorem NestIn.mono {α : Type} {E : Enc α} {lo hi lo' hi' : Nat} {w : World} {u : Value} {X : List (List α)} (h : NestIn E lo hi w u X) (hl : lo' ≤ lo) (hh : hi ≤ hi') : NestIn E lo' hi' w u X := by
  obtain ⟨vs, h1, h2, h3⟩ := h
  exact ⟨vs, h1.mono hl hh, h2, fun i s x hs hx => (h3 i s x hs hx).mono hl hh⟩
theorem NestIn.chg {α : Type} {E : Enc α} {lo hi a b : Nat} {w w' : World} {u : Value} {X : List (List α)} (h : NestIn E lo hi w u X) (hc : Chg a b w w') (hd : b ≤ lo ∨ hi ≤ a) : NestIn E lo hi w' u X := by
  obtain ⟨vs, h1, h2, h3⟩ := h
  exact ⟨vs, h1.chg hc hd, h2, fun i s x hs hx => (h3 i s x hs hx).chg hc hd⟩
theorem NestOwn.mono {α : Type} {E : Enc α} {e eo : TypeId} {lo hi lo' hi' : Nat} {w : World} {u : Value} {X : List (List α)} (h : NestOwn E e eo lo hi w u X) (hl : lo' ≤ lo) (hh : hi ≤ hi') : NestOwn E e eo lo' hi' w u X := by
  obtain ⟨vs, h1, h2, h3, h4⟩ := h
  exact ⟨vs, h1.mono hl hh, h2, fun i s x hs hx => (h3 i s x hs hx).mono hl hh, h4⟩
theorem NestOwn.chg {α : Type} {E : Enc α} {e eo : TypeId} {lo hi a b : Nat} {w w' : World} {u : Value} {X : List (List α)} (h : NestOwn E e eo lo hi w u X) (hc : Chg a b w w') (hd : b ≤ lo ∨ hi ≤ a) : NestOwn E e eo lo hi w' u X := by
  obtain ⟨vs, h1, h2, h3, h4⟩ := h
  exact ⟨vs, h1.chg hc hd, h2, fun i s x hs hx => (h3 i s x hs hx).chg hc hd, h4⟩
theorem NestOwn.nestIn {α : Type} {E : Enc α} {e eo : TypeId} {lo hi : Nat} {w : World} {u : Value} {X : List (List α)} (h : NestOwn E e eo lo hi w u X) : NestIn E lo hi w u X := by
  obtain ⟨vs, h1, h2, h3, _⟩ := h
  exact ⟨vs, h1.arrIn, h2, fun i s x hs hx => (h3 i s x hs hx).arrIn⟩

def Rep.nest {α : Type} (E : Enc α) (e eo : TypeId) : Rep (List (List α)) where
  at_ := NestIn E
  own := NestOwn E e eo
  own_at := NestOwn.nestIn
  at_chg := NestIn.chg
  own_chg := NestOwn.chg
  at_mono := NestIn.mono
  own_mono := NestOwn.mono
  ty := fun T => T == e || T == eo
  own_set := fun h hp hT => by
    obtain ⟨vs, h1, h2, h3, h4⟩ := h
    simp at hT
    exact ⟨vs, h1.set_other hp hT.2, h2, fun i s x hs hx => (h3 i s x hs hx).set_other hp hT.1, h4⟩

theorem NestIn.arr {α : Type} {E : Enc α} {lo hi : Nat} {w : World} {u : Value} {X : List (List α)} (h : NestIn E lo hi w u X) :
    ∃ vs : List SV, Arr eS1 w u vs ∧ vs.length = X.length ∧ ∀ (i : Nat) (s : SV) (x : List α), vs[i]? = some s → X[i]? = some x → Arr E w s.val x := by
  obtain ⟨vs, h1, h2, h3⟩ := h
  exact ⟨vs, h1.arr, h2, fun i s x hs hx => (h3 i s x hs hx).arr⟩
theorem OwnIn.chgB {α : Type} {E : Enc α} {e : TypeId} {lo hi a b : Nat} {w w' : World} {v : Value} {xs : List α} (h : OwnIn E e lo hi w v xs) (hc : Chg a b w w') (hd : ∀ g, v.ownBlock = some g → g < a ∨ b ≤ g) : OwnIn E e lo hi w' v xs := by
  obtain ⟨⟨h1, h2⟩, hh⟩ := h
  refine ⟨⟨h1, ?_⟩, hh⟩
  rcases h2 with h2 | ⟨g, cap, cur, hv, hB, hg, rest⟩
  · exact .inl h2
  · refine .inr ⟨g, cap, cur, hv, hB, ?_, rest⟩
    rw [hc.block g (Array.getElem?_eq_some_iff.1 hg).1 (hd g (by rw [hv]; simp [Value.ownBlock]))]; exact hg
theorem OwnIn.typed {α : Type} {E : Enc α} {e : TypeId} {lo hi : Nat} {ty : TypeId → Bool} {w w' : World} {v : Value} {xs : List α} (h : OwnIn E e lo hi w v xs) (ht : Typed ty w w') (hT : ty e = false) : OwnIn E e lo hi w' v xs := by
  obtain ⟨⟨h1, h2⟩, hh⟩ := h
  refine ⟨⟨h1, ?_⟩, hh⟩
  rcases h2 with h2 | ⟨g, cap, cur, hv, hB, hg, rest⟩
  · exact .inl h2
  · exact .inr ⟨g, cap, cur, hv, hB, ht g _ _ _ hg hT, rest⟩
theorem OwnIn.narrow {α : Type} {E : Enc α} {e : TypeId} {lo hi : Nat} {w : World} {v : Value} {xs : List α} (h : OwnIn E e lo hi w v xs) :
    ∃ lo' hi', lo ≤ lo' ∧ OwnIn E e lo' hi' w v xs ∧ (∀ k, (k < lo ∨ hi ≤ k) → (k < lo' ∨ hi' ≤ k)) ∧ (∀ g, lo' ≤ g → g < hi' → v.ownBlock = some g) := by
  obtain ⟨⟨h1, h2⟩, hh⟩ := h
  rcases h2 with h2 | ⟨g, cap, cur, hv, hB, hg, rest⟩
  · refine ⟨lo, lo, Nat.le_refl _, ⟨⟨h1, .inl h2⟩, ?_⟩, by omega, by omega⟩
    obtain ⟨rfl, _⟩ := h2
    intro g hg
    simp [Value.ownBlock] at hg
  · have hk : v.ownBlock = some g := by rw [hv]; simp [Value.ownBlock]
    have hl := hh g hk
    refine ⟨g, g + 1, hB, ⟨⟨h1, .inr ⟨g, cap, cur, hv, Nat.le_refl _, hg, rest⟩⟩, ?_⟩, by omega, ?_⟩
    · intro q hq; rw [hk] at hq; cases hq; omega
    · intro q h1 h2
      have : q = g := by omega
      rw [this]; exact hk
theorem OwnIn.widen {α : Type} {E : Enc α} {e : TypeId} {lo hi lo' hi' : Nat} {w w' : World} {v : Value} {xs ys : List α} (h : OwnIn E e lo' hi' w' v ys) (h0 : OwnIn E e lo hi w v xs) (hl : lo ≤ lo') : OwnIn E e lo hi w' v ys :=
  ⟨h.1.mono hl, h0.2⟩
theorem chg_set (w : World) (p o : Nat) (u : Value) : Chg p (p + 1) w (w.setCell ⟨p, o, none⟩ u) :=
  ⟨rfl, rfl, rfl, by simp, fun k hk hj => by simp only [World.setCell, Array.getElem?_modify]; rw [if_neg (by first | omega | (simp; omega))]⟩

/-- the first k elements hold rows of their own -/
structure NestTo {α : Type} (E : Enc α) (e : TypeId) (g : Nat) (X : List (List α)) (k : Nat) (vs : List SV) (w : World) : Prop where
  own : ∀ (j : Nat) (s : SV) (x : List α), j < k → vs[j]? = some s → X[j]? = some x → OwnIn E e (g + 1) w.heap.size w s.val x
  apart : ∀ (i j : Nat) (s t : SV) (q : Nat), i < k → j < k → vs[i]? = some s → vs[j]? = some t → s.blk = some q → t.blk = some q → i = j
theorem NestTo.zero {α : Type} {E : Enc α} {e : TypeId} {g : Nat} {X : List (List α)} {vs : List SV} {w : World} : NestTo E e g X 0 vs w := ⟨fun _ _ _ h => by omega, fun _ _ _ _ _ h => by omega⟩
theorem NestTo.step {α : Type} {E : Enc α} {e : TypeId} {g k : Nat} {X : List (List α)} {vs : List SV} {wr w2 w3 : World} {s : SV} {x : List α} (h : NestTo E e g X k vs wr) (hb : Below wr.heap.size wr w2)
    (ho : OwnIn E e wr.heap.size w2.heap.size w2 s.val x) (hx : X[k]? = some x) (hg : g < wr.heap.size) (hl : vs.length = X.length) (hc : Chg g (g + 1) w2 w3) : NestTo E e g X (k + 1) (vs.set k s) w3 := by
  have hk : k < vs.length := by rw [hl]; exact (List.getElem?_eq_some_iff.1 hx).1
  have hb2 := hb.size
  have hc2 := hc.size
  refine ⟨fun j t y hj ht hy => ?_, fun i j t u q hi hj ht hu hq hq2 => ?_⟩
  · by_cases e2 : j = k
    · subst e2
      rw [List.getElem?_set_self hk] at ht
      cases ht
      rw [hx] at hy; cases hy
      exact (ho.chg hc (.inl (by omega))).mono (by omega) hc2
    · rw [List.getElem?_set_ne (Ne.symm e2)] at ht
      have h1 := h.own j t y (by omega) ht hy
      exact ((h1.chg (Chg.of_below (a := 0) (b := 0) hb) (.inl (by omega))).chg hc (.inl (by omega))).mono (Nat.le_refl _) (by omega)
  · have key : ∀ (j : Nat) (t : SV) (q : Nat), j < k → vs[j]? = some t → t.blk = some q → s.blk = some q → False := by
      intro j t q hj ht h1 h2
      have hj2 : j < X.length := by rw [← hl]; exact (List.getElem?_eq_some_iff.1 ht).1
      have := (h.own j t _ hj ht (List.getElem?_eq_getElem hj2)).2 q h1
      have h3 := ho.1.mono (B' := wr.heap.size) (Nat.le_refl _)
      have := World.ownsRow.lt h3 q h2
      omega
    by_cases e1 : i = k
    · subst e1
      rw [List.getElem?_set_self hk] at ht; cases ht
      by_cases e2 : j = i
      · exact e2.symm
      · rw [List.getElem?_set_ne (Ne.symm e2)] at hu
        exact (key j u q (by omega) hu hq2 hq).elim
    · rw [List.getElem?_set_ne (Ne.symm e1)] at ht
      by_cases e2 : j = k
      · subst e2
        rw [List.getElem?_set_self hk] at hu; cases hu
        exact (key i t q (by omega) ht hq hq2).elim
      · rw [List.getElem?_set_ne (Ne.symm e2)] at hu
        exact h.apart i j t u q (by omega) (by omega) ht hu hq hq2
theorem NestTo.done {α : Type} {E : Enc α} {e eo : TypeId} {g n cap lo : Nat} {X : List (List α)} {vs : List SV} {w : World} (h : NestTo E e g X X.length vs w) (hl : vs.length = X.length) (hlo : lo ≤ g)
    (ho : Own eS1 eo g w (.slice (some ⟨g, 0, none⟩) n cap) vs) : NestOwn E e eo lo w.heap.size w (.slice (some ⟨g, 0, none⟩) n cap) X := by
  have lt : ∀ (i : Nat) (s : SV), vs[i]? = some s → i < X.length := fun i s hs => by rw [← hl]; exact (List.getElem?_eq_some_iff.1 hs).1
  exact ⟨vs, (ho.in_).mono hlo (Nat.le_refl _), hl, fun i s x hs hx => (h.own i s x (lt i s hs) hs hx).mono (by omega) (Nat.le_refl _), fun i j s t q hs ht => h.apart i j s t q (lt i s hs) (lt j t ht) hs ht⟩

/-- marks: one row is written anew -/
structure NestSt {α : Type} (E : Enc α) (e eo : TypeId) (lo hi : Nat) (u : Value) (vs : List SV) (Y : List (List α)) (w : World) : Prop where
  outer : OwnIn eS1 eo lo hi w u vs
  len : vs.length = Y.length
  inner : ∀ (i : Nat) (s : SV) (x : List α), vs[i]? = some s → Y[i]? = some x → OwnIn E e lo hi w s.val x
  apart : ∀ (i j : Nat) (s t : SV) (g : Nat), vs[i]? = some s → vs[j]? = some t → s.blk = some g → t.blk = some g → i = j
theorem NestSt.own {α : Type} {E : Enc α} {e eo : TypeId} {lo hi : Nat} {u : Value} {vs : List SV} {Y : List (List α)} {w : World} (h : NestSt E e eo lo hi u vs Y w) : NestOwn E e eo lo hi w u Y := ⟨vs, h.outer, h.len, h.inner, h.apart⟩
theorem NestSt.mark {α : Type} {E : Enc α} {e eo : TypeId} {lo hi lo' hi' : Nat} {u : Value} {vs : List SV} {Y : List (List α)} {w w' : World} (h : NestSt E e eo lo hi u vs Y w) (hne : (eo == e) = false) {i : Nat} {s : SV} {x x' : List α}
    (hs : vs[i]? = some s) (hx : Y[i]? = some x) (hl : lo ≤ lo') (hout : ∀ k, (k < lo ∨ hi ≤ k) → (k < lo' ∨ hi' ≤ k)) (hin : ∀ g, lo' ≤ g → g < hi' → s.val.ownBlock = some g)
    (ho : OwnIn E e lo' hi' w' s.val x') (hm : Mk (fun T => T == e) lo' hi' w w') : NestSt E e eo lo hi u vs (Y.set i x') w' ∧ Mk (fun T => T == e || T == eo) lo hi w w' := by
  have hi2 : i < Y.length := (List.getElem?_eq_some_iff.1 hx).1
  refine ⟨⟨h.outer.typed hm.2 hne, by rw [List.length_set]; exact h.len, fun j t y ht hy => ?_, h.apart⟩, ⟨hm.1.os, hm.1.tape, hm.1.output, hm.1.size, fun k hk hj => hm.1.block k hk (hout k hj)⟩, fun k c T f h1 h2 => hm.2 k c T f h1 ?_⟩
  · by_cases e2 : j = i
    · subst e2
      rw [List.getElem?_set_self hi2] at hy; cases hy
      rw [hs] at ht; cases ht
      exact ho.widen (h.inner j s x hs hx) hl
    · rw [List.getElem?_set_ne (Ne.symm e2)] at hy
      refine (h.inner j t y ht hy).chgB hm.1 fun g hg => ?_
      by_cases hr : lo' ≤ g ∧ g < hi'
      · exact (e2 (h.apart j i t s g ht hs hg (hin g hr.1 hr.2))).elim
      · omega
  · simp at h2 ⊢; exact h2.1
end Go.Proofs.YtlnoelbeaolikaaGreat
