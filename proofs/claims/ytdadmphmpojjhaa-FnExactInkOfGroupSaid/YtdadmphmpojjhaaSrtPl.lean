/- A block of numbers that a call turns within bounds. Plain lemmas, no program. -/
import Derived.Test.YtdadmphmpojjhaaBase
import Derived.Test.YtdadmphmpojjhaaRep
import Derived.Test.YtdadmphmpojjhaaApp
import Derived.Test.YtdadmphmpojjhaaNest
namespace Go.Proofs.Ytdadmphmpojjhaa
open Go.RowKit

/-! ### lists of numbers -/
def gI (d : List Int) (k : Nat) : Int := d.getD k 0
theorem gI_some {d : List Int} {k : Nat} (h : k < d.length) : d[k]? = some (gI d k) := by
  unfold gI
  rw [List.getD_eq_getElem?_getD, List.getElem?_eq_getElem h]; rfl
def swL (d : List Int) (i j : Nat) : List Int := (d.set i (gI d j)).set j (gI d i)
theorem swL_len (d : List Int) (i j : Nat) : (swL d i j).length = d.length := by unfold swL; rw [List.length_set, List.length_set]
theorem gI_set {d : List Int} {i k : Nat} (h : i < d.length) (c : Int) : gI (d.set i c) k = if k = i then c else gI d k := by
  unfold gI
  rw [List.getD_eq_getElem?_getD, List.getD_eq_getElem?_getD]
  by_cases e : k = i
  · subst e; rw [List.getElem?_set_self h, if_pos rfl]; rfl
  · rw [List.getElem?_set_ne (fun h => e h.symm), if_neg e]
theorem gI_sw {d : List Int} {i j : Nat} (hi : i < d.length) (hj : j < d.length) (k : Nat) : gI (swL d i j) k = if k = j then gI d i else if k = i then gI d j else gI d k := by
  unfold swL
  rw [gI_set (by rw [List.length_set]; exact hj), gI_set hi]
/-- the list turns within a..b, by exchanges alone -/
structure POn (a b : Nat) (d d' : List Int) : Prop where
  len : d'.length = d.length
  out : ∀ i, (i < a ∨ b ≤ i) → gI d' i = gI d i
  all : ∀ P : Int → Prop, (∀ i, a ≤ i → i < b → P (gI d i)) → ∀ i, a ≤ i → i < b → P (gI d' i)
  perm : d'.Perm d
theorem POn.refl (a b : Nat) (d : List Int) : POn a b d d := ⟨rfl, fun _ _ => rfl, fun _ h => h, List.Perm.refl _⟩
theorem POn.trans {a b : Nat} {x y z : List Int} (h : POn a b x y) (k : POn a b y z) : POn a b x z :=
  ⟨k.len.trans h.len, fun i hi => (k.out i hi).trans (h.out i hi), fun P hP => k.all P (h.all P hP), k.perm.trans h.perm⟩
theorem POn.wide {a b a' b' : Nat} {x y : List Int} (h : POn a b x y) (ha : a' ≤ a) (hb : b ≤ b') : POn a' b' x y :=
  ⟨h.len, fun i hi => h.out i (by omega), fun P hP i h1 h2 => by
    by_cases hi : a ≤ i ∧ i < b
    · exact h.all P (fun j j1 j2 => hP j (by omega) (by omega)) i hi.1 hi.2
    · rw [h.out i (by omega)]; exact hP i h1 h2, h.perm⟩
theorem POn.sw {a b i j : Nat} {d : List Int} (hb : b ≤ d.length) (hi : a ≤ i) (hi2 : i < b) (hj : a ≤ j) (hj2 : j < b) : POn a b d (swL d i j) := by
  have h1 : i < d.length := by omega
  have h2 : j < d.length := by omega
  refine ⟨swL_len d i j, fun k hk => ?_, fun P hP k k1 k2 => ?_, ?_⟩
  · rw [gI_sw h1 h2, if_neg (by omega), if_neg (by omega)]
  · rw [gI_sw h1 h2]
    split
    · exact hP i hi hi2
    · split
      · exact hP j hj hj2
      · exact hP k k1 k2
  · unfold swL
    have e1 : gI d j = d[j] := by have := gI_some h2; rw [List.getElem?_eq_getElem h2] at this; exact (Option.some.inj this).symm
    have e2 : gI d i = d[i] := by have := gI_some h1; rw [List.getElem?_eq_getElem h1] at this; exact (Option.some.inj this).symm
    rw [e1, e2]
    exact List.set_set_perm h1 h2
def SortOn (a b : Nat) (d : List Int) : Prop := ∀ p q, a ≤ p → p < q → q < b → gI d p ≤ gI d q
theorem SortOn.short {a b : Nat} (d : List Int) (h : b ≤ a + 1) : SortOn a b d := fun p q h1 h2 h3 => by omega
/-- the inner loop of the insertion: all but the place j is in order -/
def InsInv (a i j : Nat) (d : List Int) : Prop := ∀ p q, a ≤ p → p < q → q ≤ i → q ≠ j → gI d p ≤ gI d q
theorem InsInv.start {a i : Nat} {d : List Int} (h : SortOn a i d) : InsInv a i i d := fun p q h1 h2 h3 h4 => h p q h1 h2 (by omega)
theorem InsInv.step {a i j : Nat} {d : List Int} (h : InsInv a i j d) (hj : a < j) (hji : j ≤ i) (hi : i < d.length) (hl : gI d j < gI d (j - 1)) : InsInv a i (j - 1) (swL d j (j - 1)) := by
  intro p q h1 h2 h3 h4
  have e1 : j < d.length := by omega
  have e2 : j - 1 < d.length := by omega
  rw [gI_sw e1 e2, gI_sw e1 e2]
  rw [if_neg h4]
  by_cases hq : q = j
  · subst hq
    rw [if_pos rfl]
    by_cases hp : p = q - 1
    · rw [if_pos hp]; omega
    · rw [if_neg hp, if_neg (by omega)]
      exact h p (q - 1) h1 (by omega) (by omega) (by omega)
  · rw [if_neg hq]
    by_cases hp : p = j - 1
    · rw [if_pos hp]
      by_cases hjq : j < q
      · exact h j q (by omega) hjq h3 hq
      · omega
    · rw [if_neg hp]
      by_cases hp2 : p = j
      · rw [if_pos hp2]
        exact h (j - 1) q (by omega) (by omega) h3 hq
      · rw [if_neg hp2]
        exact h p q h1 h2 h3 hq
theorem InsInv.stop {a i j : Nat} {d : List Int} (h : InsInv a i j d) (hs : j ≤ a ∨ gI d (j - 1) ≤ gI d j) : SortOn a (i + 1) d := by
  intro p q h1 h2 h3
  by_cases hq : q = j
  · subst hq
    rcases hs with hs | hs
    · omega
    · by_cases hp : p = q - 1
      · rw [hp]; exact hs
      · exact Int.le_trans (h p (q - 1) h1 (by omega) (by omega) (by omega)) hs
  · exact h p q h1 h2 (by omega) hq

/-- while the block is parted by the number at a -/
structure PInv (a b i j : Nat) (d : List Int) : Prop where
  ai : a < i
  ij : i ≤ j + 1
  jb : j < b
  lo : ∀ p, a < p → p < i → gI d p ≤ gI d a
  hi : ∀ q, j < q → q < b → gI d a ≤ gI d q
theorem PInv.start {a b : Nat} {d : List Int} (h : a < b) : PInv a b (a + 1) (b - 1) d := ⟨by omega, by omega, by omega, fun p h1 h2 => by omega, fun q h1 h2 => by omega⟩
theorem PInv.istep {a b i j : Nat} {d : List Int} (h : PInv a b i j d) (hij : i ≤ j) (hl : gI d i < gI d a) : PInv a b (i + 1) j d :=
  ⟨by have := h.ai; omega, by omega, h.jb, fun p h1 h2 => by
    by_cases e : p = i
    · subst e; omega
    · exact h.lo p h1 (by omega), h.hi⟩
theorem PInv.jstep {a b i j : Nat} {d : List Int} (h : PInv a b i j d) (hij : i ≤ j) (hl : gI d a ≤ gI d j) : PInv a b i (j - 1) d := by
  have h1 := h.ai
  have h2 := h.jb
  exact ⟨h1, by omega, by omega, h.lo, fun q q1 q2 => by
    by_cases e : q = j
    · subst e; exact hl
    · exact h.hi q (by omega) q2⟩
theorem PInv.swap {a b i j : Nat} {d : List Int} (h : PInv a b i j d) (hb : b ≤ d.length) (hij : i ≤ j) (h1 : gI d a ≤ gI d i) (h2 : gI d j < gI d a) : PInv a b (i + 1) (j - 1) (swL d i j) := by
  have k1 := h.ai
  have k2 := h.jb
  have hne : i < j := by
    by_cases e : i = j
    · subst e; omega
    · omega
  have li : i < d.length := by omega
  have lj : j < d.length := by omega
  have ea : gI (swL d i j) a = gI d a := by rw [gI_sw li lj, if_neg (by omega), if_neg (by omega)]
  refine ⟨by omega, by omega, by omega, fun p p1 p2 => ?_, fun q q1 q2 => ?_⟩
  · rw [ea, gI_sw li lj, if_neg (by omega)]
    split
    · omega
    · exact h.lo p p1 (by omega)
  · rw [ea, gI_sw li lj]
    split
    · exact h1
    · rw [if_neg (by omega)]; exact h.hi q (by omega) q2
/-- parted at m -/
def Part (a b m : Nat) (d : List Int) : Prop := (∀ p, a ≤ p → p < m → gI d p ≤ gI d m) ∧ ∀ q, m < q → q < b → gI d m ≤ gI d q
theorem PInv.done {a b i j : Nat} {d : List Int} (h : PInv a b i j d) (hb : b ≤ d.length) (hij : j < i) : Part a b j (swL d j a) := by
  have k1 := h.ai
  have k2 := h.jb
  have k3 := h.ij
  have lj : j < d.length := by omega
  have la : a < d.length := by omega
  have ej : gI (swL d j a) j = gI d a := by
    rw [gI_sw lj la]
    by_cases e : j = a
    · subst e; rw [if_pos rfl]
    · rw [if_neg e, if_pos rfl]
  refine ⟨fun p p1 p2 => ?_, fun q q1 q2 => ?_⟩
  · rw [ej, gI_sw lj la]
    split
    · exact h.lo j (by omega) (by omega)
    · rw [if_neg (by omega)]; exact h.lo p (by omega) (by omega)
  · rw [ej, gI_sw lj la, if_neg (by omega), if_neg (by omega)]
    exact h.hi q q1 q2

/-! ### the block -/
def HoldI (w : World) (g o : Nat) (d : List Int) : Prop := ∃ cs T, Box w g cs T ∧ ∀ j, j < d.length → cs[o + j]? = some (.int .i64 (gI d j))
theorem HoldI.cell {w : World} {g o : Nat} {d : List Int} (h : HoldI w g o d) (j : Nat) (hj : j < d.length) : w.cell? ⟨g, o + j, none⟩ = some (.int .i64 (gI d j)) := by
  obtain ⟨cs, T, h1, h2⟩ := h
  exact h1.cell (h2 j hj)
theorem HoldI.free {w : World} {g o : Nat} {d : List Int} (h : HoldI w g o d) (j : Nat) : w.frozen? ⟨g, j, none⟩ = false := by
  obtain ⟨cs, T, h1, h2⟩ := h
  exact h1.free j
theorem HoldI.lt {w : World} {g o : Nat} {d : List Int} (h : HoldI w g o d) : g < w.heap.size := by
  obtain ⟨cs, T, h1, h2⟩ := h
  exact h1.lt
theorem HoldI.set {w : World} {g o : Nat} {d : List Int} (h : HoldI w g o d) {k : Nat} (hk : k < d.length) (c : Int) : HoldI (w.setCell ⟨g, o + k, none⟩ (.int .i64 c)) g o (d.set k c) := by
  obtain ⟨cs, T, h1, h2⟩ := h
  refine ⟨_, T, h1.set (o + k) _, fun j hj => ?_⟩
  rw [List.length_set] at hj
  rw [gI_set hk]
  by_cases e : j = k
  · subst e
    rw [if_pos rfl]
    have h3 := (Array.getElem?_eq_some_iff.1 (h2 j hj)).1
    rw [Array.getElem?_setIfInBounds_self]
    simp [h3]
  · rw [if_neg e, Array.getElem?_setIfInBounds_ne (by omega)]
    exact h2 j hj
theorem HoldI.drew {w : World} {g o : Nat} {d : List Int} (h : HoldI w g o d) : HoldI w.drew g o d := h
theorem HoldI.drewN {w : World} {g o : Nat} {d : List Int} (h : HoldI w g o d) (n : Nat) : HoldI (w.drewN n) g o d := h
theorem HoldI.sw {w : World} {g o : Nat} {d : List Int} (h : HoldI w g o d) {i j : Nat} (hi : i < d.length) (hj : j < d.length) : HoldI ((w.setCell ⟨g, o + i, none⟩ (.int .i64 (gI d j))).setCell ⟨g, o + j, none⟩ (.int .i64 (gI d i))) g o (swL d i j) :=
  (h.set hi _).set (by rw [List.length_set]; exact hj) _
/-- nothing but the block turns -/
abbrev Fr (g : Nat) (w w' : World) : Prop := Chg g (g + 1) w w'
theorem Fr.drewN {g : Nat} {w w' : World} (h : Fr g w w') (n : Nat) : Fr g w (w'.drewN n) := ⟨h.os, h.tape, h.output, h.size, h.block⟩
theorem Fr.sw {g : Nat} {w w' : World} (h : Fr g w w') (i j : Nat) (u v : Value) : Fr g w ((w'.setCell ⟨g, i, none⟩ u).setCell ⟨g, j, none⟩ v) := (h.trans (chg_set _ g i u)).trans (chg_set _ g j v)
structure ParSt (g o a b : Nat) (d0 : List Int) (w0 : World) (i j : Nat) (d : List Int) (w : World) : Prop where
  hold : HoldI w g o d
  pon : POn a b d0 d
  inv : PInv a b i j d
  fr : Fr g w0 w
theorem ParSt.drewN {g o a b i j : Nat} {d0 d : List Int} {w0 w : World} (h : ParSt g o a b d0 w0 i j d w) (n : Nat) : ParSt g o a b d0 w0 i j d (w.drewN n) := ⟨h.hold.drewN n, h.pon, h.inv, h.fr.drewN n⟩
end Go.Proofs.Ytdadmphmpojjhaa
