/- What the arguments hold: a value that can be read as data, told by its cells. Plain lemmas, no program. -/
import Derived.Test.YtlnoelbeaolikaaGreatBase
import Derived.ProofKit
import Derived.Deep.Slices
namespace Go.Proofs.YtlnoelbeaolikaaGreat
open Go.ChangeShapes Go.WideShapes Go.ChangeAt Go.RowKit Go.Deep

/-- the cells cs can be read as a value of type t -/
def Rd (P : Program) (w : World) (t : TypeId) (cs : List Value) : Prop :=
  ∃ (H : Type) (enc : TypeId × Value → H) (base : Nat) (spare : Nat → Bool) (held : Bool) (fuel : Nat) (x : DataW H × List MemPlace), DataW.trod enc P w base spare held fuel t cs = some x

theorem rd_of_trod {H : Type} {enc : TypeId × Value → H} {P : Program} {w : World} {base : Nat} {spare : Nat → Bool} {held : Bool} {t : TypeId} {v : Value} {d : DataW H} {ps : List MemPlace}
    (h : DataW.Trod enc P w base spare held t v d ps) : Rd P w t v.cells.toList := by
  obtain ⟨fuel, h⟩ := h
  exact ⟨_, _, _, _, _, _, _, h⟩

theorem rd_int {P : Program} {w : World} {t : TypeId} {cs : List Value} {k : IntKind} (ht : P.underlying t = some (.int k)) (h : Rd P w t cs) : ∃ n, cs = [.int k n] ∧ (Lit.int k n).wf = true := by
  obtain ⟨_, _, _, _, _, _, _, h⟩ := h
  obtain ⟨n, h1, _, h2⟩ := DataW.trod_int ht h
  exact ⟨n, h1, h2⟩

theorem rd_string {P : Program} {w : World} {t : TypeId} {cs : List Value} (ht : P.underlying t = some .string) (h : Rd P w t cs) : ∃ s : ByteArray, cs = [.string s] ∧ s.size ≤ maxLen := by
  obtain ⟨_, _, _, _, _, _, _, h⟩ := h
  obtain ⟨n, h1, _, h2⟩ := DataW.trod_string ht h
  exact ⟨n, h1, h2⟩

theorem rd_struct {P : Program} {w : World} {t : TypeId} {cs : List Value} {fs : Array Field} (ht : P.underlying t = some (.struct fs)) (h : Rd P w t cs) :
    cs.length = P.cellsOf t ∧ ∀ (i : Nat) (f : Field), fs[i]? = some f → Rd P w f.type ((cs.drop f.offset).take (P.cellsOf f.type)) := by
  obtain ⟨_, _, _, _, _, _, _, h⟩ := h
  obtain ⟨xs, n, _, _, hl, hlen, hf⟩ := DataW.trod_struct ht h
  refine ⟨hl, fun i f hi => ?_⟩
  have hi' : i < xs.length := by
    have := (Array.getElem?_eq_some_iff.1 hi).1
    simpa [hlen] using this
  obtain ⟨y, hy⟩ : ∃ y, xs[i]? = some y := ⟨_, List.getElem?_eq_getElem hi'⟩
  exact ⟨_, _, _, _, _, _, _, (hf i f hi).trans hy⟩

/-- elements told by a relation -/
def ArrR {α : Type} (R : World → List Value → α → Prop) (sz : Nat) (w : World) (v : Value) (xs : List α) : Prop :=
  ∃ b off ao cap, v = .slice ao xs.length cap ∧ xs.length ≤ cap ∧ cap ≤ maxLen ∧ (0 < xs.length → ao = some ⟨b, off, none⟩ ∧ b < w.heap.size) ∧
    ∀ k x, xs[k]? = some x → ∃ cs : List Value, cs.length = sz ∧ R w cs x ∧ ∀ j u, cs[j]? = some u → w.cell? ⟨b, off + k * sz + j, none⟩ = some u

theorem addr_add (b off i : Nat) : (⟨b, off, none⟩ : Addr).add i = ⟨b, off + i, none⟩ := Addr.add_lit b off i

theorem cells_get {w : World} {base : Nat} {a : Addr} {n : Nat} {cs : List Value} (h : w.cells? base a n = some cs) : cs.length = n ∧ ∀ j u, cs[j]? = some u → w.cell? (a.add j) = some u := by
  unfold World.cells? at h
  split at h
  · have hl := mapM_some_length h
    rw [List.length_range] at hl
    refine ⟨hl, fun j u hu => ?_⟩
    have hj : j < n := by rw [← hl]; exact (List.getElem?_eq_some_iff.1 hu).1
    have := mapM_some_get h j j (by simp [hj])
    exact this.trans hu
  · cases h

theorem list_of_lt {α : Type} {p : Nat → α → Prop} : ∀ (n : Nat), (∀ i, i < n → ∃ x, p i x) → ∃ xs : List α, xs.length = n ∧ ∀ i x, xs[i]? = some x → p i x
  | 0, _ => ⟨[], rfl, by simp⟩
  | n + 1, h => by
    obtain ⟨xs, hl, hx⟩ := list_of_lt n fun i hi => h i (by omega)
    obtain ⟨y, hy⟩ := h n (by omega)
    refine ⟨xs ++ [y], by simp [hl], fun i x hi => ?_⟩
    by_cases e : i < xs.length
    · rw [List.getElem?_append_left e] at hi; exact hx i x hi
    · have hlt := (List.getElem?_eq_some_iff.1 hi).1
      simp at hlt
      have e2 : i = xs.length := by omega
      subst e2
      simp at hi
      subst hi; rw [hl]; exact hy

theorem rd_slice {α : Type} {P : Program} {w : World} {t e : TypeId} {v : Value} {sz : Nat} {R : World → List Value → α → Prop} (ht : P.underlying t = some (.slice e)) (hC : P.cellsOf e = sz) (hs : 0 < sz)
    (dec : ∀ cs, Rd P w e cs → ∃ x, R w cs x) (h : Rd P w t [v]) : ∃ xs, ArrR R sz w v xs := by
  obtain ⟨_, _, _, _, _, _, _, h⟩ := h
  rcases open_slice ht h with ⟨h0, _⟩ | ⟨a, len, cap, m, n, D, Pl, hv, hb, hl, hm, hmm, _, hx⟩
  · simp at h0; subst h0
    exact ⟨[], 0, 0, none, 0, rfl, Nat.le_refl _, by simp [maxLen], by simp, by simp⟩
  · simp at hv; subst hv
    have hlm : len ≤ m := by rw [hmm]; split <;> omega
    have each : ∀ i, i < len → ∃ (x : α) (cs : List Value), cs.length = sz ∧ R w cs x ∧ ∀ j u, cs[j]? = some u → w.cell? ((a.add (i * sz)).add j) = some u := by
      intro i hi
      obtain ⟨cs, h1, h2⟩ := hx i (by omega)
      rw [hC] at h1
      obtain ⟨x, hR⟩ := dec cs ⟨_, _, _, _, _, _, _, h2⟩
      exact ⟨x, cs, (cells_get h1).1, hR, (cells_get h1).2⟩
    obtain ⟨xs, hxl, hxs⟩ := list_of_lt len each
    by_cases h0 : len = 0
    · have : xs = [] := List.length_eq_zero_iff.1 (by omega)
      subst this
      exact ⟨[], 0, 0, some a, cap, by simp [h0], by simp, hm, by simp, by simp⟩
    · obtain ⟨b, off, spot⟩ := a
      obtain ⟨_, cs0, hc0, _, hc⟩ := each 0 (by omega)
      obtain ⟨u0, hu0⟩ : ∃ u, cs0[0]? = some u := ⟨_, List.getElem?_eq_getElem (by omega)⟩
      have hcell := hc 0 u0 hu0
      have hspot : spot = none := by simpa [Addr.add] using World.cell?_spot hcell
      subst hspot
      have hlt : b < w.heap.size := by
        have := World.block_lt_of_cell? w _ hcell
        simpa [Addr.add] using this
      refine ⟨xs, b, off, some ⟨b, off, none⟩, cap, by rw [hxl], by omega, hm, fun _ => ⟨rfl, hlt⟩, fun k x hx => ?_⟩
      obtain ⟨cs, h1, h2, h3⟩ := hxs k x hx
      refine ⟨cs, h1, h2, fun j u hu => ?_⟩
      have := h3 j u hu
      rwa [addr_add, addr_add] at this

theorem ArrR.arr {α : Type} {E : Enc α} {good : α → Prop} {w : World} {v : Value} {xs : List α} (h : ArrR (fun _ cs x => cs = E.row x ∧ good x) E.sz w v xs) : Arr E w v xs ∧ ∀ x ∈ xs, good x := by
  obtain ⟨b, off, ao, cap, hv, h1, h2, h3, h4⟩ := h
  refine ⟨⟨b, off, ao, cap, hv, h1, h2, h3, fun k x hx j u hu => ?_⟩, fun x hx => ?_⟩
  · obtain ⟨cs, _, ⟨rfl, _⟩, h5⟩ := h4 k x hx
    exact h5 j u hu
  · obtain ⟨k, hk⟩ := List.mem_iff_getElem?.1 hx
    obtain ⟨cs, _, ⟨_, hg⟩, _⟩ := h4 k x hk
    exact hg
end Go.Proofs.YtlnoelbeaolikaaGreat
