/- Copies of rows of cells, and what an owned slice holds after an element has been put in its midst. Plain lemmas on the model, no program. -/
import Derived.Test.YthooeaappnkjgaaApp
import Derived.Shelf.Spec.SlicesInsertGrow
namespace Go.Proofs.Ythooeaappnkjgaa
open Go.RowKit Go.Lib

theorem run_copy_cellsK {P : Program} (w : World) (dT sT ty elem : TypeId) (sz : Nat) (b o dLen dCap : Nat) (a : Addr) (sLen sCap m : Nat) (cs : List Value)
    (hu : P.underlying dT = some (.slice elem)) (hs : (P.info? elem).map (·.size) = some sz) (hm : Nat.min sLen dLen = m) (hn : cs.length = m * sz)
    (hsrc : ∀ j v, cs[j]? = some v → w.cell? (a.add j) = some v) (hc : ∀ j, j < cs.length → (w.cell? ⟨b, o + j, none⟩).isSome = true) (hf : ∀ j, j < cs.length → w.frozen? ⟨b, o + j, none⟩ = false) (h1 : ∀ v ∈ cs, v.oneCell' = true) :
    (Builtin.copy_ #[dT, sT] ty #[.slice (some ⟨b, o, none⟩) dLen dCap, .slice (some a) sLen sCap]).run P w = .ok (goInt m) (w.setCells b o cs) := by
  have hl := run_loadCells_list (P := P) w a cs hsrc
  have hst := run_storeCells_cells (P := P) b o cs 0 w (by simpa using hc) (by simpa using hf) h1
  rw [hn] at hl
  cases hq : P.info? elem with
  | none => simp [hq] at hs
  | some i =>
    have hi : i.size = sz := by simpa [hq] using hs
    simp [Builtin.copy_, run_underlying hu, Builtin.lenOf, Builtin.firstCells, sizeOf, typeInfo, hq, hi, hm, hl, hst]

def insL {α : Type} (x : List α) (k : Nat) (e : α) : List α := x.take k ++ e :: x.drop k
theorem insL_len {α : Type} (x : List α) (k : Nat) (e : α) : (insL x k e).length = x.length + 1 := by simp [insL]; omega
theorem flat_insL {α : Type} (E : Enc α) (x : List α) (k : Nat) (e : α) : E.flat (insL x k e) = E.flat (x.take k) ++ (E.row e ++ E.flat (x.drop k)) := by
  unfold insL; rw [E.flat_append, E.flat_cons]
theorem flat_take_len {α : Type} (E : Enc α) {x : List α} {k : Nat} (hk : k ≤ x.length) : (E.flat (x.take k)).length = k * E.sz := by rw [E.flat_len, List.length_take, Nat.min_eq_left hk]
/-- a row in which the element and what follows it are laid holds the list with the element in its midst -/
theorem row_ins {α : Type} (E : Enc α) {x : List α} {k : Nat} (e : α) (hk : k ≤ x.length) {l : List Value} (hl : l.length = (x.length + 1) * E.sz) (h0 : ∀ i, i < k * E.sz → l[i]? = (E.flat (x.take k))[i]?)
    {r : List Value} (hr : ∀ i, r[i]? = if k * E.sz ≤ i ∧ i < k * E.sz + E.sz then (E.row e)[i - k * E.sz]? else if k * E.sz + E.sz ≤ i ∧ i < (x.length + 1) * E.sz then (E.flat (x.drop k))[i - (k * E.sz + E.sz)]? else l[i]?) : r = E.flat (insL x k e) := by
  have h1 := flat_take_len E hk
  have h2 : (x.length + 1) * E.sz = x.length * E.sz + E.sz := by rw [Nat.add_mul, Nat.one_mul]
  have h3 : k * E.sz ≤ x.length * E.sz := Nat.mul_le_mul_right _ hk
  have h4 : (E.flat (x.drop k)).length = x.length * E.sz - k * E.sz := by rw [E.flat_len, List.length_drop, Nat.sub_mul]
  refine List.ext_getElem? fun i => ?_
  rw [hr, flat_insL]
  by_cases a : i < k * E.sz
  · rw [if_neg (by omega), if_neg (by omega), List.getElem?_append_left (by omega), h0 i a]
  · rw [List.getElem?_append_right (by omega), h1]
    by_cases b : i < k * E.sz + E.sz
    · rw [if_pos ⟨by omega, b⟩, List.getElem?_append_left (by rw [E.len]; omega)]
    · rw [if_neg (by omega), List.getElem?_append_right (by rw [E.len]; omega), E.len]
      by_cases c : i < (x.length + 1) * E.sz
      · rw [if_pos ⟨by omega, c⟩]; congr 1; omega
      · rw [if_neg (by omega), List.getElem?_eq_none (by omega), List.getElem?_eq_none (by omega)]
/-- one element more room -/
theorem ownsRow_wide {w : World} {B : Nat} {e : TypeId} {sz g n cap : Nat} {xs : List Value} (h : w.ownsRow B e sz (.slice (some ⟨g, 0, none⟩) n cap) n xs) (hc : n + 1 ≤ cap) : ∃ ys, w.ownsRow B e sz (.slice (some ⟨g, 0, none⟩) (n + 1) cap) (n + 1) ys ∧ ys.length = (n + 1) * sz ∧ ∀ i, i < n * sz → ys[i]? = xs[i]? := by
  obtain ⟨h1, h2⟩ := h
  rcases h2 with ⟨h0, _⟩ | ⟨g', cap', cur, hv, hg, hb, hn, hm, hs, ht⟩
  · cases h0
  cases hv
  have hle : (n + 1) * sz ≤ cap * sz := Nat.mul_le_mul_right _ hc
  have hlen : (cur.toList.take ((n + 1) * sz)).length = (n + 1) * sz := by rw [List.length_take, Array.length_toList, hs]; omega
  refine ⟨cur.toList.take ((n + 1) * sz), ⟨hlen, .inr ⟨g, cap, cur, rfl, hg, hb, hc, hm, hs, rfl⟩⟩, hlen, fun i hi => ?_⟩
  have h3 : n * sz ≤ (n + 1) * sz := Nat.mul_le_mul_right _ (Nat.le_succ n)
  rw [← ht, List.getElem?_take_of_lt (by omega), List.getElem?_take_of_lt hi]
theorem ownsRow_drew {w : World} {B : Nat} {e : TypeId} {sz n : Nat} {v : Value} {xs : List Value} (h : w.ownsRow B e sz v n xs) : w.drew.ownsRow B e sz v n xs := h
/-- what follows goes one place on, then the element is laid -/
theorem ins_room {α : Type} {E : Enc α} {e : TypeId} {B g n cap k : Nat} {w w1 w2 : World} {x : List α} (a : α) (h : Own E e B w (.slice (some ⟨g, 0, none⟩) n cap) x) (hn : n = x.length) (hk : k ≤ n) (hc : n + 1 ≤ cap)
    (h1 : w1 = storesAt w.drew g (k * E.sz + E.sz) (E.flat (x.drop k))) (h2 : w2 = storesAt w1 g (k * E.sz) (E.row a)) : Own E e B w2 (.slice (some ⟨g, 0, none⟩) (n + 1) cap) (insL x k a) ∧ w.grownBy w2 (some g) := by
  subst hn
  obtain ⟨ys, ho, hyl, hys⟩ := ownsRow_wide h hc
  have s1 := ownsRow_stores (E.flat (x.drop k)) (k * E.sz + E.sz) (ownsRow_drew ho)
  rw [← h1] at s1
  have s2 := ownsRow_stores (E.row a) (k * E.sz) s1.1
  rw [← h2] at s2
  have hle : k * E.sz ≤ x.length * E.sz := Nat.mul_le_mul_right _ hk
  have hl2 : (x.length + 1) * E.sz = x.length * E.sz + E.sz := by rw [Nat.add_mul, Nat.one_mul]
  have hdl : (E.flat (x.drop k)).length = x.length * E.sz - k * E.sz := by rw [E.flat_len, List.length_drop, Nat.sub_mul]
  have hsl : (setFrom ys (k * E.sz + E.sz) (E.flat (x.drop k))).length = ys.length := by
    refine Nat.le_antisymm ?_ ?_
    · refine Nat.not_lt.1 fun hh => ?_
      have := setFrom_get (E.flat (x.drop k)) ys (k * E.sz + E.sz) ys.length
      rw [if_neg (by omega), List.getElem?_eq_none (Nat.le_refl _)] at this
      rw [List.getElem?_eq_getElem hh] at this; cases this
    · refine Nat.not_lt.1 fun hh => ?_
      have := setFrom_get (E.flat (x.drop k)) ys (k * E.sz + E.sz) (setFrom ys (k * E.sz + E.sz) (E.flat (x.drop k))).length
      rw [List.getElem?_eq_none (Nat.le_refl _)] at this
      split at this
      · rename_i hc
        rw [List.getElem?_eq_getElem (by omega)] at this; cases this
      · rw [List.getElem?_eq_getElem hh] at this; cases this
  have hrow : setFrom (setFrom ys (k * E.sz + E.sz) (E.flat (x.drop k))) (k * E.sz) (E.row a) = E.flat (insL x k a) := by
    refine row_ins E a hk hyl (fun i hi => ?_) fun i => ?_
    · rw [hys i (by omega)]
      have e1 : E.flat x = E.flat (x.take k) ++ E.flat (x.drop k) := by rw [← E.flat_append, List.take_append_drop]
      rw [e1, List.getElem?_append_left (by rw [flat_take_len E hk]; exact hi)]
    · rw [setFrom_get, setFrom_get, hsl, E.len, hyl, hdl]
      by_cases a1 : k * E.sz ≤ i ∧ i < k * E.sz + E.sz
      · rw [if_pos ⟨a1.1, a1.2, by omega⟩, if_pos a1]
      · rw [if_neg (by omega), if_neg a1]
        by_cases a2 : k * E.sz + E.sz ≤ i ∧ i < (x.length + 1) * E.sz
        · rw [if_pos ⟨a2.1, by omega, a2.2⟩, if_pos a2]
        · rw [if_neg (by omega), if_neg a2]
  refine ⟨?_, ⟨s2.2.os.trans s1.2.os, s2.2.tape.trans s1.2.tape, s2.2.output.trans s1.2.output, Nat.le_trans s1.2.size s2.2.size, fun j hj hne => (s2.2.block j (Nat.lt_of_lt_of_le hj s1.2.size) hne).trans (s1.2.block j hj hne)⟩⟩
  have := s2.1
  rw [hrow] at this
  unfold Own
  rw [insL_len]
  exact this
/-- a new row: the element is laid, then what follows -/
theorem ins_grow {α : Type} {E : Enc α} {e : TypeId} {B g n cap k : Nat} {w w1 w2 : World} {x : List α} {ys : List Value} (a : α) (h : w.ownsRow B e E.sz (.slice (some ⟨g, 0, none⟩) (n + 1) cap) (n + 1) ys) (hn : n = x.length) (hk : k ≤ n) (hys : ∀ i, i < k * E.sz → ys[i]? = (E.flat (x.take k))[i]?)
    (h1 : w1 = storesAt w g (k * E.sz) (E.row a)) (h2 : w2 = storesAt w1.drew g (k * E.sz + E.sz) (E.flat (x.drop k))) : Own E e B w2 (.slice (some ⟨g, 0, none⟩) (n + 1) cap) (insL x k a) ∧ w.grownBy w2 (some g) := by
  subst hn
  have hyl := h.1
  have s1 := ownsRow_stores (E.row a) (k * E.sz) h
  rw [← h1] at s1
  have s2 := ownsRow_stores (E.flat (x.drop k)) (k * E.sz + E.sz) (ownsRow_drew s1.1)
  rw [← h2] at s2
  have hle : k * E.sz ≤ x.length * E.sz := Nat.mul_le_mul_right _ hk
  have hl2 : (x.length + 1) * E.sz = x.length * E.sz + E.sz := by rw [Nat.add_mul, Nat.one_mul]
  have hdl : (E.flat (x.drop k)).length = x.length * E.sz - k * E.sz := by rw [E.flat_len, List.length_drop, Nat.sub_mul]
  have hsl : (setFrom ys (k * E.sz) (E.row a)).length = ys.length := by rw [s1.1.1, hyl]
  have hrow : setFrom (setFrom ys (k * E.sz) (E.row a)) (k * E.sz + E.sz) (E.flat (x.drop k)) = E.flat (insL x k a) := by
    refine row_ins E a hk hyl hys fun i => ?_
    rw [setFrom_get, setFrom_get, hsl, E.len, hyl, hdl]
    by_cases a1 : k * E.sz ≤ i ∧ i < k * E.sz + E.sz
    · rw [if_neg (by omega), if_pos ⟨a1.1, a1.2, by omega⟩, if_pos a1]
    · rw [if_neg a1]
      by_cases a2 : k * E.sz + E.sz ≤ i ∧ i < (x.length + 1) * E.sz
      · rw [if_pos ⟨a2.1, by omega, a2.2⟩, if_pos a2]
      · rw [if_neg (by omega), if_neg a2, if_neg (by omega)]
  refine ⟨?_, ⟨s2.2.os.trans s1.2.os, s2.2.tape.trans s1.2.tape, s2.2.output.trans s1.2.output, Nat.le_trans s1.2.size s2.2.size, fun j hj hne => (s2.2.block j (Nat.lt_of_lt_of_le hj s1.2.size) hne).trans (s1.2.block j hj hne)⟩⟩
  have := s2.1
  rw [hrow] at this
  unfold Own
  rw [insL_len]
  exact this
end Go.Proofs.Ythooeaappnkjgaa
