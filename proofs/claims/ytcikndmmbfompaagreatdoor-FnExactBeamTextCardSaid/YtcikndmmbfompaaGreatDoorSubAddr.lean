/- Slicings of an owned slice, and append that hands back no nil slice. Plain lemmas on the model, no program. -/
import Derived.Test.YtcikndmmbfompaaGreatDoorApp
import Derived.Test.YtcikndmmbfompaaGreatDoorCmp
import Derived.StillTailTactics
namespace Go.Proofs.YtcikndmmbfompaaGreatDoor
open Go.RowKit

/-- the elements from k on, where a slicing of an owned slice points -/
theorem sub_addr {α : Type} {E : Enc α} {w : World} {g n cap k : Nat} {xs : List α} (hc : Cells E w g 0 xs) (hn : n = xs.length) (hnc : n ≤ cap) (hk : k ≤ n) :
    ∃ A : Addr, (if cap = k then some (⟨g, 0, none⟩ : Addr) else some ⟨g, k * E.sz, none⟩) = some A ∧ A.block = g ∧ ∀ w' : World, (∀ o, w'.cell? ⟨g, o, none⟩ = w.cell? ⟨g, o, none⟩) → ∀ j u, (E.flat (xs.drop k))[j]? = some u → w'.cell? (A.add j) = some u := by
  by_cases h : cap = k
  · refine ⟨⟨g, 0, none⟩, by simp [h], rfl, fun w' hw j u hu => ?_⟩
    rw [List.drop_of_length_le (by omega)] at hu
    simp [Enc.flat_nil] at hu
  · refine ⟨⟨g, k * E.sz, none⟩, by simp [h], rfl, fun w' hw j u hu => ?_⟩
    rw [Addr.add_lit, hw]
    have h1 := flat_cells hc (k * E.sz + j) u
    rw [Nat.zero_add] at h1
    refine h1 ?_
    have hsp : E.flat xs = E.flat (xs.take k) ++ E.flat (xs.drop k) := by rw [← E.flat_append, List.take_append_drop]
    have hl1 : (E.flat (xs.take k)).length = k * E.sz := by rw [E.flat_len, List.length_take, Nat.min_eq_left (by omega)]
    rw [hsp, List.getElem?_append_right (by omega), hl1]
    rw [← hu]; congr 1; omega

theorem wpList_appN {α : Type} {E : Enc α} {P : Program} {w : World} {ops : Array Oper} {rest : List Oper} {o : Oper} {a : Act} {Q : Exit → Act → World → Prop} (hgd : o.guard = none) (s x : Operand) (t : TypeId)
    (ho : o.op = .call { callee := .builtin .append, args := #[s, x], argTypes := #[t, t] })
    (B : Nat) (e : TypeId) (z : Value) (bytes : Nat) (hi : (P.info? e).map (fun i => (i.zero, i.size, i.bytes)) = some (some z, E.sz, bytes)) (ht : P.underlying t = some (.slice e)) (hzs : z.cells.size = E.sz)
    (g n cap : Nat) (xs : List α) (hs : a.eval s = .slice (some ⟨g, 0, none⟩) n cap) (hown : Own E e B w (.slice (some ⟨g, 0, none⟩) n cap) xs)
    (ad : Addr) (m c : Nat) (ys : List α) (hx : a.eval x = .slice (some ad) m c) (hm : m = ys.length) (hc : ∀ j u, (E.flat ys)[j]? = some u → w.cell? (ad.add j) = some u)
    (h63 : xs.length + ys.length ≤ maxLen) (hbytes : (xs.length + ys.length) * bytes ≤ 140737488355328) (hB : B ≤ w.heap.size)
    (h : ∀ g' cap' w', Own E e B w' (.slice (some ⟨g', 0, none⟩) (xs ++ ys).length cap') (xs ++ ys) → Below B w w' → (xs ++ ys).length ≤ cap' → wpList P ops Q rest (a.put o.dst (.slice (some ⟨g', 0, none⟩) (xs ++ ys).length cap')) w') : wpList P ops Q (o :: rest) a w := by
  obtain ⟨i, hi1, hz, hsz, hby⟩ := info_parts hi
  subst hm
  refine wpList_append_own w hgd s x t ho B e i z E.sz bytes ht hi1 hz hsz hby hzs E.pos (.slice (some ⟨g, 0, none⟩) n cap) xs.length (E.flat xs) hs hown ad ys.length c (E.flat ys) hx (E.flat_len ys) hc (E.flat_one ys) h63 hbytes hB fun v' w' h2 h3 h4 => ?_
  have h5 : Own E e B w' v' (xs ++ ys) := by
    unfold Own
    rw [List.length_append, E.flat_append]
    exact h2
  rcases h5.shape with ⟨h6, _⟩ | ⟨g', cap', rfl, _, _⟩
  · have := (h4.1 h6).1
    cases this
  · refine h g' cap' w' h5 (below_grown h3 (fun k hk => (World.ownsRow.lt hown k hk).1) hB) ?_
    obtain ⟨_, _, _, _, hv, hl, _⟩ := h5.arr
    simp only [Value.slice.injEq] at hv
    obtain ⟨_, _, rfl⟩ := hv
    exact hl

theorem wpList_appM {α : Type} {E : Enc α} {P : Program} {w : World} {ops : Array Oper} {rest : List Oper} {o : Oper} {a : Act} {Q : Exit → Act → World → Prop} (hgd : o.guard = none) (s x : Operand) (t : TypeId)
    (ho : o.op = .call { callee := .builtin .append, args := #[s, x], argTypes := #[t, t] })
    (B : Nat) (e : TypeId) (z : Value) (bytes : Nat) (hi : (P.info? e).map (fun i => (i.zero, i.size, i.bytes)) = some (some z, E.sz, bytes)) (ht : P.underlying t = some (.slice e)) (hzs : z.cells.size = E.sz)
    (g n cap : Nat) (xs : List α) (hs : a.eval s = .slice (some ⟨g, 0, none⟩) n cap) (hown : Own E e B w (.slice (some ⟨g, 0, none⟩) n cap) xs)
    (ad : Addr) (m c : Nat) (ys : List α) (hx : a.eval x = .slice (some ad) m c) (hm : m = ys.length) (hc : ∀ j u, (E.flat ys)[j]? = some u → w.cell? (ad.add j) = some u)
    (N : Nat) (hN : N = xs.length + ys.length) (h63 : N ≤ maxLen) (hbytes : N * bytes ≤ 140737488355328) (hB : B ≤ w.heap.size)
    (h : ∀ g' cap' w', Own E e B w' (.slice (some ⟨g', 0, none⟩) N cap') (xs ++ ys) → Below B w w' → N ≤ cap' → wpList P ops Q rest (a.put o.dst (.slice (some ⟨g', 0, none⟩) N cap')) w') : wpList P ops Q (o :: rest) a w := by
  subst hN
  refine wpList_appN hgd s x t ho B e z bytes hi ht hzs g n cap xs hs hown ad m c ys hx hm hc h63 hbytes hB ?_
  simp only [List.length_append]
  exact h

theorem cell_eqN {w w2 : World} {n : Nat} (h : w2 = w.drewN n) {a : Addr} {v : Value} (hc : w.cell? a = some v) : w2.cell? a = some v := by subst h; exact hc
end Go.Proofs.YtcikndmmbfompaaGreatDoor
