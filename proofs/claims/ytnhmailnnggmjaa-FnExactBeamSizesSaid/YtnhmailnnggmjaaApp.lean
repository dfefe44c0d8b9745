/- append onto a slice that the call owns, in the terms of Own. Plain lemmas, no program. -/
import Derived.Test.YtnhmailnnggmjaaRep
import Derived.Deep.AppendSrc
namespace Go.Proofs.Ytnhmailnnggmjaa
open Go.RowKit

theorem below_grown {B : Nat} {w w' : World} {r : Option Nat} (h : w.grownBy w' r) (hr : ∀ k, r = some k → B ≤ k) (hB : B ≤ w.heap.size) : Below B w w' :=
  (Below.refl B w).grown h hB hr

theorem flat_cells {α : Type} {E : Enc α} {w : World} {b off : Nat} {xs : List α} (h : Cells E w b off xs) : ∀ j u, (E.flat xs)[j]? = some u → w.cell? ⟨b, off + j, none⟩ = some u := by
  intro j u hu
  rw [E.flat_get'] at hu
  have hi : j / E.sz * E.sz + j % E.sz = j := by rw [Nat.mul_comm]; exact Nat.div_add_mod j E.sz
  cases hx : xs[j / E.sz]? with
  | none => rw [hx] at hu; cases hu
  | some x =>
    rw [hx] at hu
    have := h _ x hx _ u hu
    rwa [Nat.add_assoc, hi] at this

theorem wpList_appE {α : Type} {E : Enc α} {P : Program} {w : World} {ops : Array Oper} {rest : List Oper} {o : Oper} {a : Act} {Q : Exit → Act → World → Prop} (hgd : o.guard = none) (s x : Operand) (t : TypeId)
    (ho : o.op = .call { callee := .builtin .append, args := #[s, x], argTypes := #[t, t] })
    (B : Nat) (e : TypeId) (z : Value) (bytes : Nat) (hi : (P.info? e).map (fun i => (i.zero, i.size, i.bytes)) = some (some z, E.sz, bytes)) (ht : P.underlying t = some (.slice e)) (hzs : z.cells.size = E.sz)
    (v : Value) (xs : List α) (hs : a.eval s = v) (hown : Own E e B w v xs)
    (ad : Addr) (m c : Nat) (ys : List α) (hx : a.eval x = .slice (some ad) m c) (hm : m = ys.length) (hc : ∀ j u, (E.flat ys)[j]? = some u → w.cell? (ad.add j) = some u)
    (h63 : xs.length + ys.length ≤ maxLen) (hbytes : (xs.length + ys.length) * bytes ≤ 140737488355328) (hB : B ≤ w.heap.size)
    (h : ∀ v' w', Own E e B w' v' (xs ++ ys) → Below B w w' → wpList P ops Q rest (a.put o.dst v') w') : wpList P ops Q (o :: rest) a w := by
  obtain ⟨i, hi1, hz, hsz, hby⟩ := info_parts hi
  subst hm
  refine wpList_append_own w hgd s x t ho B e i z E.sz bytes ht hi1 hz hsz hby hzs E.pos v xs.length (E.flat xs) hs hown ad ys.length c (E.flat ys) hx (E.flat_len ys) hc (E.flat_one ys) h63 hbytes hB fun v' w' h2 h3 _ => h v' w' ?_ ?_
  · unfold Own
    rw [List.length_append, E.flat_append]
    exact h2
  · exact below_grown h3 (fun k hk => (World.ownsRow.lt hown k hk).1) hB

theorem Own.empty {α : Type} {E : Enc α} (e : TypeId) (w : World) {B : Nat} (hB : B ≤ w.heap.size) : Own E e B (w.alloc (.cells #[] e)) (.slice (some ⟨w.heap.size, 0, none⟩) 0 0) [] :=
  World.ownsRow_made w #[] 0 hB (by simp [maxLen]) (by simp)
theorem Own.nil {α : Type} {E : Enc α} (e : TypeId) (w : World) (B : Nat) : Own E e B w (.slice none 0 0) [] := ⟨by simp [Enc.flat_nil], .inl ⟨rfl, rfl⟩⟩
theorem setCells_stores (g : Nat) : ∀ (us : List Value) (w : World) (o : Nat), w.setCells g o us = storesAt w g o us
  | [], _, _ => rfl
  | _ :: us, _, _ => setCells_stores g us _ _

/-- an owned slice cut to its first m elements -/
theorem ownsRow_cut {w : World} {B : Nat} {e : TypeId} {sz g n cap m : Nat} {xs : List Value} (h : w.ownsRow B e sz (.slice (some ⟨g, 0, none⟩) n cap) n xs) (hm : m ≤ n) :
    w.ownsRow B e sz (.slice (some ⟨g, 0, none⟩) m cap) m (xs.take (m * sz)) := by
  obtain ⟨h1, h2⟩ := h
  rcases h2 with ⟨h2, _⟩ | ⟨g', cap', cur, hv, hB, hg, hnc, hcm, hcs, ht⟩
  · cases h2
  · simp only [Value.slice.injEq, Option.some.injEq, Addr.mk.injEq] at hv
    obtain ⟨⟨rfl, _⟩, _, rfl⟩ := hv
    have hmn : m * sz ≤ n * sz := Nat.mul_le_mul_right _ hm
    refine ⟨by rw [List.length_take, h1]; omega, .inr ⟨g, cap, cur, rfl, hB, hg, by omega, hcm, hcs, ?_⟩⟩
    rw [← ht, List.take_take, Nat.min_eq_left hmn]
end Go.Proofs.Ytnhmailnnggmjaa
