/- append onto a slice that the call owns, in the terms of Own. Plain lemmas, no program. -/
import Derived.Test.YtlnoelbeaolikaaGreatRep
import Derived.Deep.AppendSrc
namespace Go.Proofs.YtlnoelbeaolikaaGreat
open Go.RowKit

theorem below_grown {B : Nat} {w w' : World} {r : Option Nat} (h : w.grownBy w' r) (hr : ∀ k, r = some k → B ≤ k) (hB : B ≤ w.heap.size) : Below B w w' :=
  (Below.refl B w).grown h hB hr

theorem flat_cells {α : Type} {E : Enc α} {w : World} {b off : Nat} {xs : List α} (h : Cells E w b off xs) : ∀ j u, (E.flat xs)[j]? = some u → w.cell? ⟨b, off + j, none⟩ = some u := by
  intro j u hu
  rw [E.flat_get'] at hu
  have hi : j / E.sz * E.sz + j % E.sz = j := by rw [Nat.mul_comm]; exact Nat.div_add_mod j E.sz
  cases hx : xs[j / E.sz]? with
  | none => rw [hx] at hu; cases hu
  | some x =>
    rw [hx] at hu
    have := h _ x hx _ u hu
    rwa [Nat.add_assoc, hi] at this

theorem wpList_appE {α : Type} {E : Enc α} {P : Program} {w : World} {ops : Array Oper} {rest : List Oper} {o : Oper} {a : Act} {Q : Exit → Act → World → Prop} (hgd : o.guard = none) (s x : Operand) (t : TypeId)
    (ho : o.op = .call { callee := .builtin .append, args := #[s, x], argTypes := #[t, t] })
    (B : Nat) (e : TypeId) (z : Value) (bytes : Nat) (hi : (P.info? e).map (fun i => (i.zero, i.size, i.bytes)) = some (some z, E.sz, bytes)) (ht : P.underlying t = some (.slice e)) (hzs : z.cells.size = E.sz)
    (v : Value) (xs : List α) (hs : a.eval s = v) (hown : Own E e B w v xs)
    (ad : Addr) (m c : Nat) (ys : List α) (hx : a.eval x = .slice (some ad) m c) (hm : m = ys.length) (hc : ∀ j u, (E.flat ys)[j]? = some u → w.cell? (ad.add j) = some u)
    (h63 : xs.length + ys.length ≤ maxLen) (hbytes : (xs.length + ys.length) * bytes ≤ 140737488355328) (hB : B ≤ w.heap.size)
    (h : ∀ v' w', Own E e B w' v' (xs ++ ys) → Below B w w' → wpList P ops Q rest (a.put o.dst v') w') : wpList P ops Q (o :: rest) a w := by
  obtain ⟨i, hi1, hz, hsz, hby⟩ := info_parts hi
  subst hm
  refine wpList_append_own w hgd s x t ho B e i z E.sz bytes ht hi1 hz hsz hby hzs E.pos v xs.length (E.flat xs) hs hown ad ys.length c (E.flat ys) hx (E.flat_len ys) hc (E.flat_one ys) h63 hbytes hB fun v' w' h2 h3 _ => h v' w' ?_ ?_
  · unfold Own
    rw [List.length_append, E.flat_append]
    exact h2
  · exact below_grown h3 (fun k hk => (World.ownsRow.lt hown k hk).1) hB

theorem Own.empty {α : Type} {E : Enc α} (e : TypeId) (w : World) {B : Nat} (hB : B ≤ w.heap.size) : Own E e B (w.alloc (.cells #[] e)) (.slice (some ⟨w.heap.size, 0, none⟩) 0 0) [] :=
  World.ownsRow_made w #[] 0 hB (by simp [maxLen]) (by simp)
theorem Own.nil {α : Type} {E : Enc α} (e : TypeId) (w : World) (B : Nat) : Own E e B w (.slice none 0 0) [] := ⟨by simp [Enc.flat_nil], .inl ⟨rfl, rfl⟩⟩
theorem setCells_stores (g : Nat) : ∀ (us : List Value) (w : World) (o : Nat), w.setCells g o us = storesAt w g o us
  | [], _, _ => rfl
  | _ :: us, _, _ => setCells_stores g us _ _

/-- an owned slice cut to its first m elements -/
theorem ownsRow_cut {w : World} {B : Nat} {e : TypeId} {sz g n cap m : Nat} {xs : List Value} (h : w.ownsRow B e sz (.slice (some ⟨g, 0, none⟩) n cap) n xs) (hm : m ≤ n) :
    w.ownsRow B e sz (.slice (some ⟨g, 0, none⟩) m cap) m (xs.take (m * sz)) := by
  obtain ⟨h1, h2⟩ := h
  rcases h2 with ⟨h2, _⟩ | ⟨g', cap', cur, hv, hB, hg, hnc, hcm, hcs, ht⟩
  · cases h2
  · simp only [Value.slice.injEq, Option.some.injEq, Addr.mk.injEq] at hv
    obtain ⟨⟨rfl, _⟩, _, rfl⟩ := hv
    have hmn : m * sz ≤ n * sz := Nat.mul_le_mul_right _ hm
    refine ⟨by rw [List.length_take, h1]; omega, .inr ⟨g, cap, cur, rfl, hB, hg, by omega, hcm, hcs, ?_⟩⟩
    rw [← ht, List.take_take, Nat.min_eq_left hmn]
end Go.Proofs.YtlnoelbeaolikaaGreat
namespace Go.Proofs.YtlnoelbeaolikaaGreat
open Go.RowKit

theorem own_typed {α : Type} {E : Enc α} {e : TypeId} {B : Nat} {w w' : World} {v : Value} {xs : List α} (h : Own E e B w v xs) (hg : w.grownBy w' v.ownBlock) : Typed (fun T => T == e) w w' := by
  intro k c T f hk hT
  refine (hg.block k (Array.getElem?_eq_some_iff.1 hk).1 ?_).trans hk
  intro hkg
  rcases h.2 with ⟨hv, _⟩ | ⟨g, cap, cur, hv, _, hgg, _⟩
  · subst hv; simp [Value.ownBlock] at hkg
  · subst hv
    simp [Value.ownBlock] at hkg
    subst hkg
    rw [hgg] at hk
    simp at hk
    simp [hk.2.1] at hT

theorem wpList_appT {α : Type} {E : Enc α} {P : Program} {w : World} {ops : Array Oper} {rest : List Oper} {o : Oper} {a : Act} {Q : Exit → Act → World → Prop} (hgd : o.guard = none) (s x : Operand) (t : TypeId)
    (ho : o.op = .call { callee := .builtin .append, args := #[s, x], argTypes := #[t, t] })
    (B : Nat) (e : TypeId) (z : Value) (bytes : Nat) (hi : (P.info? e).map (fun i => (i.zero, i.size, i.bytes)) = some (some z, E.sz, bytes)) (ht : P.underlying t = some (.slice e)) (hzs : z.cells.size = E.sz)
    (v : Value) (xs : List α) (hs : a.eval s = v) (hown : Own E e B w v xs)
    (ad : Addr) (m c : Nat) (ys : List α) (hx : a.eval x = .slice (some ad) m c) (hm : m = ys.length) (hc : ∀ j u, (E.flat ys)[j]? = some u → w.cell? (ad.add j) = some u)
    (h63 : xs.length + ys.length ≤ maxLen) (hbytes : (xs.length + ys.length) * bytes ≤ 140737488355328) (hB : B ≤ w.heap.size)
    (h : ∀ v' w', Own E e B w' v' (xs ++ ys) → Below B w w' → Typed (fun T => T == e) w w' → wpList P ops Q rest (a.put o.dst v') w') : wpList P ops Q (o :: rest) a w := by
  obtain ⟨i, hi1, hz, hsz, hby⟩ := info_parts hi
  subst hm
  refine wpList_append_own w hgd s x t ho B e i z E.sz bytes ht hi1 hz hsz hby hzs E.pos v xs.length (E.flat xs) hs hown ad ys.length c (E.flat ys) hx (E.flat_len ys) hc (E.flat_one ys) h63 hbytes hB fun v' w' h2 h3 _ => h v' w' ?_ ?_ ?_
  · unfold Own
    rw [List.length_append, E.flat_append]
    exact h2
  · exact below_grown h3 (fun k hk => (World.ownsRow.lt hown k hk).1) hB
  · exact own_typed hown h3
theorem typed_alloc {ty : TypeId → Bool} (w : World) (o : Obj) : Typed ty w (w.alloc o) := (Mk.of_below (a := 0) (b := 0) (below_alloc w o)).2
theorem typed_trans {ty : TypeId → Bool} {x y z : World} (h : Typed ty x y) (k : Typed ty y z) : Typed ty x z := fun i c T f h1 h2 => k i c T f (h i c T f h1 h2) h2
theorem typed_below {ty : TypeId → Bool} {w w' : World} (h : Below w.heap.size w w') : Typed ty w w' := (Mk.of_below (a := 0) (b := 0) h).2
/-- a struct variable of a call: the whole block -/
def Box (w : World) (q : Nat) (cs : Array Value) (T : TypeId) : Prop := w.heap[q]? = some (.cells cs T)
theorem Box.cell {w : World} {q : Nat} {cs : Array Value} {T : TypeId} (h : Box w q cs T) {j : Nat} {u : Value} (hu : cs[j]? = some u) : w.cell? ⟨q, j, none⟩ = some u := by
  rw [cell_of_row w q j _ _ _ h, hu]
theorem Box.free {w : World} {q : Nat} {cs : Array Value} {T : TypeId} (h : Box w q cs T) (j : Nat) : w.frozen? ⟨q, j, none⟩ = false := frozen_of_row w q j _ _ h
theorem Box.typed {ty : TypeId → Bool} {w w' : World} {q : Nat} {cs : Array Value} {T : TypeId} (h : Box w q cs T) (ht : Typed ty w w') (hT : ty T = false) : Box w' q cs T := ht q _ _ _ h hT
theorem Box.below {B : Nat} {w w' : World} {q : Nat} {cs : Array Value} {T : TypeId} (h : Box w q cs T) (hb : Below B w w') (hq : q < B) : Box w' q cs T := (hb.block q hq).trans h
theorem Box.later {w w' : World} {q : Nat} {cs : Array Value} {T : TypeId} (h : Box w q cs T) (hb : Below w.heap.size w w') : Box w' q cs T := h.below hb (Array.getElem?_eq_some_iff.1 h).1
theorem Box.lt {w : World} {q : Nat} {cs : Array Value} {T : TypeId} (h : Box w q cs T) : q < w.heap.size := (Array.getElem?_eq_some_iff.1 h).1
theorem Box.set {w : World} {q : Nat} {cs : Array Value} {T : TypeId} (h : Box w q cs T) (j : Nat) (u : Value) : Box (w.setCell ⟨q, j, none⟩ u) q (cs.setIfInBounds j u) T := by
  unfold Box at *
  simp [World.setCell, Array.getElem?_modify, h]
theorem Box.new (w : World) (cs : Array Value) (T : TypeId) : Box (w.alloc (.cells cs T)) w.heap.size cs T := heap_alloc_new _ _
theorem Own.box_set {α : Type} {E : Enc α} {e : TypeId} {B : Nat} {w : World} {v : Value} {xs : List α} {q j : Nat} {cs : Array Value} {T : TypeId} {u : Value} (h : Own E e B w v xs) (hq : Box w q cs T) (hT : T ≠ e) : Own E e B (w.setCell ⟨q, j, none⟩ u) v xs := by
  have h1 : OwnIn E e B w.heap.size w v xs := h.in_
  exact (h1.set_other hq hT).1

/-- append of whatever slice that can be read (nil, too) onto a slice that the call owns -/
theorem run_append_arr {α : Type} {E : Enc α} {P : Program} {w : World} (t ty : TypeId) (B : Nat) (e : TypeId) (z : Value) (bytes : Nat) (hi : (P.info? e).map (fun i => (i.zero, i.size, i.bytes)) = some (some z, E.sz, bytes)) (ht : P.underlying t = some (.slice e)) (hzs : z.cells.size = E.sz)
    (v : Value) (xs : List α) (hown : Own E e B w v xs) (vx : Value) (ys : List α) (hx : Arr E w vx ys)
    (h63 : xs.length + ys.length ≤ maxLen) (hbytes : (xs.length + ys.length) * bytes ≤ 140737488355328) (hB : B ≤ w.heap.size) :
    ∃ v' w', (Builtin.append_ #[t, t] ty #[v, vx]).run P w = .ok v' w' ∧ Own E e B w' v' (xs ++ ys) ∧ Below B w w' ∧ Typed (fun T => T == e) w w' := by
  obtain ⟨i, hi1, hz, hsz, hby⟩ := info_parts hi
  obtain ⟨b, off, ao, cap, rfl, hnc, hcm, hao, hc⟩ := hx
  cases ao with
  | none =>
    have hy : ys = [] := by
      cases ys with
      | nil => rfl
      | cons a l => have := (hao (by simp)).1; cases this
    subst hy
    refine ⟨v, w, ?_, by simpa using hown, Below.refl _ _, fun _ _ _ _ h _ => h⟩
    rcases hown.2 with ⟨rfl, h0⟩ | ⟨g, cap, cur, rfl, _, _, hn, _⟩
    · simp [Builtin.append_, run_underlying ht, sizeOf, typeInfo, hi1, Builtin.lenOf, Builtin.firstCells]
    · simp [Builtin.append_, run_underlying ht, sizeOf, typeInfo, hi1, Builtin.lenOf, Builtin.firstCells, hn, storeCells]
  | some ad =>
    have hcc : ∀ j u, (E.flat ys)[j]? = some u → w.cell? (ad.add j) = some u := by
      intro j u hu
      have hlen := (List.getElem?_eq_some_iff.1 hu).1
      rw [Enc.flat_len] at hlen
      have hpos : 0 < ys.length := by
        cases ys with
        | nil => simp at hlen
        | cons a t => simp
      obtain ⟨h1, _⟩ := hao hpos
      cases h1
      rw [Addr.add_lit]
      exact flat_cells hc j u hu
    obtain ⟨v', w', hr, h2, h3, _⟩ := run_append_own (P := P) w B t ty e i z E.sz bytes ht hi1 hz hsz hby hzs E.pos v xs.length (E.flat xs) hown ad ys.length cap (E.flat ys) (E.flat_len ys) hcc (E.flat_one ys) h63 hbytes hB
    refine ⟨v', w', hr, ?_, below_grown h3 (fun k hk => (World.ownsRow.lt hown k hk).1) hB, own_typed hown h3⟩
    unfold Own
    rw [List.length_append, E.flat_append]
    exact h2

theorem wpList_appA {α : Type} {E : Enc α} {P : Program} {w : World} {ops : Array Oper} {rest : List Oper} {o : Oper} {a : Act} {Q : Exit → Act → World → Prop} (hgd : o.guard = none) (s x : Operand) (t : TypeId)
    (ho : o.op = .call { callee := .builtin .append, args := #[s, x], argTypes := #[t, t] })
    (B : Nat) (e : TypeId) (z : Value) (bytes : Nat) (hi : (P.info? e).map (fun i => (i.zero, i.size, i.bytes)) = some (some z, E.sz, bytes)) (ht : P.underlying t = some (.slice e)) (hzs : z.cells.size = E.sz)
    (v : Value) (xs : List α) (hs : a.eval s = v) (hown : Own E e B w v xs) (vx : Value) (ys : List α) (hx : a.eval x = vx) (hy : Arr E w vx ys)
    (h63 : xs.length + ys.length ≤ maxLen) (hbytes : (xs.length + ys.length) * bytes ≤ 140737488355328) (hB : B ≤ w.heap.size)
    (h : ∀ v' w', Own E e B w' v' (xs ++ ys) → Below B w w' → Typed (fun T => T == e) w w' → wpList P ops Q rest (a.put o.dst v') w') : wpList P ops Q (o :: rest) a w := by
  refine wpList_plain hgd fun K hK => ?_
  obtain ⟨v', w', hr, h1, h2, h3⟩ := run_append_arr (P := P) t o.type B e z bytes hi ht hzs v xs hown vx ys hy h63 hbytes hB
  unfold Oper.wp execOp
  simp only [ho, resolve, invoke, builtin, Sem.run_bind, Sem.run_pure, Result.andThen_ok, List.map_toArray, List.map_cons, List.map_nil, hs, hx, hr]
  exact hK _ _ (h v' w' h1 h2 h3)
theorem step_appA {α : Type} {E : Enc α} {P : Program} {w : World} {ops : Array Oper} {o : Oper} {a : Act} {K : Act → World → Prop} {Q : Exit → Act → World → Prop} {R : Prop} (hgd : o.guard = none) (s x : Operand) (t : TypeId)
    (ho : o.op = .call { callee := .builtin .append, args := #[s, x], argTypes := #[t, t] })
    (B : Nat) (e : TypeId) (z : Value) (bytes : Nat) (hi : (P.info? e).map (fun i => (i.zero, i.size, i.bytes)) = some (some z, E.sz, bytes)) (ht : P.underlying t = some (.slice e)) (hzs : z.cells.size = E.sz)
    (v : Value) (xs : List α) (hs : a.eval s = v) (hown : Own E e B w v xs) (vx : Value) (ys : List α) (hx : a.eval x = vx) (hy : Arr E w vx ys)
    (h63 : xs.length + ys.length ≤ maxLen) (hbytes : (xs.length + ys.length) * bytes ≤ 140737488355328) (hB : B ≤ w.heap.size)
    (h : ∀ v' w', Own E e B w' v' (xs ++ ys) → Below B w w' → Typed (fun T => T == e) w w' → K (a.put o.dst v') w') :
    if Region.wanted o (yielded ops a.tmps) = true then Oper.wp P o a w K Q else R := by
  have hw : Region.wanted o (yielded ops a.tmps) = true := by simp [Region.wanted, hgd]
  rw [if_pos hw]
  obtain ⟨v', w', hr, h1, h2, h3⟩ := run_append_arr (P := P) t o.type B e z bytes hi ht hzs v xs hown vx ys hy h63 hbytes hB
  unfold Oper.wp execOp
  simp only [ho, resolve, invoke, builtin, Sem.run_bind, Sem.run_pure, Result.andThen_ok, List.map_toArray, List.map_cons, List.map_nil, hs, hx, hr]
  exact h v' w' h1 h2 h3
theorem Own.drew {α : Type} {E : Enc α} {e : TypeId} {B : Nat} {w : World} {v : Value} {xs : List α} (h : Own E e B w v xs) : Own E e B w.drew v xs := h
theorem Box.drew {w : World} {q : Nat} {cs : Array Value} {T : TypeId} (h : Box w q cs T) : Box w.drew q cs T := h
theorem Box.alloc {w : World} {q : Nat} {cs : Array Value} {T : TypeId} (h : Box w q cs T) (o : Obj) : Box (w.alloc o) q cs T := h.later (below_alloc _ _)
theorem below_cell {B : Nat} {w w' : World} {p o : Nat} {u : Value} (hb : Below B w w') (hp : p < B) (h : w.cell? ⟨p, o, none⟩ = some u) : w'.cell? ⟨p, o, none⟩ = some u := (hb.cell (p := ⟨p, o, none⟩) hp).trans h
theorem arr_block {α : Type} {E : Enc α} {w : World} {T : TypeId} {n : Nat} (ys : List α) (l : Array Value) (hl : l = (E.flat ys).toArray) (hn : n = ys.length) (hm : n ≤ maxLen) : Arr E (w.alloc (.cells l T)) (.slice (some ⟨w.heap.size, 0, none⟩) n n) ys := by
  subst hn hl
  refine ⟨w.heap.size, 0, some ⟨w.heap.size, 0, none⟩, ys.length, rfl, Nat.le_refl _, hm, fun _ => ⟨rfl, by simp⟩, fun k x hx j u hu => ?_⟩
  have hj : j < E.sz := by rw [← E.len x]; exact (List.getElem?_eq_some_iff.1 hu).1
  have h0 := heap_alloc_new w (.cells (E.flat ys).toArray T)
  rw [Nat.zero_add, cell_of_row _ _ _ _ _ _ h0]
  have := E.flat_get ys k x j hx hj
  simp [this, hu]
theorem arr_block1 {α : Type} {E : Enc α} {w : World} {T : TypeId} {n g : Nat} (ys : List α) (l : Array Value) (hl : l = (E.flat ys).toArray) (hn : n = ys.length) (hm : n ≤ maxLen) (hg : g = w.heap.size) : Arr E (w.alloc (.cells l T)) (.slice (some ⟨g, 0, none⟩) n n) ys := by
  subst hg; exact arr_block ys l hl hn hm
end Go.Proofs.YtlnoelbeaolikaaGreat
