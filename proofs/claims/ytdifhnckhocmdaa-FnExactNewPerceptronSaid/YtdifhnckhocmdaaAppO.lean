/- Append onto an owned slice: what turns is its own block alone, and where the new slice lies. No program. -/
import Derived.Test.YtdifhnckhocmdaaApp
import Derived.Test.YtdifhnckhocmdaaReg
import Derived.Maps.AppendAt
namespace Go.Proofs.Ytdifhnckhocmdaa
open Go.RowKit

theorem run_append_arrO {α : Type} {E : Enc α} {P : Program} {w : World} (t ty : TypeId) (B : Nat) (e : TypeId) (z : Value) (bytes : Nat) (hi : (P.info? e).map (fun i => (i.zero, i.size, i.bytes)) = some (some z, E.sz, bytes)) (ht : P.underlying t = some (.slice e)) (hzs : z.cells.size = E.sz)
    (v : Value) (xs : List α) (hown : Own E e B w v xs) (vx : Value) (ys : List α) (hx : Arr E w vx ys)
    (h63 : xs.length + ys.length ≤ maxLen) (hbytes : (xs.length + ys.length) * bytes ≤ 140737488355328) (hB : B ≤ w.heap.size) :
    ∃ v' w', (Builtin.append_ #[t, t] ty #[v, vx]).run P w = .ok v' w' ∧ Own E e B w' v' (xs ++ ys) ∧ w.grownBy w' v.ownBlock ∧ (v'.ownBlock = v.ownBlock ∨ v'.ownBlock = some w.heap.size) := by
  obtain ⟨i, hi1, hz, hsz, hby⟩ := info_parts hi
  obtain ⟨b, off, ao, cap, rfl, hnc, hcm, hao, hc⟩ := hx
  cases ao with
  | none =>
    have hy : ys = [] := by
      cases ys with
      | nil => rfl
      | cons a l => have := (hao (by simp)).1; cases this
    subst hy
    refine ⟨v, w, ?_, by simpa using hown, World.grownBy.refl _ _, .inl rfl⟩
    rcases hown.2 with ⟨rfl, h0⟩ | ⟨g, cap, cur, rfl, _, _, hn, _⟩
    · simp [Builtin.append_, run_underlying ht, sizeOf, typeInfo, hi1, Builtin.lenOf, Builtin.firstCells]
    · simp [Builtin.append_, run_underlying ht, sizeOf, typeInfo, hi1, Builtin.lenOf, Builtin.firstCells, hn, storeCells]
  | some ad =>
    have hcc : ∀ j u, (E.flat ys)[j]? = some u → w.cell? (ad.add j) = some u := by
      intro j u hu
      have hlen := (List.getElem?_eq_some_iff.1 hu).1
      rw [Enc.flat_len] at hlen
      have hpos : 0 < ys.length := by
        cases ys with
        | nil => simp at hlen
        | cons a t => simp
      obtain ⟨h1, _⟩ := hao hpos
      cases h1
      rw [Addr.add_lit]
      exact flat_cells hc j u hu
    obtain ⟨v', w', hr, h2, h3, _, h5⟩ := run_append_own_at (P := P) w B t ty e i z E.sz bytes ht hi1 hz hsz hby hzs E.pos v xs.length (E.flat xs) hown ad ys.length cap (E.flat ys) (E.flat_len ys) hcc (E.flat_one ys) h63 hbytes hB
    refine ⟨v', w', hr, ?_, h3, h5⟩
    unfold Own
    rw [List.length_append, E.flat_append]
    exact h2
theorem step_appO {α : Type} {E : Enc α} {P : Program} {w : World} {ops : Array Oper} {o : Oper} {a : Act} {K : Act → World → Prop} {Q : Exit → Act → World → Prop} {R : Prop} (hgd : o.guard = none) (s x : Operand) (t : TypeId)
    (ho : o.op = .call { callee := .builtin .append, args := #[s, x], argTypes := #[t, t] })
    (B : Nat) (e : TypeId) (z : Value) (bytes : Nat) (hi : (P.info? e).map (fun i => (i.zero, i.size, i.bytes)) = some (some z, E.sz, bytes)) (ht : P.underlying t = some (.slice e)) (hzs : z.cells.size = E.sz)
    (v : Value) (xs : List α) (hs : a.eval s = v) (hown : Own E e B w v xs) (vx : Value) (ys : List α) (hx : a.eval x = vx) (hy : Arr E w vx ys)
    (h63 : xs.length + ys.length ≤ maxLen) (hbytes : (xs.length + ys.length) * bytes ≤ 140737488355328) (hB : B ≤ w.heap.size)
    (h : ∀ v' w', Own E e B w' v' (xs ++ ys) → w.grownBy w' v.ownBlock → (v'.ownBlock = v.ownBlock ∨ v'.ownBlock = some w.heap.size) → K (a.put o.dst v') w') :
    if Region.wanted o (yielded ops a.tmps) = true then Oper.wp P o a w K Q else R := by
  have hw : Region.wanted o (yielded ops a.tmps) = true := by simp [Region.wanted, hgd]
  rw [if_pos hw]
  obtain ⟨v', w', hr, h1, h2, h3⟩ := run_append_arrO (P := P) t o.type B e z bytes hi ht hzs v xs hown vx ys hy h63 hbytes hB
  unfold Oper.wp execOp
  simp only [ho, resolve, invoke, builtin, Sem.run_bind, Sem.run_pure, Result.andThen_ok, List.map_toArray, List.map_cons, List.map_nil, hs, hx, hr]
  exact h v' w' h1 h2 h3
theorem upon_appO {α : Type} {E : Enc α} {P : Program} {G : Value → World → Prop} {ρ : Operand → Value} {w : World} {o : Oper} (s x : Operand) (t : TypeId)
    (ho : o.op = .call { callee := .builtin .append, args := #[s, x], argTypes := #[t, t] })
    (B : Nat) (e : TypeId) (z : Value) (bytes : Nat) (hi : (P.info? e).map (fun i => (i.zero, i.size, i.bytes)) = some (some z, E.sz, bytes)) (ht : P.underlying t = some (.slice e)) (hzs : z.cells.size = E.sz)
    (v : Value) (xs : List α) (hs : ρ s = v) (hown : Own E e B w v xs) (ys : List α) (hy : Arr E w (ρ x) ys)
    (h63 : xs.length + ys.length ≤ maxLen) (hbytes : (xs.length + ys.length) * bytes ≤ 140737488355328) (hB : B ≤ w.heap.size)
    (h : ∀ v' w', Own E e B w' v' (xs ++ ys) → w.grownBy w' v.ownBlock → (v'.ownBlock = v.ownBlock ∨ v'.ownBlock = some w.heap.size) → G v' w') : UponG P G ((execOp ρ o).run P w) := by
  obtain ⟨v', w', hr, h1, h2, h3⟩ := run_append_arrO (P := P) t o.type B e z bytes hi ht hzs v xs hown (ρ x) ys hy h63 hbytes hB
  rw [← hs] at hr
  unfold execOp
  simp only [ho, resolve, invoke, builtin, Sem.run_bind, Sem.run_pure, Result.andThen_ok, List.map_toArray, List.map_cons, List.map_nil, hr]
  exact h v' w' h1 h2 h3
end Go.Proofs.Ytdifhnckhocmdaa
