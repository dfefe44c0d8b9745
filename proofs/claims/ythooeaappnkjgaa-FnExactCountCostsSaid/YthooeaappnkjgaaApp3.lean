/- append onto a slice that has just been made empty: it makes a new row. Plain lemmas on the model, no program. -/
import Derived.Test.YthooeaappnkjgaaApp
import Derived.ArgAppend
namespace Go.Proofs.Ythooeaappnkjgaa
open Go.RowKit

theorem run_append_zero {α : Type} {E : Enc α} {P : Program} {w : World} (t ty : TypeId) (B : Nat) (e : TypeId) (z : Value) (bytes : Nat) (hi : (P.info? e).map (fun i => (i.zero, i.size, i.bytes)) = some (some z, E.sz, bytes)) (ht : P.underlying t = some (.slice e)) (hzs : z.cells.size = E.sz)
    (g : Nat) (hg : w.heap[g]? = some (.cells #[] e)) (hB : B ≤ g) (vx : Value) (ys : List α) (hx : Arr E w vx ys)
    (h63 : ys.length ≤ maxLen) (hbytes : ys.length * bytes ≤ 140737488355328) :
    ∃ v' w', (Builtin.append_ #[t, t] ty #[.slice (some ⟨g, 0, none⟩) 0 0, vx]).run P w = .ok v' w' ∧ Own E e B w' v' ys ∧ Below w.heap.size w w' := by
  obtain ⟨i, hi1, hz, hsz, hby⟩ := info_parts hi
  obtain ⟨b, off, ao, cap, rfl, hnc, hcm, hao, hc⟩ := hx
  have hgl : g < w.heap.size := (Array.getElem?_eq_some_iff.1 hg).1
  by_cases h0 : ys = []
  · subst h0
    refine ⟨.slice (some ⟨g, 0, none⟩) 0 0, w, ?_, ⟨by simp [Enc.flat_nil], .inr ⟨g, 0, #[], rfl, hB, hg, Nat.le_refl _, by simp [maxLen], by simp, by simp [Enc.flat_nil]⟩⟩, Below.refl _ _⟩
    cases ao with
    | none => simp [Builtin.append_, run_underlying ht, sizeOf, typeInfo, hi1, Builtin.lenOf, Builtin.firstCells, storeCells]
    | some ad => simp [Builtin.append_, run_underlying ht, sizeOf, typeInfo, hi1, Builtin.lenOf, Builtin.firstCells, storeCells, loadCells, loadCellsFrom]
  · have hpos : 0 < ys.length := by
      cases ys with
      | nil => exact (h0 rfl).elim
      | cons a l => simp
    obtain ⟨rfl, _⟩ := hao hpos
    have hcc : ∀ j u, (E.flat ys)[j]? = some u → w.cell? ((⟨b, off, none⟩ : Addr).add j) = some u := by
      intro j u hu
      rw [Addr.add_lit]
      exact flat_cells hc j u hu
    obtain ⟨v', w', hr, h2, h3⟩ := run_append_arg_grows (P := P) w t ty e i z E.sz bytes ht hi1 hz hsz hby hzs E.pos ⟨g, 0, none⟩ 0 0 [] (by simp) (by simp) ⟨b, off, none⟩ ys.length cap (E.flat ys) (E.flat_len ys) hcc (by omega) (by omega) (by rw [Nat.zero_add]; exact hbytes)
    rw [Nat.zero_add, List.nil_append] at h2
    have ho : Own E e w.heap.size w' v' ys := h2
    refine ⟨v', w', hr, ho.mono (by omega), ⟨h3.os, h3.tape, h3.output, h3.size, fun k hk => h3.block k hk (by simp)⟩⟩
end Go.Proofs.Ythooeaappnkjgaa
