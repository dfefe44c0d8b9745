/- A part of a list of numbers that the call owns. Plain lemmas. -/
import Derived.Test.YtdadmphmpojjhaaInkG1
namespace Go.Proofs.Ytdadmphmpojjhaa
open Go.RowKit

theorem sub_get {L : List Int} {f t k : Nat} {x : Int} (h : ((L.take t).drop f)[k]? = some x) : L[f + k]? = some x := by
  rw [List.getElem?_drop] at h
  have hlt := (List.getElem?_eq_some_iff.1 h).1
  rw [List.length_take] at hlt
  rwa [List.getElem?_take_of_lt (by omega)] at h
theorem sub_len {L : List Int} {f t : Nat} (ht : t ≤ L.length) : ((L.take t).drop f).length = t - f := by
  rw [List.length_drop, List.length_take]
  omega
theorem own_sub {B : Nat} {w : World} {u : Value} {L : List Int} (h : Own eI 2 B w u L) {f t : Nat} (hft : f < t) (ht : t ≤ L.length) :
    ∃ g cap, u = .slice (some ⟨g, 0, none⟩) L.length cap ∧ B ≤ g ∧ g < w.heap.size ∧ L.length ≤ cap ∧ cap ≤ maxLen ∧ Arr eI w (.slice (some ⟨g, f, none⟩) (t - f) (cap - f)) ((L.take t).drop f) ∧ HoldI w g f ((L.take t).drop f) := by
  obtain ⟨b, off, ao, cap, hv, hnc, hcm, hao, hc⟩ := h.arr
  obtain ⟨h1, h2⟩ := h
  rcases h2 with ⟨_, h2⟩ | ⟨g, cap', cur, hv2, hB, hg, r⟩
  · exfalso; omega
  · rw [hv] at hv2
    simp only [Value.slice.injEq] at hv2
    obtain ⟨e1, _, rfl⟩ := hv2
    obtain ⟨e2, hbw⟩ := hao (by omega)
    rw [e2] at e1
    simp only [Option.some.injEq, Addr.mk.injEq, and_true] at e1
    obtain ⟨rfl, rfl⟩ := e1
    have hcell : ∀ k x, ((L.take t).drop f)[k]? = some x → w.cell? ⟨b, f + k, none⟩ = some (.int .i64 x) := fun k x hk => by
      have := eI_cell hc (sub_get hk)
      rwa [Nat.zero_add] at this
    refine ⟨b, cap, by rw [hv, e2], hB, hbw, hnc, hcm, ?_, cur, _, hg, fun j hj => ?_⟩
    · refine ⟨b, f, some ⟨b, f, none⟩, cap - f, by rw [sub_len ht], by rw [sub_len ht]; omega, by omega, fun _ => ⟨rfl, hbw⟩, fun k x hk j v hj => ?_⟩
      have hj0 : j = 0 := by have := (List.getElem?_eq_some_iff.1 hj).1; have e : (eI.row x).length = 1 := eI.len x; omega
      subst hj0
      have e : some v = some (Value.int .i64 x) := hj.symm.trans rfl
      cases e
      have := hcell k x hk
      have e3 : f + k * eI.sz + 0 = f + k := by show f + k * 1 + 0 = f + k; omega
      rw [e3]; exact this
    · have := hcell j _ (gI_some hj)
      rwa [cell_of_row w b (f + j) _ _ _ hg] at this
end Go.Proofs.Ytdadmphmpojjhaa
