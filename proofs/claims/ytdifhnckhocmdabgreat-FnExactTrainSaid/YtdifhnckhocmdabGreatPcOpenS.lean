/- What the arguments hold: samples, told by their cells. -/
import Derived.Test.YtdifhnckhocmdabGreatPcOpen
import Derived.Test.YtdifhnckhocmdabGreatWrSmp
namespace Go.Proofs.YtdifhnckhocmdabGreat
open Go.ChangeShapes Go.WideShapes Go.ChangeAt Go.RowKit Go.Deep

set_option maxRecDepth 100000 in
theorem decSample (w : World) (cs : List Value) (h : Rd Tryz.prog w 51 cs) : ∃ x : XSample, ∃ s : SV, cs = [.string x.1, s.val] ∧ Arr eFeat w s.val x.2 ∧ goodSample x := by
  obtain ⟨hl, hf⟩ := rd_struct Tryz.underlying51 h
  rw [show Tryz.prog.cellsOf 51 = 2 by kernel_rfl] at hl
  obtain ⟨c0, u, rfl⟩ : ∃ c0 u, cs = [c0, u] := by
    match cs, hl with
    | [c0, u], _ => exact ⟨c0, u, rfl⟩
  have hi : Rd Tryz.prog w 9 (([c0, u].drop 0).take (Tryz.prog.cellsOf 9)) := hf 0 _ rfl
  have h0 : Rd Tryz.prog w 49 (([c0, u].drop 1).take (Tryz.prog.cellsOf 49)) := hf 1 _ rfl
  rw [show Tryz.prog.cellsOf 49 = 1 by kernel_rfl] at h0
  rw [show Tryz.prog.cellsOf 9 = 1 by kernel_rfl] at hi
  obtain ⟨s, hs, hsz⟩ := rd_string Tryz.underlying9 hi
  simp at hs
  subst hs
  obtain ⟨xs, hx⟩ := rd_slice (R := fun _ cs x => cs = eFeat.row x ∧ goodFeat x) (sz := 3) Tryz.underlying49 (by kernel_rfl) (by omega) (decFeat w) (v := u) (by simpa using h0)
  obtain ⟨sa, sc, rfl⟩ := hx.arr.1.isSlice
  exact ⟨(s, xs), ⟨sa, xs.length, sc⟩, rfl, hx.arr.1, hsz, hx.arr.2⟩
theorem ArrR.smps {w : World} {v : Value} {X : XSampleS} (h : ArrR (fun w cs (x : XSample) => ∃ s : SV, cs = [.string x.1, s.val] ∧ Arr eFeat w s.val x.2 ∧ goodSample x) 2 w v X) : Smps w v X ∧ goodSampleS X := by
  obtain ⟨b, off, ao, cap, hv, h1, h2, h3, h4⟩ := h
  obtain ⟨es, hl, hes⟩ := list_of_lt (p := fun i (e : ByteArray × SV) => ∃ x, X[i]? = some x ∧ e.1 = x.1 ∧ Arr eFeat w e.2.val x.2 ∧ goodSample x ∧ w.cell? ⟨b, off + i * 2, none⟩ = some (.string x.1) ∧ w.cell? ⟨b, off + i * 2 + 1, none⟩ = some e.2.val) X.length fun i hi => by
    obtain ⟨cs, _, ⟨s, rfl, hA, hg⟩, h5⟩ := h4 i X[i] (List.getElem?_eq_getElem hi)
    exact ⟨(X[i].1, s), X[i], List.getElem?_eq_getElem hi, rfl, hA, hg, h5 0 _ rfl, h5 1 _ rfl⟩
  refine ⟨⟨es, ⟨b, off, ao, cap, by rw [hl]; exact hv, by rw [hl]; exact h1, h2, fun h0 => h3 (by omega), fun k e he j u hu => ?_⟩, hl, fun i e x he hx => ?_⟩, fun x hx => ?_⟩
  · obtain ⟨x, _, e1, _, _, c0, c1⟩ := hes k e he
    have hj : j < 2 := by have := (List.getElem?_eq_some_iff.1 hu).1; rw [eSmp.len] at this; exact this
    match j, hj, hu with
    | 0, _, hu =>
      have hu' : some (Value.string e.1) = some u := hu
      cases hu'
      rw [e1]; exact c0
    | 1, _, hu =>
      have hu' : some e.2.val = some u := hu
      cases hu'
      exact c1
  · obtain ⟨y, hy, e1, hA, _⟩ := hes i e he
    rw [hx] at hy; cases hy
    exact ⟨e1, hA⟩
  · obtain ⟨i, hi⟩ := List.mem_iff_getElem?.1 hx
    obtain ⟨e, he⟩ : ∃ e, es[i]? = some e := ⟨_, List.getElem?_eq_getElem (by rw [hl]; exact (List.getElem?_eq_some_iff.1 hi).1)⟩
    obtain ⟨y, hy, _, _, hg, _⟩ := hes i e he
    rw [hi] at hy; cases hy
    exact hg
set_option maxRecDepth 100000 in
theorem openSample {H : Type} {enc : TypeId × Value → H} {W : World} {base : Nat} {spare : Nat → Bool} {held : Bool} {v : Value} {d : DataW H} {ps : List MemPlace} {b0 : Nat} {r : Reach}
    (hv : Value.okWide Tryz.prog W r b0 51 v) (h : DataW.Trod enc Tryz.prog W base spare held 51 v d ps) : ∃ x, rSample.at_ 0 W.heap.size W v x ∧ goodSample x := by
  obtain ⟨cs, rfl, hsz⟩ := okWide_struct Tryz.underlying51 hv
  have hr := rd_of_trod h
  obtain ⟨x, s, hs, hA, hg⟩ := decSample W _ hr
  obtain ⟨c, hc⟩ : ∃ c, cs = c := ⟨_, rfl⟩
  have e : cs = #[.string x.1, s.val] := by
    apply Array.ext'
    simpa [Value.cells] using hs
  subst e
  exact ⟨x, ⟨_, rfl, hA.in_⟩, hg⟩
set_option maxRecDepth 100000 in
theorem openSampleS {H : Type} {enc : TypeId × Value → H} {W : World} {base : Nat} {spare : Nat → Bool} {held : Bool} {v : Value} {d : DataW H} {ps : List MemPlace} {b0 : Nat} {r : Reach}
    (hv : Value.okWide Tryz.prog W r b0 26 v) (h : DataW.Trod enc Tryz.prog W base spare held 26 v d ps) : ∃ x, rSampleS.at_ 0 W.heap.size W v x ∧ goodSampleS x := by
  have hr := rd_of_trod h
  obtain ⟨a, len, cap, rfl⟩ := okWide_slice Tryz.underlying26 hv
  obtain ⟨xs, hx⟩ := rd_slice (R := fun w cs (x : XSample) => ∃ s : SV, cs = [.string x.1, s.val] ∧ Arr eFeat w s.val x.2 ∧ goodSample x) (sz := 2) Tryz.underlying26 (by kernel_rfl) (by omega) (decSample W) (v := .slice a len cap) (by simpa [Value.cells] using hr)
  have hA := ArrR.smps hx
  exact ⟨xs, hA.1.at_, hA.2⟩
end Go.Proofs.YtdifhnckhocmdabGreat
