/- What the arguments of the perceptron's laws hold: labels, rows of weights, samples, told by their cells. -/
import Derived.Test.YtldmphkakkggaaaDoorWrPcp
import Derived.Test.YtldmphkakkggaaaDoorWrFeatS
import Derived.Test.YtldmphkakkggaaaDoorWrSmp
import Derived.Test.YtldmphkakkggaaaDoorOpen
import Derived.Test.YtldmphkakkggaaaDoorArgs
namespace Go.Proofs.YtldmphkakkggaaaDoor
open Go.ChangeShapes Go.WideShapes Go.ChangeAt Go.RowKit Go.Deep

theorem decStrC (w : World) (cs : List Value) (h : Rd Tryd.prog w 9 cs) : ∃ s : ByteArray, cs = eStr.row s ∧ s.size ≤ maxLen := by
  obtain ⟨s, rfl, hs⟩ := rd_string Tryd.underlying9 h
  exact ⟨s, rfl, hs⟩
theorem decIntC (w : World) (cs : List Value) (h : Rd Tryd.prog w 2 cs) : ∃ n : Int, cs = eI.row n ∧ (Lit.int .i64 n).wf = true := by
  obtain ⟨n, rfl, hs⟩ := rd_int Tryd.underlying2 h
  exact ⟨n, rfl, hs⟩
theorem decRowI (w : World) (cs : List Value) (h : Rd Tryd.prog w 111 cs) : ∃ x : XInt64S, ∃ s : SV, cs = [s.val] ∧ Arr eI w s.val x := by
  obtain ⟨u, hu⟩ : ∃ u, cs = [u] := by
    obtain ⟨_, _, _, _, _, _, _, h'⟩ := h
    rcases open_slice Tryd.underlying111 h' with ⟨h0, _⟩ | ⟨a, len, cap, m, n, D, Pl, hv, _⟩
    · exact ⟨_, h0⟩
    · exact ⟨_, hv⟩
  subst hu
  obtain ⟨xs, hx⟩ := rd_slice (R := fun _ cs x => cs = eI.row x ∧ (Lit.int .i64 x).wf = true) (sz := 1) Tryd.underlying111 (by kernel_rfl) (by omega) (decIntC w) (v := u) h
  have hA := (ArrR.arr (E := eI) hx).1
  obtain ⟨sa, sc, rfl⟩ := hA.isSlice
  exact ⟨xs, ⟨sa, xs.length, sc⟩, rfl, hA⟩
theorem ArrR.rowsI {w : World} {v : Value} {X : XInt64SS} (h : ArrR (fun w cs x => ∃ s : SV, cs = [s.val] ∧ Arr eI w s.val x) 1 w v X) : RowsI w v X := by
  obtain ⟨b, off, ao, cap, hv, h1, h2, h3, h4⟩ := h
  obtain ⟨vs, hl, hvs⟩ := list_of_lt (p := fun i s => ∃ x, X[i]? = some x ∧ Arr eI w (SV.val s) x ∧ w.cell? ⟨b, off + i, none⟩ = some s.val) X.length fun i hi => by
    obtain ⟨cs, _, ⟨s, rfl, hA⟩, h5⟩ := h4 i X[i] (List.getElem?_eq_getElem hi)
    have := h5 0 s.val rfl
    have e : off + i * 1 + 0 = off + i := by omega
    rw [e] at this
    exact ⟨s, X[i], List.getElem?_eq_getElem hi, hA, this⟩
  refine ⟨vs, ⟨b, off, ao, cap, by rw [hl]; exact hv, by rw [hl]; exact h1, h2, fun h0 => h3 (by omega), fun k s hs j u hu => ?_⟩, hl, fun i s x hs hx => ?_⟩
  · obtain ⟨x, _, _, hc⟩ := hvs k s hs
    have hj : j = 0 := by have := (List.getElem?_eq_some_iff.1 hu).1; rw [eS1.len] at this; have : eS1.sz = 1 := rfl; omega
    subst hj
    have e : off + k * eS1.sz + 0 = off + k := by show off + k * 1 + 0 = off + k; omega
    have hu' : some s.val = some u := hu
    cases hu'
    rw [e]; exact hc
  · obtain ⟨y, hy, hA, _⟩ := hvs i s hs
    rw [hx] at hy; cases hy
    exact hA

set_option maxRecDepth 100000 in
theorem openPerceptron {H : Type} {enc : TypeId × Value → H} {W : World} {base : Nat} {spare : Nat → Bool} {held : Bool} {v : Value} {d : DataW H} {ps : List MemPlace} {b0 : Nat} {r : Reach}
    (hv : Value.okWide Tryd.prog W r b0 60 v) (h : DataW.Trod enc Tryd.prog W base spare held 60 v d ps) : ∃ x, rPerceptron.at_ 0 W.heap.size W v x ∧ goodPerceptron x := by
  obtain ⟨cs, rfl, hsz⟩ := okWide_struct Tryd.underlying60 hv
  have hr := rd_of_trod h
  obtain ⟨hl, hf⟩ := rd_struct Tryd.underlying60 hr
  rw [show Tryd.prog.cellsOf 60 = 2 by kernel_rfl] at hsz
  obtain ⟨c0, u, rfl⟩ : ∃ c0 u, cs = #[c0, u] := by
    match cs, hsz with
    | ⟨[c0, u]⟩, _ => exact ⟨c0, u, rfl⟩
  have hi : Rd Tryd.prog W 57 (([c0, u].drop 0).take (Tryd.prog.cellsOf 57)) := hf 0 _ rfl
  have h0 : Rd Tryd.prog W 58 (([c0, u].drop 1).take (Tryd.prog.cellsOf 58)) := hf 1 _ rfl
  rw [show Tryd.prog.cellsOf 58 = 1 by kernel_rfl] at h0
  rw [show Tryd.prog.cellsOf 57 = 1 by kernel_rfl] at hi
  obtain ⟨xs, hx⟩ := rd_slice (R := fun _ cs x => cs = eStr.row x ∧ x.size ≤ maxLen) (sz := 1) Tryd.underlying57 (by kernel_rfl) (by omega) (decStrC W) (v := c0) (by simpa [Value.cells] using hi)
  obtain ⟨ys, hy⟩ := rd_slice (R := fun w cs x => ∃ s : SV, cs = [s.val] ∧ Arr eI w s.val x) (sz := 1) Tryd.underlying58 (by kernel_rfl) (by omega) (decRowI W) (v := u) (by simpa [Value.cells] using h0)
  have hA := ArrR.arr (E := eStr) hx
  exact ⟨(xs, ys), ⟨c0, u, rfl, hA.1.in_, (ArrR.rowsI hy).at_⟩, hA.2⟩
set_option maxRecDepth 100000 in
theorem openStringS {H : Type} {enc : TypeId × Value → H} {W : World} {base : Nat} {spare : Nat → Bool} {held : Bool} {v : Value} {d : DataW H} {ps : List MemPlace} {b0 : Nat} {r : Reach}
    (hv : Value.okWide Tryd.prog W r b0 57 v) (h : DataW.Trod enc Tryd.prog W base spare held 57 v d ps) : ∃ x, rStringS.at_ 0 W.heap.size W v x ∧ goodStringS x := by
  have hr := rd_of_trod h
  obtain ⟨a, len, cap, rfl⟩ := okWide_slice Tryd.underlying57 hv
  obtain ⟨xs, hx⟩ := rd_slice (R := fun _ cs x => cs = eStr.row x ∧ x.size ≤ maxLen) (sz := 1) Tryd.underlying57 (by kernel_rfl) (by omega) (decStrC W) (v := .slice a len cap) (by simpa [Value.cells] using hr)
  have hA := ArrR.arr (E := eStr) hx
  exact ⟨xs, hA.1.in_, hA.2⟩
end Go.Proofs.YtldmphkakkggaaaDoor
