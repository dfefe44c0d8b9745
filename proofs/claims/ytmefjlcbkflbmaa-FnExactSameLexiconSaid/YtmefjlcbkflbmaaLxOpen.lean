/- The lexicon's entries as data. -/
import Derived.Test.YtmefjlcbkflbmaaLx1
import Derived.Test.YtmefjlcbkflbmaaOpen
namespace Go.Proofs.Ytmefjlcbkflbmaa
open Go.ChangeShapes Go.WideShapes Go.ChangeAt Go.RowKit Go.Deep

theorem Try.own : ownKnob Try.prog.godebug = none := by kernel_rfl
theorem Try.laidOut : laidOutB Try.prog = true := by kernel_rfl

def goodEn (x : En) : Prop := x.word.size ≤ maxLen ∧ (Lit.int .i64 x.cost).wf = true

theorem decEn (w : World) (cs : List Value) (h : Rd Try.prog w 47 cs) : ∃ x : En, cs = enE.row x ∧ goodEn x := by
  obtain ⟨hl, hf⟩ := rd_struct Try.underlying47 h
  rw [show Try.prog.cellsOf 47 = 2 by kernel_rfl] at hl
  obtain ⟨c0, c1, rfl⟩ : ∃ c0 c1, cs = [c0, c1] := by
    match cs, hl with
    | [c0, c1], _ => exact ⟨c0, c1, rfl⟩
  have h0 : Rd Try.prog w 9 (([c0, c1].drop 0).take (Try.prog.cellsOf 9)) := hf 0 _ rfl
  have h1 : Rd Try.prog w 2 (([c0, c1].drop 1).take (Try.prog.cellsOf 2)) := hf 1 _ rfl
  rw [show Try.prog.cellsOf 9 = 1 by kernel_rfl] at h0
  rw [show Try.prog.cellsOf 2 = 1 by kernel_rfl] at h1
  obtain ⟨s, hs, hsl⟩ := rd_string Try.underlying9 h0
  obtain ⟨n, hn, hw⟩ := rd_int Try.underlying2 h1
  simp at hs hn
  subst hs hn
  exact ⟨⟨s, n⟩, rfl, hsl, hw⟩

theorem openLexicon {H : Type} {enc : TypeId × Value → H} {W : World} {base : Nat} {spare : Nat → Bool} {held : Bool} {v : Value} {d : DataW H} {ps : List MemPlace} {b0 : Nat} {r : Reach}
    (hv : Value.okWide Try.prog W r b0 30 v) (h : DataW.Trod enc Try.prog W base spare held 30 v d ps) : ∃ u xs, v = .agg #[u] ∧ Arr enE W u xs ∧ ∀ x ∈ xs, goodEn x := by
  obtain ⟨cs, rfl, hsz⟩ := okWide_struct Try.underlying30 hv
  have hr := rd_of_trod h
  obtain ⟨hl, hf⟩ := rd_struct Try.underlying30 hr
  rw [show Try.prog.cellsOf 30 = 1 by kernel_rfl] at hsz
  obtain ⟨u, rfl⟩ : ∃ u, cs = #[u] := by
    match cs, hsz with
    | ⟨[u]⟩, _ => exact ⟨u, rfl⟩
  have h0 : Rd Try.prog W 28 (([u].drop 0).take (Try.prog.cellsOf 28)) := hf 0 _ rfl
  rw [show Try.prog.cellsOf 28 = 1 by kernel_rfl] at h0
  obtain ⟨xs, hx⟩ := rd_slice (R := fun _ cs x => cs = enE.row x ∧ goodEn x) (sz := 2) Try.underlying28 (by kernel_rfl) (by omega) (decEn W) (v := u) (by simpa [Value.cells] using h0)
  exact ⟨u, xs, rfl, hx.arr.1, hx.arr.2⟩
end Go.Proofs.Ytmefjlcbkflbmaa
