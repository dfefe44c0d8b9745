/- NewPerceptron: both calls. -/
import Derived.Test.YtdifhnckhocmdabGreatPcGrow
import Derived.Test.YtdifhnckhocmdabGreatPcValid
import Derived.Test.YtdifhnckhocmdabGreatReg
namespace Go.Proofs.YtdifhnckhocmdabGreat
open Go.RowKit

def zeroRow : List Int := List.replicate 25 0
def newX (L : XStringS) : XPerceptron := if labsOk L then (L, List.replicate L.length zeroRow) else ([], [])
def newC (L : XStringS) : Int := if labsOk L then 0 else 1
theorem labs_len {L : XStringS} (h : labsOk L = true) : 1 ≤ L.length ∧ L.length ≤ 12 := by
  unfold labsOk at h
  rw [Bool.and_eq_true, inB_true] at h
  omega
theorem okNew (L : XStringS) : okPerceptron (newX L) := by
  unfold newX
  split
  · rename_i h
    have hl := labs_len h
    refine ⟨by show L.length ≤ 1048576; omega, ?_⟩
    have e : ∀ n, totSS (List.replicate n zeroRow) = 25 * n := fun n => by
      induction n with
      | zero => rfl
      | succ n ih =>
        rw [List.replicate_succ]
        unfold totSS sumOf at *
        rw [List.map_cons, List.sum_cons, ih]
        have : zeroRow.length = 25 := by simp [zeroRow]
        omega
    show (List.replicate L.length zeroRow).length + totSS (List.replicate L.length zeroRow) ≤ 1048576
    rw [e, List.length_replicate]
    omega
  · exact ⟨by show ([] : XStringS).length ≤ 1048576; simp, by show ([] : XInt64SS).length + totSS [] ≤ 1048576; simp [totSS, sumOf]⟩
theorem NestSt.now {lo : Nat} {u : Value} {vs : List SV} {Y : List (List Int)} {w w' : World} (h : NestSt eI 2 40 lo w.heap.size u vs Y w) (hb : Below w.heap.size w w') : NestSt eI 2 40 lo w'.heap.size u vs Y w' :=
  ⟨(OwnIn.chg h.outer (Chg.of_below (a := 0) (b := 0) hb) (.inl (Nat.zero_le _))).mono (Nat.le_refl _) hb.size, h.len, fun i s x hs hx => (OwnIn.chg (h.inner i s x hs hx) (Chg.of_below (a := 0) (b := 0) hb) (.inl (Nat.zero_le _))).mono (Nat.le_refl _) hb.size, h.apart⟩
/-- the struct that is being built -/
def FinN (q : Nat) (ul : Value) (U : World) (X : List (List Int)) (w : World) : Prop := ∃ uo vs, Box w q #[ul, uo] 29 ∧ NestSt eI 2 40 (q + 1) w.heap.size uo vs X w ∧ Below q U w
theorem FinN.below {q : Nat} {ul : Value} {U : World} {X : List (List Int)} {w w' : World} (h : FinN q ul U X w) (hb : Below w.heap.size w w') : FinN q ul U X w' := by
  obtain ⟨uo, vs, h1, h2, h3⟩ := h
  exact ⟨uo, vs, h1.later hb, h2.now hb, h3.trans (hb.mono (Nat.le_of_lt h1.lt))⟩
def NewRow (lo : Nat) (w : World) (s : SV) (r : List Int) : Prop := OwnIn eI 2 lo w.heap.size w s.val r
theorem NewRow.below {lo : Nat} {w w' : World} {s : SV} {r : List Int} (h : NewRow lo w s r) (hb : Below w.heap.size w w') : NewRow lo w' s r :=
  (OwnIn.chg h (Chg.of_below (a := 0) (b := 0) hb) (.inl (Nat.zero_le _))).mono (Nat.le_refl _) hb.size
theorem infRow1 : (Tryz.prog.info? 40).map (fun i => (i.zero, i.size, i.bytes)) = some (some (.slice none 0 0), eS1.sz, 24) := by kernel_rfl
theorem grownBox {w w' : World} {q : Nat} {cs : Array Value} {T : TypeId} {r : Option Nat} (h : Box w q cs T) (hg : w.grownBy w' r) (hne : some q ≠ r) : Box w' q cs T := by
  unfold Box at *
  rw [hg.block q (Array.getElem?_eq_some_iff.1 h).1 hne]; exact h
theorem nestOuter {lo hi : Nat} {u : Value} {vs : List SV} {Y : List (List Int)} {w w' : World} (h : NestSt eI 2 40 lo hi u vs Y w) (hb : Below w.heap.size w w') : Own eS1 40 lo w' u vs := (OwnIn.chg h.outer (Chg.of_below (a := 0) (b := 0) hb) (.inl (Nat.zero_le _))).1
theorem ownBlk_lt {α : Type} {E : Enc α} {e : TypeId} {lo : Nat} {w : World} {u : Value} {xs : List α} {q : Nat} (h : Own E e (q + 1) w u xs) (_ : lo = lo) : some q ≠ u.ownBlock := fun e2 => by
  have := (World.ownsRow.lt h q e2.symm).1
  omega
end Go.Proofs.YtdifhnckhocmdabGreat
