/- A row is appended to rows that the call owns. Plain lemmas, no program. -/
import Derived.Test.YtdifhnckhocmdaaWrPcp
import Derived.Test.YtdifhnckhocmdaaApp
import Derived.Test.YtdifhnckhocmdaaAppO
import Derived.OwnWalk
namespace Go.Proofs.Ytdifhnckhocmdaa
open Go.RowKit

theorem NestSt.push {lo : Nat} {u u' : Value} {vs : List SV} {X : List (List Int)} {w w1 w2 : World} {s : SV} {r : List Int} (h : NestSt eI 2 41 lo w.heap.size u vs X w) (hlo : lo ≤ w.heap.size) (hb : Below w.heap.size w w1)
    (hr : OwnIn eI 2 w.heap.size w1.heap.size w1 s.val r) (ho : Own eS1 41 lo w2 u' (vs ++ [s])) (hg : w1.grownBy w2 u.ownBlock) : NestSt eI 2 41 lo w2.heap.size u' (vs ++ [s]) (X ++ [r]) w2 := by
  have hl := h.len
  have hout := (OwnIn.chg h.outer (Chg.of_below (a := 0) (b := 0) hb) (.inl (Nat.zero_le _)))
  have hty := own_typed hout.1 hg
  have hsz : w.heap.size ≤ w2.heap.size := Nat.le_trans hb.size hg.size
  refine ⟨ho.in_, by simp [hl], fun i a x ha hx => ?_, fun i j a b q ha hbb hq1 hq2 => ?_⟩
  · by_cases hi : i < vs.length
    · rw [List.getElem?_append_left hi] at ha
      rw [List.getElem?_append_left (by omega)] at hx
      have h1 := OwnIn.chg (h.inner i a x ha hx) (Chg.of_below (a := 0) (b := 0) hb) (.inl (Nat.zero_le _))
      exact (h1.typed hty (by rfl)).mono (Nat.le_refl _) hsz
    · have e : i = vs.length := by have := (List.getElem?_eq_some_iff.1 ha).1; simp at this; omega
      subst e
      simp at ha
      subst ha
      rw [hl] at hx
      simp at hx
      subst hx
      exact (hr.typed hty (by rfl)).mono hlo hg.size
  · have key : ∀ (j : Nat) (b : SV) (q : Nat), vs[j]? = some b → b.blk = some q → s.blk = some q → False := fun j b q hj h1 h2 => by
      have hj2 : j < X.length := by rw [← hl]; exact (List.getElem?_eq_some_iff.1 hj).1
      have h3 := (h.inner j b _ hj (List.getElem?_eq_getElem hj2)).2 q h1
      have h4 := (World.ownsRow.lt hr.1 q h2).1
      omega
    have split : ∀ (i : Nat) (a : SV), (vs ++ [s])[i]? = some a → (i < vs.length ∧ vs[i]? = some a) ∨ (i = vs.length ∧ a = s) := fun i a ha => by
      by_cases hi : i < vs.length
      · rw [List.getElem?_append_left hi] at ha; exact .inl ⟨hi, ha⟩
      · have e : i = vs.length := by have := (List.getElem?_eq_some_iff.1 ha).1; simp at this; omega
        subst e
        simp at ha
        exact .inr ⟨rfl, ha.symm⟩
    rcases split i a ha with ⟨h1, h2⟩ | ⟨h1, rfl⟩
    · rcases split j b hbb with ⟨h3, h4⟩ | ⟨h3, rfl⟩
      · exact h.apart i j a b q h2 h4 hq1 hq2
      · exact (key i a q h2 hq1 hq2).elim
    · rcases split j b hbb with ⟨h3, h4⟩ | ⟨h3, _⟩
      · exact (key j b q h4 hq2 hq1).elim
      · rw [h1, h3]
theorem NestSt.none {lo hi : Nat} (w : World) : NestSt eI 2 41 lo hi (.slice none 0 0) [] [] w :=
  ⟨⟨Own.nil _ _ _, fun g hg => by simp [Value.ownBlock] at hg⟩, rfl, fun i s x hs => by simp at hs, fun i j s t g hs => by simp at hs⟩
theorem NestSt.chg {α : Type} {E : Enc α} {e eo : TypeId} {lo hi a b : Nat} {u : Value} {vs : List SV} {Y : List (List α)} {w w' : World} (h : NestSt E e eo lo hi u vs Y w) (hc : Chg a b w w') (hd : b ≤ lo ∨ hi ≤ a) : NestSt E e eo lo hi u vs Y w' :=
  ⟨h.outer.chg hc hd, h.len, fun i s x hs hx => (h.inner i s x hs hx).chg hc hd, h.apart⟩
theorem NestSt.below {α : Type} {E : Enc α} {e eo : TypeId} {lo hi : Nat} {u : Value} {vs : List SV} {Y : List (List α)} {w w' : World} (h : NestSt E e eo lo hi u vs Y w) (hb : Below w.heap.size w w') : NestSt E e eo lo hi u vs Y w' :=
  h.chg (Chg.of_below (a := 0) (b := 0) hb) (.inl (Nat.zero_le _))
/-- a slice of numbers is made, at one operation of a drawn region -/
theorem upon_makeI {G : Value → World → Prop} {ρ : Operand → Value} {w : World} {o : Oper} (l c : Operand) (ho : o.op = .makeSlice 41 l c) (n : Nat) (hl : ρ l = .int .i64 n) (hc : ρ c = .int .i64 n) (hn : n ≤ 1048576)
    (h : ∀ w', Own eI 2 w.heap.size w' (.slice (some ⟨w.heap.size, 0, none⟩) n n) (List.replicate n 0) → Below w.heap.size w w' → G (.slice (some ⟨w.heap.size, 0, none⟩) n n) w') : UponG Try.prog G ((execOp ρ o).run Try.prog w) := by
  obtain ⟨i0, hi, hz0, hz1, hz2⟩ := info_parts infoI
  obtain ⟨w', hr, h1, h2⟩ := run_make_full (P := Try.prog) w w.heap.size 41 2 i0 _ 1 Try.underlying41 hi hz0 hz1 .i64 .i64 n (by rw [hz2]; omega) (by unfold maxLen; omega) (Nat.le_refl _)
  unfold execOp
  simp only [ho, hl, hc]
  rw [Sem.run_bind, hr]
  simp only [Result.andThen_ok, Sem.run_pure]
  exact h w' (Own.made (E := eI) (z := (0 : Int)) h1 rfl) ((Below.refl _ _).grown h2 (Nat.le_refl _) (by simp))
end Go.Proofs.Ytdifhnckhocmdaa
