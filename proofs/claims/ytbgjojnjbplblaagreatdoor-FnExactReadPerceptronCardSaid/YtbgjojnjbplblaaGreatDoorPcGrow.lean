/- A row is appended to rows that the call owns. Plain lemmas, no program. -/
import Derived.Test.YtbgjojnjbplblaaGreatDoorWrPcp
import Derived.Test.YtbgjojnjbplblaaGreatDoorApp
import Derived.Test.YtbgjojnjbplblaaGreatDoorAppO
import Derived.OwnWalk
import Derived.Test.YtbgjojnjbplblaaGreatDoorWrStringS
import Derived.Lib.SliceRun
import Derived.Test.YtbgjojnjbplblaaGreatDoorPcInput
namespace Go.Proofs.YtbgjojnjbplblaaGreatDoor
open Go.RowKit

theorem NestSt.push {lo : Nat} {u u' : Value} {vs : List SV} {X : List (List Int)} {w w1 w2 : World} {s : SV} {r : List Int} (h : NestSt eI 2 51 lo w.heap.size u vs X w) (hlo : lo ≤ w.heap.size) (hb : Below w.heap.size w w1)
    (hr : OwnIn eI 2 w.heap.size w1.heap.size w1 s.val r) (ho : Own eS1 51 lo w2 u' (vs ++ [s])) (hg : w1.grownBy w2 u.ownBlock) : NestSt eI 2 51 lo w2.heap.size u' (vs ++ [s]) (X ++ [r]) w2 := by
  have hl := h.len
  have hout := (OwnIn.chg h.outer (Chg.of_below (a := 0) (b := 0) hb) (.inl (Nat.zero_le _)))
  have hty := own_typed hout.1 hg
  have hsz : w.heap.size ≤ w2.heap.size := Nat.le_trans hb.size hg.size
  refine ⟨ho.in_, by simp [hl], fun i a x ha hx => ?_, fun i j a b q ha hbb hq1 hq2 => ?_⟩
  · by_cases hi : i < vs.length
    · rw [List.getElem?_append_left hi] at ha
      rw [List.getElem?_append_left (by omega)] at hx
      have h1 := OwnIn.chg (h.inner i a x ha hx) (Chg.of_below (a := 0) (b := 0) hb) (.inl (Nat.zero_le _))
      exact (h1.typed hty (by rfl)).mono (Nat.le_refl _) hsz
    · have e : i = vs.length := by have := (List.getElem?_eq_some_iff.1 ha).1; simp at this; omega
      subst e
      simp at ha
      subst ha
      rw [hl] at hx
      simp at hx
      subst hx
      exact (hr.typed hty (by rfl)).mono hlo hg.size
  · have key : ∀ (j : Nat) (b : SV) (q : Nat), vs[j]? = some b → b.blk = some q → s.blk = some q → False := fun j b q hj h1 h2 => by
      have hj2 : j < X.length := by rw [← hl]; exact (List.getElem?_eq_some_iff.1 hj).1
      have h3 := (h.inner j b _ hj (List.getElem?_eq_getElem hj2)).2 q h1
      have h4 := (World.ownsRow.lt hr.1 q h2).1
      omega
    have split : ∀ (i : Nat) (a : SV), (vs ++ [s])[i]? = some a → (i < vs.length ∧ vs[i]? = some a) ∨ (i = vs.length ∧ a = s) := fun i a ha => by
      by_cases hi : i < vs.length
      · rw [List.getElem?_append_left hi] at ha; exact .inl ⟨hi, ha⟩
      · have e : i = vs.length := by have := (List.getElem?_eq_some_iff.1 ha).1; simp at this; omega
        subst e
        simp at ha
        exact .inr ⟨rfl, ha.symm⟩
    rcases split i a ha with ⟨h1, h2⟩ | ⟨h1, rfl⟩
    · rcases split j b hbb with ⟨h3, h4⟩ | ⟨h3, rfl⟩
      · exact h.apart i j a b q h2 h4 hq1 hq2
      · exact (key i a q h2 hq1 hq2).elim
    · rcases split j b hbb with ⟨h3, h4⟩ | ⟨h3, _⟩
      · exact (key j b q h4 hq2 hq1).elim
      · rw [h1, h3]
theorem NestSt.emp {lo hi : Nat} (w : World) : NestSt eI 2 51 lo hi (.slice none 0 0) [] [] w :=
  ⟨⟨Own.nil _ _ _, fun g hg => by simp [Value.ownBlock] at hg⟩, rfl, fun i s x hs => by simp at hs, fun i j s t g hs => by simp at hs⟩
theorem NestSt.chg {α : Type} {E : Enc α} {e eo : TypeId} {lo hi a b : Nat} {u : Value} {vs : List SV} {Y : List (List α)} {w w' : World} (h : NestSt E e eo lo hi u vs Y w) (hc : Chg a b w w') (hd : b ≤ lo ∨ hi ≤ a) : NestSt E e eo lo hi u vs Y w' :=
  ⟨h.outer.chg hc hd, h.len, fun i s x hs hx => (h.inner i s x hs hx).chg hc hd, h.apart⟩
theorem NestSt.below {α : Type} {E : Enc α} {e eo : TypeId} {lo hi : Nat} {u : Value} {vs : List SV} {Y : List (List α)} {w w' : World} (h : NestSt E e eo lo hi u vs Y w) (hb : Below w.heap.size w w') : NestSt E e eo lo hi u vs Y w' :=
  h.chg (Chg.of_below (a := 0) (b := 0) hb) (.inl (Nat.zero_le _))
/-- a slice of numbers is made, at one operation of a drawn region -/
theorem upon_makeI {G : Value → World → Prop} {ρ : Operand → Value} {w : World} {o : Oper} (l c : Operand) (ho : o.op = .makeSlice 51 l c) (n : Nat) (hl : ρ l = .int .i64 n) (hc : ρ c = .int .i64 n) (hn : n ≤ 1048576)
    (h : ∀ w', Own eI 2 w.heap.size w' (.slice (some ⟨w.heap.size, 0, none⟩) n n) (List.replicate n 0) → Below w.heap.size w w' → G (.slice (some ⟨w.heap.size, 0, none⟩) n n) w') : UponG Tryz.prog G ((execOp ρ o).run Tryz.prog w) := by
  obtain ⟨i0, hi, hz0, hz1, hz2⟩ := info_parts infoI
  obtain ⟨w', hr, h1, h2⟩ := run_make_full (P := Tryz.prog) w w.heap.size 51 2 i0 _ 1 Tryz.underlying51 hi hz0 hz1 .i64 .i64 n (by rw [hz2]; omega) (by unfold maxLen; omega) (Nat.le_refl _)
  unfold execOp
  simp only [ho, hl, hc]
  rw [Sem.run_bind, hr]
  simp only [Result.andThen_ok, Sem.run_pure]
  exact h w' (Own.made (E := eI) (z := (0 : Int)) h1 rfl) ((Below.refl _ _).grown h2 (Nat.le_refl _) (by simp))
end Go.Proofs.YtbgjojnjbplblaaGreatDoor
namespace Go.Proofs.YtbgjojnjbplblaaGreatDoor
open Go.RowKit

theorem infStr : (Tryz.prog.info? 9).map (fun i => (i.zero, i.size, i.bytes)) = some (some (.string ByteArray.empty), eStr.sz, 16) := by kernel_rfl
theorem infRow : (Tryz.prog.info? 51).map (fun i => (i.zero, i.size, i.bytes)) = some (some (.slice none 0 0), 1, 24) := by kernel_rfl
end Go.Proofs.YtbgjojnjbplblaaGreatDoor
namespace Go.Proofs.YtbgjojnjbplblaaGreatDoor
open Go.RowKit

/-- what a row of owned rows holds, and what a store into it leaves -/
theorem NestSt.put {lo hi : Nat} {u : Value} {vs : List SV} {Y : List (List Int)} {w : World} (h : NestSt eI 2 51 lo hi u vs Y w) {a : Nat} {r : List Int} (hx : Y[a]? = some r) {k : Nat} {c : Int} (hk : r[k]? = some c) :
    ∃ (s : SV) (g cap : Nat), vs[a]? = some s ∧ s.val = .slice (some ⟨g, 0, none⟩) r.length cap ∧ lo ≤ g ∧ g < hi ∧ g < w.heap.size ∧ w.cell? ⟨g, k, none⟩ = some (.int .i64 c) ∧ (∀ j, w.frozen? ⟨g, j, none⟩ = false) ∧
      ∀ c' : Int, NestSt eI 2 51 lo hi u vs (Y.set a (r.set k c')) (w.setCell ⟨g, k, none⟩ (.int .i64 c')) ∧ Mk (fun T => T == 2 || T == 51) lo hi w (w.setCell ⟨g, k, none⟩ (.int .i64 c')) := by
  have hlen := h.len
  have hkl := (List.getElem?_eq_some_iff.1 hk).1
  obtain ⟨s, hs⟩ : ∃ s, vs[a]? = some s := ⟨_, List.getElem?_eq_getElem (by rw [hlen]; exact (List.getElem?_eq_some_iff.1 hx).1)⟩
  have hin := h.inner a s r hs hx
  obtain ⟨g, cap, hv, hg0, hg1⟩ : ∃ g cap, s.val = .slice (some ⟨g, 0, none⟩) r.length cap ∧ lo ≤ g ∧ g < w.heap.size := by
    rcases hin.1.shape with ⟨_, h0⟩ | ⟨g, cap, hv, h1, h2⟩
    · rw [h0] at hkl; simp at hkl
    · exact ⟨g, cap, hv, h1, h2⟩
  have hghi : g < hi := hin.2 g (by rw [hv]; simp [Value.ownBlock])
  obtain ⟨lo', hi', hl, hnar, hout, hblk⟩ := hin.narrow
  have hnar0 := hnar
  rw [hv] at hnar
  refine ⟨s, g, cap, hs, hv, hg0, hghi, hg1, ownE_get hnar.1 hk, fun j => hnar.1.free rfl j, fun c' => ?_⟩
  have s1 := hnar.set1 rfl (j := 0) (x' := c') (u := .int .i64 c') hk (by decide) rfl
  have e : w.setCell ⟨g, k * eI.sz + 0, none⟩ (.int .i64 c') = w.setCell ⟨g, k, none⟩ (.int .i64 c') := by
    show w.setCell ⟨g, k * 1, none⟩ _ = _
    rw [Nat.mul_one]
  rw [e] at s1
  exact h.mark (by rfl) hs hx hl hout hblk (by rw [hv]; exact s1.1) s1.2
end Go.Proofs.YtbgjojnjbplblaaGreatDoor
