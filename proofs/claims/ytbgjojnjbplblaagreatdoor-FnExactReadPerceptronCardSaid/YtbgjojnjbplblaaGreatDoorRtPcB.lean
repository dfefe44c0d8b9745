/- A perceptron that a call puts together: labels and rows in one box. Plain lemmas. -/
import Derived.Test.YtbgjojnjbplblaaGreatDoorRtPcp
import Derived.Test.YtbgjojnjbplblaaGreatDoorRtBox
import Derived.Test.YtbgjojnjbplblaaGreatDoorPcGrow
import Derived.Test.YtbgjojnjbplblaaGreatDoorAppO
namespace Go.Proofs.YtbgjojnjbplblaaGreatDoor
open Go.RowKit

theorem wpList_appO2 {α : Type} {E : Enc α} {P : Program} {w : World} {ops : Array Oper} {rest : List Oper} {o : Oper} {a : Act} {Q : Exit → Act → World → Prop} (hgd : o.guard = none) (s x : Operand) (t : TypeId)
    (ho : o.op = .call { callee := .builtin .append, args := #[s, x], argTypes := #[t, t] })
    (B : Nat) (e : TypeId) (z : Value) (bytes : Nat) (hi : (P.info? e).map (fun i => (i.zero, i.size, i.bytes)) = some (some z, E.sz, bytes)) (ht : P.underlying t = some (.slice e)) (hzs : z.cells.size = E.sz)
    (v : Value) (xs : List α) (hs : a.eval s = v) (hown : Own E e B w v xs) (vx : Value) (ys : List α) (hx : a.eval x = vx) (hy : Arr E w vx ys)
    (h63 : xs.length + ys.length ≤ maxLen) (hbytes : (xs.length + ys.length) * bytes ≤ 140737488355328) (hB : B ≤ w.heap.size)
    (h : ∀ v' w', Own E e B w' v' (xs ++ ys) → w.grownBy w' v.ownBlock → wpList P ops Q rest (a.put o.dst v') w') : wpList P ops Q (o :: rest) a w := by
  refine wpList_plain hgd fun K hK => ?_
  obtain ⟨v', w', hr, h1, h2, h3⟩ := run_append_arrO (P := P) t o.type B e z bytes hi ht hzs v xs hown vx ys hy h63 hbytes hB
  unfold Oper.wp execOp
  simp only [ho, resolve, invoke, builtin, Sem.run_bind, Sem.run_pure, Result.andThen_ok, List.map_toArray, List.map_cons, List.map_nil, hs, hx, hr]
  exact hK _ _ (h v' w' h1 h2)
theorem infRowR : (Tryz.prog.info? 51).map (fun i => (i.zero, i.size, i.bytes)) = some (some (.slice none 0 0), eS1.sz, 24) := by kernel_rfl
theorem infIR : (Tryz.prog.info? 2).map (fun i => (i.zero, i.size, i.bytes)) = some (some (.int .i64 0), eI.sz, 8) := by kernel_rfl
abbrev NestP (lo hi : Nat) (u : Value) (vs : List SV) (X : List (List Int)) (w : World) : Prop := NestSt eI 2 51 lo hi u vs X w
theorem NestSt.typedR {lo hi : Nat} {u : Value} {vs : List SV} {X : List (List Int)} {w w' : World} {ty : TypeId → Bool} (h : NestP lo hi u vs X w) (ht : Typed ty w w') (h1 : ty 2 = false) (h2 : ty 51 = false) : NestP lo hi u vs X w' :=
  ⟨h.outer.typed ht h2, h.len, fun i s x hs hx => (h.inner i s x hs hx).typed ht h1, h.apart⟩
theorem NestSt.push2 {lo hi : Nat} {u u' : Value} {vs : List SV} {X : List (List Int)} {w1 w2 : World} {s : SV} {r : List Int} (h : NestP lo hi u vs X w1) (hlo : lo ≤ hi) (hhi : hi ≤ w1.heap.size)
    (hr : OwnIn eI 2 hi w1.heap.size w1 s.val r) (ho : Own eS1 51 lo w2 u' (vs ++ [s])) (hg : w1.grownBy w2 u.ownBlock) : NestP lo w2.heap.size u' (vs ++ [s]) (X ++ [r]) w2 := by
  have hl := h.len
  have hty := own_typed h.outer.1 hg
  have hsz : hi ≤ w2.heap.size := Nat.le_trans hhi hg.size
  refine ⟨ho.in_, by simp [hl], fun i a x ha hx => ?_, fun i j a b q ha hbb hq1 hq2 => ?_⟩
  · by_cases hi : i < vs.length
    · rw [List.getElem?_append_left hi] at ha
      rw [List.getElem?_append_left (by omega)] at hx
      exact ((h.inner i a x ha hx).typed hty (by rfl)).mono (Nat.le_refl _) hsz
    · have e : i = vs.length := by have := (List.getElem?_eq_some_iff.1 ha).1; simp at this; omega
      subst e
      simp at ha
      subst ha
      rw [hl] at hx
      simp at hx
      subst hx
      exact (hr.typed hty (by rfl)).mono hlo hg.size
  · have key : ∀ (j : Nat) (b : SV) (q : Nat), vs[j]? = some b → b.blk = some q → s.blk = some q → False := fun j b q hj h1 h2 => by
      have hj2 : j < X.length := by rw [← hl]; exact (List.getElem?_eq_some_iff.1 hj).1
      have h3 := (h.inner j b _ hj (List.getElem?_eq_getElem hj2)).2 q h1
      have h4 := (World.ownsRow.lt hr.1 q h2).1
      omega
    have split : ∀ (i : Nat) (a : SV), (vs ++ [s])[i]? = some a → (i < vs.length ∧ vs[i]? = some a) ∨ (i = vs.length ∧ a = s) := fun i a ha => by
      by_cases hi : i < vs.length
      · rw [List.getElem?_append_left hi] at ha; exact .inl ⟨hi, ha⟩
      · have e : i = vs.length := by have := (List.getElem?_eq_some_iff.1 ha).1; simp at this; omega
        subst e
        simp at ha
        exact .inr ⟨rfl, ha.symm⟩
    rcases split i a ha with ⟨h1, h2⟩ | ⟨h1, rfl⟩
    · rcases split j b hbb with ⟨h3, h4⟩ | ⟨h3, rfl⟩
      · exact h.apart i j a b q h2 h4 hq1 hq2
      · exact (key i a q h2 hq1 hq2).elim
    · rcases split j b hbb with ⟨h3, h4⟩ | ⟨h3, _⟩
      · exact (key j b q h4 hq2 hq1).elim
      · rw [h1, h3]
def FinP (q : Nat) (U : World) (L : List ByteArray) (X : List (List Int)) (w : World) : Prop := ∃ ul uo vs, Box w q #[ul, uo] 33 ∧ Own eStr 9 (q + 1) w ul L ∧ NestP (q + 1) w.heap.size uo vs X w ∧ Below q U w
structure MidP (q : Nat) (U : World) (hi : Nat) (ul uo : Value) (vs : List SV) (X : List (List Int)) (rv : Value) (r : List Int) (w : World) : Prop where
  box : Box w q #[ul, uo] 33
  nest : NestP (q + 1) hi uo vs X w
  row : OwnIn eI 2 hi w.heap.size w rv r
  hi1 : hi ≤ w.heap.size
  hi2 : q < hi
  bel : Below q U w
section
variable {q hi : Nat} {U w w' w2 : World} {ul uo rv : Value} {vs : List SV} {X : List (List Int)} {r : List Int} {L : List ByteArray}
theorem MidP.below (h : MidP q U hi ul uo vs X rv r w) (hb : Below w.heap.size w w') : MidP q U hi ul uo vs X rv r w' :=
  ⟨h.box.later hb, h.nest.below hb, (OwnIn.chg h.row (Chg.of_below (a := 0) (b := 0) hb) (.inl (Nat.zero_le _))).mono (Nat.le_refl _) hb.size, Nat.le_trans h.hi1 hb.size, h.hi2, h.bel.trans (hb.mono (Nat.le_of_lt h.box.lt))⟩
theorem MidP.grown (h : MidP q U hi ul uo vs X rv r w) (hown : Own eStr 9 (q + 1) w ul L) (hg : w.grownBy w' ul.ownBlock) : MidP q U hi ul uo vs X rv r w' := by
  have hty := own_typed hown hg
  have hne : ∀ k, ul.ownBlock = some k → q < k := fun k hk => by have := (World.ownsRow.lt hown k hk).1; omega
  refine ⟨grownBoxX h.box hg (fun e => by have := hne q e; omega), h.nest.typedR hty (by rfl) (by rfl), (h.row.typed hty (by rfl)).mono (Nat.le_refl _) hg.size, Nat.le_trans h.hi1 hg.size, h.hi2, ?_⟩
  exact h.bel.grown hg (Nat.le_of_lt h.box.lt) (fun k hk => Nat.le_of_lt (hne k hk))
theorem MidP.set (h : MidP q U hi ul uo vs X rv r w) (u : Value) : MidP q U hi u uo vs X rv r (w.setCell ⟨q, 0, none⟩ u) :=
  ⟨h.box.set 0 u, h.nest.chg (chg_set w q 0 u) (.inl (Nat.le_refl _)), by
    have := OwnIn.chg h.row (chg_set w q 0 u) (.inl h.hi2)
    exact this.mono (Nat.le_refl _) (by simp), by have := h.hi1; simpa using this, h.hi2, h.bel.setCell (Nat.le_refl _) _⟩
def FinM (q : Nat) (U : World) (hi : Nat) (uo : Value) (vs : List SV) (X : List (List Int)) (rv : Value) (r : List Int) (L : List ByteArray) (w : World) : Prop := ∃ ul, MidP q U hi ul uo vs X rv r w ∧ Own eStr 9 (q + 1) w ul L
theorem FinM.below (h : FinM q U hi uo vs X rv r L w) (hb : Below w.heap.size w w') : FinM q U hi uo vs X rv r L w' := by
  obtain ⟨ul, h1, h2⟩ := h
  exact ⟨ul, h1.below hb, h2.below hb⟩
theorem MidP.pushBox (h : MidP q U hi ul uo vs X rv r w) (hg : w.grownBy w2 uo.ownBlock) : Box w2 q #[ul, uo] 33 := by
  have hne : ∀ k, uo.ownBlock = some k → q < k := fun k hk => by have := (World.ownsRow.lt h.nest.outer.1 k hk).1; omega
  exact grownBoxX h.box hg (fun e => by have := hne q e; omega)
theorem MidP.mk' {wr wi : World} (hbx : Box wr q #[ul, uo] 33) (hst : NestP (q + 1) wr.heap.size uo vs X wr) (hbl : Below q U wr) (hb : Below wr.heap.size wr wi) {B : Nat} (ho : Own eI 2 B wi rv r) (hB : wr.heap.size ≤ B) : MidP q U wr.heap.size ul uo vs X rv r wi :=
  ⟨hbx.later hb, hst.below hb, ho.in_.mono hB (Nat.le_refl _), hb.size, hbx.lt, hbl.trans (hb.mono (Nat.le_of_lt hbx.lt))⟩
theorem MidP.push {s : SV} {u' : Value} (h : MidP q U hi ul uo vs X s.val r w) (hl : Own eStr 9 (q + 1) w ul L) (ho : Own eS1 51 (q + 1) w2 u' (vs ++ [s])) (hg : w.grownBy w2 uo.ownBlock) : FinP q U L (X ++ [r]) (w2.setCell ⟨q, 1, none⟩ u') := by
  have hty := own_typed h.nest.outer.1 hg
  have hne : ∀ k, uo.ownBlock = some k → q < k := fun k hk => by have := (World.ownsRow.lt h.nest.outer.1 k hk).1; omega
  have hst := h.nest.push2 h.hi2 h.hi1 h.row ho hg
  have hbx := grownBoxX h.box hg (fun e => by have := hne q e; omega)
  refine ⟨ul, u', vs ++ [s], hbx.set 1 u', (hl.typedR hty (by rfl)).setBelow (Nat.lt_succ_self q) _, ?_, ?_⟩
  · have := hst.chg (chg_set w2 q 1 u') (.inl (Nat.le_refl _))
    simpa using this
  · exact (h.bel.grown hg (Nat.le_of_lt h.box.lt) (fun k hk => Nat.le_of_lt (hne k hk))).setCell (Nat.le_refl _) _
end
theorem NestSt.nowR {lo : Nat} {u : Value} {vs : List SV} {X : List (List Int)} {w w' : World} (h : NestP lo w.heap.size u vs X w) (hb : Below w.heap.size w w') : NestP lo w'.heap.size u vs X w' := by
  have h1 := h.below hb
  exact ⟨h1.outer.mono (Nat.le_refl _) hb.size, h1.len, fun i s x hs hx => (h1.inner i s x hs hx).mono (Nat.le_refl _) hb.size, h1.apart⟩
theorem nest_set2 {lo lo' : Nat} {u a b : Value} {vs : List SV} {X : List (List Int)} {w : World} {p i j : Nat} (h : NestP lo w.heap.size u vs X w) (hp : p + 1 ≤ lo) (hl : lo' ≤ lo) : NestP lo' ((w.setCell ⟨p, i, none⟩ a).setCell ⟨p, j, none⟩ b).heap.size u vs X ((w.setCell ⟨p, i, none⟩ a).setCell ⟨p, j, none⟩ b) := by
  have h1 := NestSt.chg h (chg_set w p i a) (.inl hp)
  have h2 := NestSt.chg h1 (chg_set _ p j b) (.inl hp)
  have e : ((w.setCell ⟨p, i, none⟩ a).setCell ⟨p, j, none⟩ b).heap.size = w.heap.size := by simp
  rw [e]
  exact ⟨h2.outer.mono hl (Nat.le_refl _), h2.len, fun i s x hs hx => (h2.inner i s x hs hx).mono hl (Nat.le_refl _), h2.apart⟩
def FinPc (s : ByteArray) (w : World) : Prop := ∀ (w' : World) (ul uo : Value) (vs : List SV) (L : List ByteArray) (X : List (List Int)) (c : Bool), Hid (rdPc s = (L, X) ∧ rdPcB s = c) → Own eStr 9 w.heap.size w' ul L → NestP w.heap.size w'.heap.size uo vs X w' → Below w.heap.size w w' → RetNew rPerceptron (rdPc s) #[.bool (rdPcB s)] w (.returned (.tuple #[.agg #[ul, uo], .bool c])) w'
theorem finPc (s : ByteArray) (w : World) : FinPc s w := by
  intro w' ul uo vs L X c hz hl hn hb
  rw [hz.out.1, hz.out.2]
  exact ⟨_, rfl, ⟨_, _, rfl, hl.in_, hn.own⟩, hb⟩
theorem nilNest (lo hi : Nat) (w : World) : NestP lo hi (.slice none 0 0) [] [] w := NestSt.emp w
end Go.Proofs.YtbgjojnjbplblaaGreatDoor
