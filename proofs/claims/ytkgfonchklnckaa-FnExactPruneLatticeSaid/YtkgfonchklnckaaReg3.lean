/- A region that draws its order, with a relation between what its operations yield (two arrays that it makes lie apart). Plain lemmas on the model, no program. -/
import Derived.Test.YtkgfonchklnckaaReg2
namespace Go.Proofs.Ytkgfonchklnckaa
open Go.RowKit

def updL (L : Nat → Bool) (i : Nat) : Nat → Bool := fun j => if j = i then true else L j
def updX (x : Nat → Value) (i : Nat) (v : Value) : Nat → Value := fun j => if j = i then v else x j

/-- what is asked of an operation -/
def RelStepR (P : Program) (l : List Oper) (φ : Nat → Value → World → Prop) (R : (Nat → Bool) → (Nat → Value) → Prop) (tmps : Array Value) (w0 : World) (i : Nat) (o : Oper) : Prop :=
  ∀ (L : Nat → Bool) (x : Nat → Value) (ρ : Operand → Value) (w : World), L i = false → Below w0.heap.size w0 w → R L x → (∀ j, j < l.length → L j = true → φ j (x j) w) →
    (∀ t, (dstsOf l).contains t = false → ρ (.tmp t) = tmps.getD t undef) → (∀ c, ρ (.const c) = c) →
    (∀ e ∈ o.after, Region.binds .any e = true → L e.on = true) → (∀ (j : Nat) (o' : Oper) (d : Tmp), l[j]? = some o' → o'.dst = some d → ρ (.tmp d) = x j) →
    (Region.wanted o (yieldedR l ρ) = true → RelUpon P (fun v w' => φ i v w' ∧ R (updL L i) (updX x i v)) w ((execOp ρ o).run P w)) ∧ (Region.wanted o (yieldedR l ρ) = false → φ i undef w ∧ R (updL L i) (updX x i undef))

theorem wp_region_relR {P : Program} {id : Nat} {Q : Exit → Act → World → Prop} {tmps : Array Value} {df : List Deferred} {w0 : World} {l : List Oper} (φ : Nat → Value → World → Prop) (R : (Nat → Bool) → (Nat → Value) → Prop)
    (hm : P.follows .mixedOrders = true) (hd : dstsApart l = true) (he : edgesBack 0 l = true) (hin : dstsIn tmps.size l = true)
    (hst : ∀ i v w w', φ i v w → Below w.heap.size w w' → φ i v w') (hR0 : ∀ x, R (fun _ => false) x)
    (hstep : StepsAll (RelStepR P l φ R tmps w0) 0 l)
    (hend : ∀ (L : Nat → Bool) (x : Nat → Value) (w : World), Below w0.heap.size w0 w → (∀ i, i < l.length → L i = true) → (∀ i, i < l.length → φ i (x i) w) → R L x → Q .normal (putAll ⟨tmps, df⟩ x 0 l) w) :
    (Code.region id l.toArray true).wp P Q ⟨tmps, df⟩ w0 := by
  refine wp_region_J (fun L x w => Below w0.heap.size w0 w ∧ (∀ i, i < l.length → L i = true → φ i (x i) w) ∧ R L x) hm hd he hin
    (fun x => ⟨⟨rfl, rfl, rfl, Nat.le_refl _, fun _ _ => rfl⟩, (fun i _ h => by cases h), hR0 x⟩) ?_ (fun L x w hL hJ => hend L x w hJ.1 hL (fun i hi => hJ.2.1 i hi (hL i hi)) hJ.2.2)
  intro L x w i o ho hLi hae hJ ρ ht hc hf hg hx
  have hSt := stepsAll_get l 0 hstep i o ho
  rw [Nat.zero_add] at hSt
  have hR := hSt L x ρ w hLi hJ.1 hJ.2.2 hJ.2.1 ht hc hae hx
  have hdone : ∀ (v : Value) (u : World), Below w.heap.size w u → (φ i v u ∧ R (updL L i) (updX x i v)) → Below w0.heap.size w0 u ∧ (∀ j, j < l.length → (if j = i then true else L j) = true → φ j (if j = i then v else x j) u) ∧ R (fun j => if j = i then true else L j) (fun j => if j = i then v else x j) := by
    intro v u hbu h1
    refine ⟨hJ.1.trans (hbu.mono hJ.1.size), fun j hj hLj => ?_, h1.2⟩
    by_cases e : j = i
    · subst e; simpa using h1.1
    · rw [if_neg e] at hLj ⊢
      exact hst j _ w u (hJ.2.1 j hj hLj) hbu
  split
  · rename_i hw
    have hU := hR.1 hw
    generalize (execOp ρ o).run P w = r at hU ⊢
    cases r with
    | ok n w' =>
      cases n with
      | value v => exact hdone v w' hU.1 hU.2
      | skip => exact hdone undef w' hU.1 hU.2
      | enter f args => exact Calls.mono hU fun e w'' ⟨v, he, hb', hφ⟩ => ⟨v, he, hdone v w'' hb' hφ⟩
      | _ => exact hU.elim
    | halt h w' => exact hU.elim
  · rename_i hw
    exact hdone undef w (Below.refl _ _) (hR.2 (by simpa using hw))

/-- a store into one array leaves another one -/
theorem Own.apart {α : Type} {E : Enc α} {e : TypeId} {B g n cap : Nat} {w : World} {xs : List α} (h : Own E e B w (.slice (some ⟨g, 0, none⟩) n cap) xs) {b o : Nat} (hne : g ≠ b) (u : Value) : Own E e B (w.setCell ⟨b, o, none⟩ u) (.slice (some ⟨g, 0, none⟩) n cap) xs :=
  ownsRow_setCell_other h (by simp [Value.ownBlock]; exact hne) u
end Go.Proofs.Ytkgfonchklnckaa
