/- A region that draws its order and holds one store into memory that the region itself has made: the operations' properties have two stages, ahead of the store and behind it. Plain lemmas on the model, no program. -/
import Derived.Test.YtnhmailnnggmjaaReg
namespace Go.Proofs.Ytnhmailnnggmjaa
open Go.RowKit

/-- an invariant over what has been listed, what the region's slots hold, and the world serves every order -/
theorem wp_region_J {P : Program} {id : Nat} {Q : Exit → Act → World → Prop} {tmps : Array Value} {df : List Deferred} {w0 : World} {l : List Oper} (J : (Nat → Bool) → (Nat → Value) → World → Prop)
    (hm : P.follows .mixedOrders = true) (hd : dstsApart l = true) (he : edgesBack 0 l = true) (hin : dstsIn tmps.size l = true)
    (hJ0 : ∀ x, J (fun _ => false) x { w0 with drawn := w0.drawn + 1 })
    (hstep : ∀ (L : Nat → Bool) (x : Nat → Value) (w : World) (i : Nat) (o : Oper), l[i]? = some o → L i = false → (∀ e ∈ o.after, Region.binds .any e = true → L e.on = true) → J L x w →
      ∀ (ρ : Operand → Value), (∀ t, (dstsOf l).contains t = false → ρ (.tmp t) = tmps.getD t undef) → (∀ c, ρ (.const c) = c) → (∀ f, ρ (.func f) = .func (.func f) #[] #[]) → (∀ g, ρ (.global g) = .pointer (some ⟨g, 0, none⟩)) →
      (∀ (j : Nat) (o' : Oper) (d : Tmp), l[j]? = some o' → o'.dst = some d → ρ (.tmp d) = x j) →
      if Region.wanted o (yieldedR l ρ) = true then
        (match (execOp ρ o).run P w with
         | .ok (.value v) w' => J (fun j => if j = i then true else L j) (fun j => if j = i then v else x j) w'
         | .ok .skip w' => J (fun j => if j = i then true else L j) (fun j => if j = i then undef else x j) w'
         | .ok (.enter f args) w' => Calls P f args w' fun e w'' => ∃ v, e = .returned v ∧ J (fun j => if j = i then true else L j) (fun j => if j = i then v else x j) w''
         | _ => False)
      else J (fun j => if j = i then true else L j) (fun j => if j = i then undef else x j) w)
    (hend : ∀ (L : Nat → Bool) (x : Nat → Value) (w : World), (∀ i, i < l.length → L i = true) → J L x w → Q .normal (putAll ⟨tmps, df⟩ x 0 l) w) :
    (Code.region id l.toArray true).wp P Q ⟨tmps, df⟩ w0 := by
  refine wp_region_any hm ?_
  generalize ha0 : (⟨tmps, df⟩ : Act) = a0 at *
  have htm : a0.tmps = tmps := by rw [← ha0]
  let Inv : Array Bool → Act → World → Prop := fun listed a w => listed.size = l.length ∧ ∃ x, a = putAll a0 x 0 l ∧ J (fun i => listed.getD i false) x w
  have hready : ∀ listed : Array Bool, listed.size = l.length → Region.ready .any l.toArray listed = [] → ∀ i, i < l.length → listed.getD i false = true := by
    intro listed hs hr i
    induction i using Nat.strongRecOn with
    | _ i ih =>
      intro hi
      by_cases h : listed.getD i false = true
      · exact h
      · exfalso
        have hmem : i ∈ Region.ready .any l.toArray listed := by
          refine mem_ready.2 ⟨?_, l[i], by simp [hi], fun e hee hb => ?_⟩
          · have hi' : i < listed.size := by omega
            simp [hi'] at h ⊢; exact h
          · have := edgesBack_get l 0 he i l[i] (List.getElem?_eq_getElem hi) e hee hb
            exact ih e.on (by omega) (by omega)
        rw [hr] at hmem; cases hmem
  have main : ∀ (fuel : Nat) (listed : Array Bool) (a : Act) (w : World), Inv listed a w → (listed.toList.filter (! ·)).length ≤ fuel → wpAny P .any l.toArray Q fuel listed a w := by
    intro fuel
    induction fuel with
    | zero =>
      intro listed a w hI hc
      obtain ⟨hs, x, rfl, hx⟩ := hI
      have hall : ∀ i, i < l.length → listed.getD i false = true := by
        intro i hi
        have h0 : (listed.toList.filter (! ·)) = [] := List.length_eq_zero_iff.1 (by omega)
        rw [List.filter_eq_nil_iff] at h0
        have hi' : i < listed.size := by omega
        have := h0 listed[i] (by simp)
        simp [hi'] at this ⊢; exact this
      refine ⟨?_, hend _ x w hall hx⟩
      cases hr : Region.ready .any l.toArray listed with
      | nil => rfl
      | cons j js =>
        have hj : j ∈ Region.ready .any l.toArray listed := by rw [hr]; exact List.mem_cons_self
        obtain ⟨h1, o, ho, _⟩ := mem_ready.1 hj
        have hj' : j < l.length := by
          rcases Nat.lt_or_ge j l.length with h | h
          · exact h
          · simp [Nat.not_lt.2 h] at ho
        have := hall j hj'
        have hjs : j < listed.size := by omega
        simp [hjs] at h1 this
        rw [this] at h1; cases h1
    | succ fuel ih =>
      intro listed a w hI hc
      refine ⟨fun hr => ?_, fun i hi => ?_⟩
      · obtain ⟨hs, x, rfl, hx⟩ := hI
        exact hend _ x w (hready listed hs hr) hx
      · obtain ⟨hs, x, rfl, hx⟩ := hI
        obtain ⟨h1, o, ho, hall⟩ := mem_ready.1 hi
        have hol : l[i]? = some o := by simpa using ho
        have hil : i < l.length := (List.getElem?_eq_some_iff.1 hol).1
        have his : i < listed.size := by omega
        have hcount : ((listed.setIfInBounds i true).toList.filter (! ·)).length ≤ fuel := by
          have hf : listed[i] = false := by simpa [his] using h1
          have := count_set listed.toList i (by simpa using his) (by simpa using hf)
          rw [Array.toList_setIfInBounds]
          omega
        have hat : ∀ j o' d, l[j]? = some o' → o'.dst = some d → (putAll a0 x 0 l).eval (.tmp d) = x j := fun j o' d hj hod => by
          have := putAll_at x l 0 j a0 o' d hd hj hod (by
            rw [htm]
            simp only [dstsIn, List.all_eq_true, decide_eq_true_eq] at hin
            exact hin d (List.mem_filterMap.2 ⟨o', List.mem_of_getElem? hj, hod⟩))
          rwa [Nat.zero_add] at this
        have hy : yieldedR l (putAll a0 x 0 l).eval = yielded l.toArray (putAll a0 x 0 l).tmps := by
          funext j
          unfold yieldedR yielded
          simp only [List.getElem?_toArray, Act.eval]
          cases (l[j]?).bind (·.dst) with
          | none => rfl
          | some d =>
            simp only [Option.bind_some, Array.getD_eq_getD_getElem?]
            cases (putAll a0 x 0 l).tmps[d]? with
            | none => rfl
            | some v => cases v <;> rfl
        have hR := hstep (fun i => listed.getD i false) x w i o hol (by simpa [his] using h1) hall hx (putAll a0 x 0 l).eval (fun t ht => (putAll_other x t l 0 a0 ht).trans (by rw [htm])) (fun _ => rfl) (fun _ => rfl) (fun _ => rfl) hat
        rw [hy] at hR
        have hL : (fun j => (listed.setIfInBounds i true).getD j false) = fun j => if j = i then true else listed.getD j false := by
          funext j
          by_cases e : j = i
          · subst e; simp [his]
          · rw [if_neg e]
            have e' : i ≠ j := fun h => e h.symm
            simp [Array.getElem?_setIfInBounds_ne e']
        have next : ∀ v w', J (fun j => if j = i then true else listed.getD j false) (fun j => if j = i then v else x j) w' → wpAny P .any l.toArray Q fuel (listed.setIfInBounds i true) ((putAll a0 x 0 l).put o.dst v) w' := by
          intro v w' hJ
          refine ih _ _ _ ⟨by simpa using hs, fun j => if j = 0 + i then v else x j, putAll_set x v l 0 i a0 o hd hol, ?_⟩ hcount
          rw [hL]
          simpa using hJ
        unfold wpOp
        simp only [ho]
        split
        · rename_i hw
          rw [if_pos hw] at hR
          refine .inl ?_
          unfold Oper.wp
          generalize (execOp (putAll a0 x 0 l).eval o).run P w = r at hR ⊢
          cases r with
          | ok n w' =>
            cases n with
            | value v => exact next v w' hR
            | skip => exact next undef w' hR
            | enter f args =>
              simp only [Oper.upon]
              exact Calls.mono hR fun e w'' ⟨v, he, hJ⟩ => by subst he; exact next v w'' hJ
            | _ => exact hR.elim
          | halt h w' => exact hR.elim
        · rename_i hw
          rw [if_neg hw] at hR
          exact next undef w hR
  refine main _ _ _ _ ⟨by simp, fun i => match l[i]? with | some o => (match o.dst with | some t => a0.tmps.getD t undef | none => undef) | none => undef, ?_, ?_⟩ ?_
  · have key : ∀ (l' : List Oper) (k : Nat) (y : Nat → Value), (∀ i o, l'[i]? = some o → y (k + i) = (match o.dst with | some t => a0.tmps.getD t undef | none => undef)) → putAll a0 y k l' = a0 := by
      intro l'
      induction l' with
      | nil => intros; rfl
      | cons o os ih =>
        intro k y hy
        simp only [putAll]
        have hp : a0.put o.dst (y k) = a0 := by rw [show y k = (match o.dst with | some t => a0.tmps.getD t undef | none => undef) from hy 0 o rfl]; exact put_same a0 o.dst
        rw [hp]
        exact ih (k + 1) y fun i o' ho' => by rw [show k + 1 + i = k + (i + 1) from by omega]; exact hy (i + 1) o' (by simpa using ho')
    exact (key l 0 _ fun i o ho => by simp only [Nat.zero_add, ho]).symm
  · have e0 : (fun i => (Array.replicate l.toArray.size false).getD i false) = fun _ => false := by
      funext i
      rcases Nat.lt_or_ge i l.length with h | h
      · simp [h]
      · simp [Nat.not_lt.2 h]
    rw [e0]
    exact hJ0 _
  · simp

/-- what is asked of an operation other than the store, at one stage -/
def RelStepS (P : Program) (l : List Oper) (φ : Nat → Value → World → Prop) (tmps : Array Value) (w0 : World) (i : Nat) (o : Oper) : Prop :=
  ∀ (ρ : Operand → Value) (w : World), Below w0.heap.size w0 w →
    (∀ t, (dstsOf l).contains t = false → ρ (.tmp t) = tmps.getD t undef) → (∀ c, ρ (.const c) = c) → (∀ f, ρ (.func f) = .func (.func f) #[] #[]) → (∀ g, ρ (.global g) = .pointer (some ⟨g, 0, none⟩)) →
    (∀ e ∈ o.after, Region.binds .any e = true → ∀ d, (l[e.on]?).bind (·.dst) = some d → φ e.on (ρ (.tmp d)) w) →
    (Region.wanted o (yieldedR l ρ) = true → RelUpon P (φ i) w ((execOp ρ o).run P w)) ∧ (Region.wanted o (yieldedR l ρ) = false → φ i undef w)

/-- what is asked of the store -/
def RelStoreS (P : Program) (l : List Oper) (φ φ' : Nat → Value → World → Prop) (tmps : Array Value) (w0 : World) (s : Nat) (o : Oper) : Prop :=
  o.guard = none ∧ ∀ (ρ : Operand → Value) (w : World), Below w0.heap.size w0 w →
    (∀ t, (dstsOf l).contains t = false → ρ (.tmp t) = tmps.getD t undef) → (∀ c, ρ (.const c) = c) →
    (∀ e ∈ o.after, Region.binds .any e = true → ∀ d, (l[e.on]?).bind (·.dst) = some d → φ e.on (ρ (.tmp d)) w) →
    ∃ w', (execOp ρ o).run P w = .ok .skip w' ∧ Below w0.heap.size w0 w' ∧ φ' s undef w' ∧ ∀ j v, j < l.length → φ j v w → (∀ d, (l[j]?).bind (·.dst) = some d → v = ρ (.tmp d)) → φ' j v w'

/-- the stages at which an operation can come up -/
def needsStage (l : List Oper) (s : Nat) (b : Bool) (i : Nat) (o : Oper) : Bool :=
  if b then !((l[s]?).map fun os => os.after.any fun e => Region.binds .any e && e.on == i).getD false
  else !(o.after.any fun e => Region.binds .any e && e.on == s)

theorem stage_no {l : List Oper} {s i : Nat} {b : Bool} {o : Oper} {X : Prop} (h0 : needsStage l s b i o = false) : needsStage l s b i o = true → X := fun h => by rw [h0] at h; cases h

theorem wp_region_rel2 {P : Program} {id : Nat} {Q : Exit → Act → World → Prop} {tmps : Array Value} {df : List Deferred} {w0 : World} {l : List Oper} (s : Nat) (φ φ' : Nat → Value → World → Prop)
    (hm : P.follows .mixedOrders = true) (hd : dstsApart l = true) (he : edgesBack 0 l = true) (hin : dstsIn tmps.size l = true)
    (hst : ∀ i v w w', φ i v w → Below w.heap.size w w' → φ i v w') (hst' : ∀ i v w w', φ' i v w → Below w.heap.size w w' → φ' i v w')
    (hstep : StepsAll (fun i o => i = s ∨ ((needsStage l s false i o = true → RelStepS P l φ tmps w0 i o) ∧ (needsStage l s true i o = true → RelStepS P l φ' tmps w0 i o))) 0 l)
    (hstore : ∀ o, l[s]? = some o → RelStoreS P l φ φ' tmps w0 s o)
    (hs : s < l.length)
    (hend : ∀ (x : Nat → Value) (w : World), Below w0.heap.size w0 w → (∀ i, i < l.length → φ' i (x i) w) → Q .normal (putAll ⟨tmps, df⟩ x 0 l) w) :
    (Code.region id l.toArray true).wp P Q ⟨tmps, df⟩ w0 := by
  refine wp_region_J (fun L x w => (Below w0.heap.size w0 w ∧ ∀ i, i < l.length → L i = true → (L s = false → φ i (x i) w) ∧ (L s = true → φ' i (x i) w)) ∧ (L s = true → ∀ os, l[s]? = some os → ∀ e ∈ os.after, Region.binds .any e = true → L e.on = true)) hm hd he hin
    (fun x => ⟨⟨⟨rfl, rfl, rfl, Nat.le_refl _, fun _ _ => rfl⟩, fun i _ h => by cases h⟩, fun h => by cases h⟩) ?_ (fun L x w hL hJ => hend x w hJ.1.1 fun i hi => (hJ.1.2 i hi (hL i hi)).2 (hL s hs))
  intro L x w i o ho hLi hae hJC ρ ht hc hf hg hx
  obtain ⟨hJ, hC⟩ := hJC
  have hC' : (if s = i then true else L s) = true → ∀ os, l[s]? = some os → ∀ e ∈ os.after, Region.binds .any e = true → (if e.on = i then true else L e.on) = true := by
    intro h os hos e hee hb
    by_cases e1 : e.on = i
    · rw [if_pos e1]
    · rw [if_neg e1]
      by_cases e2 : s = i
      · subst e2
        rw [hos] at ho
        obtain rfl := Option.some.inj ho
        exact hae e hee hb
      · rw [if_neg e2] at h
        exact hC h os hos e hee hb
  have hil : i < l.length := (List.getElem?_eq_some_iff.1 ho).1
  have hdep : ∀ (ψ : Nat → Value → World → Prop), (∀ j, j < l.length → L j = true → ψ j (x j) w) → ∀ e ∈ o.after, Region.binds .any e = true → ∀ d, (l[e.on]?).bind (·.dst) = some d → ψ e.on (ρ (.tmp d)) w := by
    intro ψ hψ e hee hb d hdd
    obtain ⟨o', ho', hod⟩ := Option.bind_eq_some_iff.1 hdd
    rw [hx e.on o' d ho' hod]
    exact hψ e.on (List.getElem?_eq_some_iff.1 ho').1 (hae e hee hb)
  by_cases his : i = s
  · subst his
    obtain ⟨hgd, hS⟩ := hstore o ho
    obtain ⟨w', hrun, hb', hφs, hall⟩ := hS ρ w hJ.1 ht hc (hdep φ fun j hj hL => (hJ.2 j hj hL).1 hLi)
    rw [if_pos (by simp [Region.wanted, hgd]), hrun]
    refine ⟨⟨hb', fun j hj hLj => ⟨fun h => by simp at h, fun _ => ?_⟩⟩, hC'⟩
    by_cases e : j = i
    · subst e; simpa using hφs
    · simp only [e, if_false] at hLj ⊢
      exact hall j _ hj ((hJ.2 j hj hLj).1 hLi) fun d hd => by
        obtain ⟨o', ho', hod⟩ := Option.bind_eq_some_iff.1 hd
        exact (hx j o' d ho' hod).symm
  · have hSt := stepsAll_get l 0 hstep i o ho
    rw [Nat.zero_add] at hSt
    obtain hSt := hSt.resolve_left his
    have hsi : s ≠ i := fun h => his h.symm
    have done : ∀ (ψ : Nat → Value → World → Prop) (b : Bool), L s = b → (∀ j v u u', ψ j v u → Below u.heap.size u u' → ψ j v u') → (∀ j, j < l.length → L j = true → ψ j (x j) w) → (b = false → ψ = φ) → (b = true → ψ = φ') →
        ∀ (v : Value) (u : World), Below w.heap.size w u → ψ i v u → Below w0.heap.size w0 u ∧ ∀ j, j < l.length → (if j = i then true else L j) = true →
          ((if s = i then true else L s) = false → φ j (if j = i then v else x j) u) ∧ ((if s = i then true else L s) = true → φ' j (if j = i then v else x j) u) := by
      intro ψ b hb hstψ hψ e1 e2 v u hbu hi'
      refine ⟨hJ.1.trans (hbu.mono hJ.1.size), fun j hj hLj => ?_⟩
      rw [if_neg hsi, hb]
      have key : ψ j (if j = i then v else x j) u := by
        by_cases e : j = i
        · subst e; simpa using hi'
        · rw [if_neg e] at hLj ⊢
          exact hstψ j _ w u (hψ j hj hLj) hbu
      exact ⟨fun h => by rw [← e1 h]; exact key, fun h => by rw [← e2 h]; exact key⟩
    let K : Value → World → Prop := fun v u => (Below w0.heap.size w0 u ∧ ∀ j, j < l.length → (if j = i then true else L j) = true →
          ((if s = i then true else L s) = false → φ j (if j = i then v else x j) u) ∧ ((if s = i then true else L s) = true → φ' j (if j = i then v else x j) u)) ∧
          ((if s = i then true else L s) = true → ∀ os, l[s]? = some os → ∀ e ∈ os.after, Region.binds .any e = true → (if e.on = i then true else L e.on) = true)
    have fin : ∀ (ψ : Nat → Value → World → Prop), ((Region.wanted o (yieldedR l ρ) = true → RelUpon P (ψ i) w ((execOp ρ o).run P w)) ∧ (Region.wanted o (yieldedR l ρ) = false → ψ i undef w)) →
        (∀ (v : Value) (u : World), Below w.heap.size w u → ψ i v u → Below w0.heap.size w0 u ∧ ∀ j, j < l.length → (if j = i then true else L j) = true →
          ((if s = i then true else L s) = false → φ j (if j = i then v else x j) u) ∧ ((if s = i then true else L s) = true → φ' j (if j = i then v else x j) u)) →
        if Region.wanted o (yieldedR l ρ) = true then
          (match (execOp ρ o).run P w with
           | .ok (.value v) w' => K v w'
           | .ok .skip w' => K undef w'
           | .ok (.enter f args) w' => Calls P f args w' fun e w'' => ∃ v, e = .returned v ∧ K v w''
           | _ => False)
        else K undef w := by
      intro ψ hR hdone0
      have hdone : ∀ (v : Value) (u : World), Below w.heap.size w u → ψ i v u → K v u := fun v u h1 h2 => ⟨hdone0 v u h1 h2, hC'⟩
      split
      · rename_i hw
        have hU := hR.1 hw
        generalize (execOp ρ o).run P w = r at hU ⊢
        cases r with
        | ok n w' =>
          cases n with
          | value v => exact hdone v w' hU.1 hU.2
          | skip => exact hdone undef w' hU.1 hU.2
          | enter f args => exact Calls.mono hU fun e w'' ⟨v, he, hb', hφ⟩ => ⟨v, he, hdone v w'' hb' hφ⟩
          | _ => exact hU.elim
        | halt h w' => exact hU.elim
      · rename_i hw
        exact hdone undef w (Below.refl _ _) (hR.2 (by simpa using hw))
    cases hb : L s with
    | false =>
      have hn : needsStage l s false i o = true := by
        simp only [needsStage, Bool.false_eq_true, if_false, Bool.not_eq_true', Array.any_eq_false']
        intro e hee h
        simp only [Bool.and_eq_true, beq_iff_eq] at h
        have := hae e hee h.1
        rw [h.2, hb] at this; cases this
      have hψ : ∀ j, j < l.length → L j = true → φ j (x j) w := fun j hj hL => (hJ.2 j hj hL).1 hb
      exact fin φ (hSt.1 hn ρ w hJ.1 ht hc hf hg (hdep φ hψ)) (done φ false hb hst hψ (fun _ => rfl) (fun h => by cases h))
    | true =>
      have hψ : ∀ j, j < l.length → L j = true → φ' j (x j) w := fun j hj hL => (hJ.2 j hj hL).2 hb
      by_cases hn : needsStage l s true i o = true
      · exact fin φ' (hSt.2 hn ρ w hJ.1 ht hc hf hg (hdep φ' hψ)) (done φ' true hb hst' hψ (fun h => by cases h) (fun _ => rfl))
      · exfalso
        apply hn
        simp only [needsStage, if_true, Bool.not_eq_true']
        cases hos : l[s]? with
        | none => rfl
        | some os =>
          simp only [Option.map_some, Option.getD_some, Array.any_eq_false']
          intro e hee h
          simp only [Bool.and_eq_true, beq_iff_eq] at h
          have := hC hb os hos e hee h.1
          rw [h.2, hLi] at this; cases this
end Go.Proofs.Ytnhmailnnggmjaa
