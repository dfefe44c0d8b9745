/- A drawn region with two writing operations, of which one reads a slot that the region itself assigns later. -/
import Derived.Test.YtlnoelbeaolikaaGreatK09
namespace Go.Proofs.YtlnoelbeaolikaaGreat
open Go.RowKit
theorem wp_region_JT {P : Program} {id : Nat} {Q : Exit → Act → World → Prop} {tmps : Array Value} {df : List Deferred} {w0 : World} {l : List Oper} (J : (Nat → Bool) → (Nat → Value) → World → Prop)
  (hm : P.follows .mixedOrders = true) (hd : dstsApart l = true) (he : edgesBack 0 l = true) (hin : dstsIn tmps.size l = true)
  (hJ0 : ∀ x, (∀ (j : Nat) (o : Oper) (d : Tmp), l[j]? = some o → o.dst = some d → x j = tmps.getD d undef) → J (fun _ => false) x { w0 with drawn := w0.drawn + 1 })
  (hstep : ∀ (L : Nat → Bool) (x : Nat → Value) (w : World) (i : Nat) (o : Oper), l[i]? = some o → L i = false → (∀ e ∈ o.after, Region.binds .any e = true → L e.on = true) → J L x w →
   ∀ (ρ : Operand → Value), (∀ t, (dstsOf l).contains t = false → ρ (.tmp t) = tmps.getD t undef) → (∀ c, ρ (.const c) = c) → (∀ f, ρ (.func f) = .func (.func f) #[] #[]) → (∀ g, ρ (.global g) = .pointer (some ⟨g, 0, none⟩)) →
   (∀ (j : Nat) (o' : Oper) (d : Tmp), l[j]? = some o' → o'.dst = some d → ρ (.tmp d) = x j) →
   if Region.wanted o (yieldedR l ρ) = true then
    (match (execOp ρ o).run P w with
     | .ok (.value v) w' => J (fun j => if j = i then true else L j) (fun j => if j = i then v else x j) w'
     | .ok .skip w' => J (fun j => if j = i then true else L j) (fun j => if j = i then undef else x j) w'
     | .ok (.enter f args) w' => Calls P f args w' fun e w'' => ∃ v, e = .returned v ∧ J (fun j => if j = i then true else L j) (fun j => if j = i then v else x j) w''
     | _ => False)
   else J (fun j => if j = i then true else L j) (fun j => if j = i then undef else x j) w)
  (hend : ∀ (L : Nat → Bool) (x : Nat → Value) (w : World), (∀ i, i < l.length → L i = true) → J L x w → Q .normal (putAll ⟨tmps, df⟩ x 0 l) w) :
  (Code.region id l.toArray true).wp P Q ⟨tmps, df⟩ w0 := by
 refine wp_region_any hm ?_
 generalize ha0 : (⟨tmps, df⟩ : Act) = a0 at *
 have htm : a0.tmps = tmps := by rw [← ha0]
 let Inv : Array Bool → Act → World → Prop := fun listed a w => listed.size = l.length ∧ ∃ x, a = putAll a0 x 0 l ∧ J (fun i => listed.getD i false) x w
 have hready : ∀ listed : Array Bool, listed.size = l.length → Region.ready .any l.toArray listed = [] → ∀ i, i < l.length → listed.getD i false = true := by
  intro listed hs hr i
  induction i using Nat.strongRecOn with
  | _ i ih =>
   intro hi
   by_cases h : listed.getD i false = true
   ·exact h
   ·exfalso
    have hmem : i ∈ Region.ready .any l.toArray listed := by
     refine mem_ready.2 ⟨?_, l[i], by simp [hi], fun e hee hb => ?_⟩
     ·have hi' : i < listed.size := by omega
      simp [hi'] at h ⊢; exact h
     ·have := edgesBack_get l 0 he i l[i] (List.getElem?_eq_getElem hi) e hee hb
      exact ih e.on (by omega) (by omega)
    rw [hr] at hmem; cases hmem
 have main : ∀ (fuel : Nat) (listed : Array Bool) (a : Act) (w : World), Inv listed a w → (listed.toList.filter (! ·)).length ≤ fuel → wpAny P .any l.toArray Q fuel listed a w := by
  intro fuel
  induction fuel with
  | zero =>
   intro listed a w hI hc
   obtain ⟨hs, x, rfl, hx⟩ := hI
   have hall : ∀ i, i < l.length → listed.getD i false = true := by
    intro i hi
    have h0 : (listed.toList.filter (! ·)) = [] := List.length_eq_zero_iff.1 (by omega)
    rw [List.filter_eq_nil_iff] at h0
    have hi' : i < listed.size := by omega
    have := h0 listed[i] (by simp)
    simp [hi'] at this ⊢; exact this
   refine ⟨?_, hend _ x w hall hx⟩
   cases hr : Region.ready .any l.toArray listed with
   | nil => rfl
   | cons j js =>
    have hj : j ∈ Region.ready .any l.toArray listed := by rw [hr]; exact List.mem_cons_self
    obtain ⟨h1, o, ho, _⟩ := mem_ready.1 hj
    have hj' : j < l.length := by
     rcases Nat.lt_or_ge j l.length with h | h
     ·exact h
     ·simp [Nat.not_lt.2 h] at ho
    have := hall j hj'
    have hjs : j < listed.size := by omega
    simp [hjs] at h1 this
    rw [this] at h1; cases h1
  | succ fuel ih =>
   intro listed a w hI hc
   refine ⟨fun hr => ?_, fun i hi => ?_⟩
   ·obtain ⟨hs, x, rfl, hx⟩ := hI
    exact hend _ x w (hready listed hs hr) hx
   ·obtain ⟨hs, x, rfl, hx⟩ := hI
    obtain ⟨h1, o, ho, hall⟩ := mem_ready.1 hi
    have hol : l[i]? = some o := by simpa using ho
    have hil : i < l.length := (List.getElem?_eq_some_iff.1 hol).1
    have his : i < listed.size := by omega
    have hcount : ((listed.setIfInBounds i true).toList.filter (! ·)).length ≤ fuel := by
     have hf : listed[i] = false := by simpa [his] using h1
     have := count_set listed.toList i (by simpa using his) (by simpa using hf)
     rw [Array.toList_setIfInBounds]
     omega
    have hat : ∀ j o' d, l[j]? = some o' → o'.dst = some d → (putAll a0 x 0 l).eval (.tmp d) = x j := fun j o' d hj hod => by
     have := putAll_at x l 0 j a0 o' d hd hj hod (by
      rw [htm]
      simp only [dstsIn, List.all_eq_true, decide_eq_true_eq] at hin
      exact hin d (List.mem_filterMap.2 ⟨o', List.mem_of_getElem? hj, hod⟩))
     rwa [Nat.zero_add] at this
    have hy : yieldedR l (putAll a0 x 0 l).eval = yielded l.toArray (putAll a0 x 0 l).tmps := by
     funext j
     unfold yieldedR yielded
     simp only [List.getElem?_toArray, Act.eval]
     cases (l[j]?).bind (·.dst) with
     | none => rfl
     | some d =>
      simp only [Option.bind_some, Array.getD_eq_getD_getElem?]
      cases (putAll a0 x 0 l).tmps[d]? with
      | none => rfl
      | some v => cases v <;> rfl
    have hR := hstep (fun i => listed.getD i false) x w i o hol (by simpa [his] using h1) hall hx (putAll a0 x 0 l).eval (fun t ht => (putAll_other x t l 0 a0 ht).trans (by rw [htm])) (fun _ => rfl) (fun _ => rfl) (fun _ => rfl) hat
    rw [hy] at hR
    have hL : (fun j => (listed.setIfInBounds i true).getD j false) = fun j => if j = i then true else listed.getD j false := by
     funext j
     by_cases e : j = i
     ·subst e; simp [his]
     ·rw [if_neg e]
      have e' : i ≠ j := fun h => e h.symm
      simp [Array.getElem?_setIfInBounds_ne e']
    have next : ∀ v w', J (fun j => if j = i then true else listed.getD j false) (fun j => if j = i then v else x j) w' → wpAny P .any l.toArray Q fuel (listed.setIfInBounds i true) ((putAll a0 x 0 l).put o.dst v) w' := by
     intro v w' hJ
     refine ih _ _ _ ⟨by simpa using hs, fun j => if j = 0 + i then v else x j, putAll_set x v l 0 i a0 o hd hol, ?_⟩ hcount
     rw [hL]
     simpa using hJ
    unfold wpOp
    simp only [ho]
    split
    ·rename_i hw
     rw [if_pos hw] at hR
     refine .inl ?_
     unfold Oper.wp
     generalize (execOp (putAll a0 x 0 l).eval o).run P w = r at hR ⊢
     cases r with
     | ok n w' =>
      cases n with
      | value v => exact next v w' hR
      | skip => exact next undef w' hR
      | enter f args =>
       simp only [Oper.upon]
       exact Calls.mono hR fun e w'' ⟨v, he, hJ⟩ => by subst he; exact next v w'' hJ
      | _ => exact hR.elim
     | halt h w' => exact hR.elim
    ·rename_i hw
     rw [if_neg hw] at hR
     exact next undef w hR
 refine main _ _ _ _ ⟨by simp, fun i => match l[i]? with | some o => (match o.dst with | some t => a0.tmps.getD t undef | none => undef) | none => undef, ?_, ?_⟩ ?_
 ·have key : ∀ (l' : List Oper) (k : Nat) (y : Nat → Value), (∀ i o, l'[i]? = some o → y (k + i) = (match o.dst with | some t => a0.tmps.getD t undef | none => undef)) → putAll a0 y k l' = a0 := by
   intro l'
   induction l' with
   | nil => intros; rfl
   | cons o os ih =>
    intro k y hy
    simp only [putAll]
    have hp : a0.put o.dst (y k) = a0 := by rw [show y k = (match o.dst with | some t => a0.tmps.getD t undef | none => undef) from hy 0 o rfl]; exact put_same a0 o.dst
    rw [hp]
    exact ih (k + 1) y fun i o' ho' => by rw [show k + 1 + i = k + (i + 1) from by omega]; exact hy (i + 1) o' (by simpa using ho')
  exact (key l 0 _ fun i o ho => by simp only [Nat.zero_add, ho]).symm
 ·have e0 : (fun i => (Array.replicate l.toArray.size false).getD i false) = fun _ => false := by
   funext i
   rcases Nat.lt_or_ge i l.length with h | h
   ·simp [h]
   ·simp [Nat.not_lt.2 h]
  rw [e0]
  exact hJ0 _ fun j o d h1 h2 => by simp only [h1, h2, htm]
 ·simp
def StgStepY (P : Program) (l : List Oper) (Bl : World → Prop) (φ : Nat → Value → World → Prop) (K : (Operand → Value) → World → (Value → World → Prop) → Prop) (tmps : Array Value) (i : Nat) (o : Oper) : Prop :=
 ∀ (ρ : Operand → Value) (w : World), Bl w →
  (∀ t, (dstsOf l).contains t = false → ρ (.tmp t) = tmps.getD t undef) → (∀ c, ρ (.const c) = c) → (∀ f, ρ (.func f) = .func (.func f) #[] #[]) → (∀ g, ρ (.global g) = .pointer (some ⟨g, 0, none⟩)) →
  (∀ (j : Nat) (d : Tmp), (l[j]?).bind (·.dst) = some d → anc l j i = true → ρ (.tmp d) = tmps.getD d undef) →
  (∀ e ∈ o.after, Region.binds .any e = true → ∀ d, (l[e.on]?).bind (·.dst) = some d → φ e.on (ρ (.tmp d)) w) →
  ∀ G : Value → World → Prop, K ρ w G → (Region.wanted o (yieldedR l ρ) = true → UponG P G ((execOp ρ o).run P w)) ∧ (Region.wanted o (yieldedR l ρ) = false → G undef w)
theorem wp_region_stgy {P : Program} {id : Nat} {Q : Exit → Act → World → Prop} {tmps : Array Value} {df : List Deferred} {w0 : World} {l : List Oper} (s t : Nat) (Bl : Nat → World → Prop) (φ : Nat → Nat → Value → World → Prop)
  (hm : P.follows .mixedOrders = true) (hd : dstsApart l = true) (he : edgesBack 0 l = true) (hin : dstsIn tmps.size l = true) (hst : anc l t s = true)
  (hB0 : Bl 0 { w0 with drawn := w0.drawn + 1 }) (hB : ∀ c w w', Bl c w → Below w.heap.size w w' → Bl c w')
  (hφ : ∀ c i v w w', φ c i v w → Below w.heap.size w w' → φ c i v w')
  (hstep : StepsAll (fun i o => i = s ∨ i = t ∨ ((canAt l s t 0 i = true → StgStepY P l (Bl 0) (φ 0) (fun _ => keepK (φ 0 i)) tmps i o) ∧ (canAt l s t 1 i = true → StgStepY P l (Bl 1) (φ 1) (fun _ => keepK (φ 1 i)) tmps i o) ∧ (canAt l s t 2 i = true → StgStepY P l (Bl 2) (φ 2) (fun _ => keepK (φ 2 i)) tmps i o))) 0 l)
  (hs : ∀ o, l[s]? = some o → StgStepY P l (Bl 0) (φ 0) (fun _ => turnK l (Bl 1) (φ 0) (φ 1) s) tmps s o)
  (ht : ∀ o, l[t]? = some o → StgStepY P l (Bl 1) (φ 1) (fun ρ => turnKx l (Bl 2) (φ 1) (φ 2) t ρ) tmps t o)
  (hlt : t < l.length)
  (hend : ∀ (x : Nat → Value) (w : World), Bl 2 w → (∀ i, i < l.length → φ 2 i (x i) w) → Q .normal (putAll ⟨tmps, df⟩ x 0 l) w) :
  (Code.region id l.toArray true).wp P Q ⟨tmps, df⟩ w0 := by
 refine wp_region_JT (fun L x w => (∀ (j : Nat) (o : Oper) (d : Tmp), l[j]? = some o → o.dst = some d → L j = false → x j = tmps.getD d undef) ∧ Closed l L ∧ Bl (stageOf s t L) w ∧ ∀ i, i < l.length → L i = true → φ (stageOf s t L) i (x i) w) hm hd he hin
  (fun x hx0 => ⟨(fun j o d h1 h2 _ => hx0 j o d h1 h2), (fun i o _ h => by cases h), by simpa [stageOf] using hB0, (fun i _ h => by cases h)⟩) ?stp (fun L x w hL hJ => ?fin)
 case fin =>
  have h2 : stageOf s t L = 2 := by unfold stageOf; rw [if_pos (hL t hlt)]
  rw [h2] at hJ
  exact hend x w hJ.2.2.1 fun i hi => hJ.2.2.2 i hi (hL i hi)
 intro L x w i o ho hLi hae hJ ρ htm hc hf hg hx
 obtain ⟨hT, hcl, hBl, hfa⟩ := hJ
 have hil : i < l.length := (List.getElem?_eq_some_iff.1 ho).1
 have hcl' : Closed l (fun j => if j = i then true else L j) := by
  intro j o' ho' hj e hee hb
  by_cases e1 : e.on = i
  ·simp [e1]
  ·simp only [e1, if_false]
   by_cases e2 : j = i
   ·subst e2
    rw [ho] at ho'; cases ho'
    exact hae e hee hb
   ·simp only [e2, if_false] at hj
    exact hcl j o' ho' hj e hee hb
 have hts : L t = true → L s = true := fun h => anc_done hcl t s hst h
 have hsn : s ≠ t := by
  intro e
  subst e
  exact absurd (anc_lt hst) (Nat.lt_irrefl _)
 have hdep : ∀ e ∈ o.after, Region.binds .any e = true → ∀ d, (l[e.on]?).bind (·.dst) = some d → φ (stageOf s t L) e.on (ρ (.tmp d)) w := by
  intro e hee hb d hdd
  obtain ⟨o', ho', hod⟩ := Option.bind_eq_some_iff.1 hdd
  rw [hx e.on o' d ho' hod]
  exact hfa e.on (List.getElem?_eq_some_iff.1 ho').1 (hae e hee hb)
 have hT' : ∀ v, (∀ (j : Nat) (o : Oper) (d : Tmp), l[j]? = some o → o.dst = some d → (if j = i then true else L j) = false → (if j = i then v else x j) = tmps.getD d undef) := by
  intro v j o' d h1 h2 h3
  by_cases e : j = i
  ·simp [e] at h3
  ·rw [if_neg e] at h3 ⊢
   exact hT j o' d h1 h2 h3
 have hpr : ∀ (j : Nat) (d : Tmp), (l[j]?).bind (·.dst) = some d → anc l j i = true → ρ (.tmp d) = tmps.getD d undef := by
  intro j d hd' ha
  obtain ⟨o', ho', hod⟩ := Option.bind_eq_some_iff.1 hd'
  rw [hx j o' d ho' hod]
  refine hT j o' d ho' hod ?_
  cases hj : L j with
  | false => rfl
  | true => have := anc_done hcl j i ha hj; rw [hLi] at this; cases this
 have close : ∀ (G : World → Value → World → Prop), ((Region.wanted o (yieldedR l ρ) = true → UponG P (G w) ((execOp ρ o).run P w)) ∧ (Region.wanted o (yieldedR l ρ) = false → G w undef w)) →
   (∀ v w', G w v w' → Bl (stageOf s t fun j => if j = i then true else L j) w' ∧ ∀ j, j < l.length → (if j = i then true else L j) = true → φ (stageOf s t fun j => if j = i then true else L j) j (if j = i then v else x j) w') →
   if Region.wanted o (yieldedR l ρ) = true then
    (match (execOp ρ o).run P w with
     | .ok (.value v) w' => (∀ (j : Nat) (o : Oper) (d : Tmp), l[j]? = some o → o.dst = some d → (if j = i then true else L j) = false → (if j = i then v else x j) = tmps.getD d undef) ∧ Closed l (fun j => if j = i then true else L j) ∧ Bl (stageOf s t fun j => if j = i then true else L j) w' ∧ ∀ j, j < l.length → (if j = i then true else L j) = true → φ (stageOf s t fun j => if j = i then true else L j) j (if j = i then v else x j) w'
     | .ok .skip w' => (∀ (j : Nat) (o : Oper) (d : Tmp), l[j]? = some o → o.dst = some d → (if j = i then true else L j) = false → (if j = i then undef else x j) = tmps.getD d undef) ∧ Closed l (fun j => if j = i then true else L j) ∧ Bl (stageOf s t fun j => if j = i then true else L j) w' ∧ ∀ j, j < l.length → (if j = i then true else L j) = true → φ (stageOf s t fun j => if j = i then true else L j) j (if j = i then undef else x j) w'
     | .ok (.enter f args) w' => Calls P f args w' fun e w'' => ∃ v, e = .returned v ∧ (∀ (j : Nat) (o : Oper) (d : Tmp), l[j]? = some o → o.dst = some d → (if j = i then true else L j) = false → (if j = i then v else x j) = tmps.getD d undef) ∧ Closed l (fun j => if j = i then true else L j) ∧ Bl (stageOf s t fun j => if j = i then true else L j) w'' ∧ ∀ j, j < l.length → (if j = i then true else L j) = true → φ (stageOf s t fun j => if j = i then true else L j) j (if j = i then v else x j) w''
     | _ => False)
   else (∀ (j : Nat) (o : Oper) (d : Tmp), l[j]? = some o → o.dst = some d → (if j = i then true else L j) = false → (if j = i then undef else x j) = tmps.getD d undef) ∧ Closed l (fun j => if j = i then true else L j) ∧ Bl (stageOf s t fun j => if j = i then true else L j) w ∧ ∀ j, j < l.length → (if j = i then true else L j) = true → φ (stageOf s t fun j => if j = i then true else L j) j (if j = i then undef else x j) w := by
  intro G hR hG
  split
  ·rename_i hw
   have hU := hR.1 hw
   generalize (execOp ρ o).run P w = r at hU ⊢
   cases r with
   | ok n w' =>
    cases n with
    | value v => exact ⟨hT' v, hcl', hG v w' hU⟩
    | skip => exact ⟨hT' undef, hcl', hG undef w' hU⟩
    | enter f args => exact Calls.mono hU fun e w'' ⟨v, hev, hg'⟩ => ⟨v, hev, hT' v, hcl', hG v w'' hg'⟩
    | _ => exact hU.elim
   | halt h w' => exact hU.elim
  ·rename_i hw
   exact ⟨hT' undef, hcl', hG undef w (hR.2 (by simpa using hw))⟩
 have turn : ∀ c (_ : stageOf s t L = c) (_ : stageOf s t (fun j => if j = i then true else L j) = c + 1), (∀ v w', turnG l (Bl (c + 1)) (φ c) (φ (c + 1)) i w v w' → Bl (stageOf s t fun j => if j = i then true else L j) w' ∧ ∀ j, j < l.length → (if j = i then true else L j) = true → φ (stageOf s t fun j => if j = i then true else L j) j (if j = i then v else x j) w') := by
  intro c h1 h2 v w' h
  rw [h2]
  rw [h1] at hfa
  refine ⟨h.1, fun j hj hLj => ?_⟩
  by_cases e : j = i
  ·subst e; simpa using h.2.1
  ·rw [if_neg e] at hLj ⊢
   exact h.2.2 j _ hj e (hfa j hj hLj)
 have keep : ∀ c (_ : stageOf s t L = c) (_ : stageOf s t (fun j => if j = i then true else L j) = c), (∀ v w', keepG (φ c) i w v w' → Bl (stageOf s t fun j => if j = i then true else L j) w' ∧ ∀ j, j < l.length → (if j = i then true else L j) = true → φ (stageOf s t fun j => if j = i then true else L j) j (if j = i then v else x j) w') := by
  intro c h1 h2 v w' h
  rw [h2]
  rw [h1] at hfa hBl
  refine ⟨hB c w w' hBl h.1, fun j hj hLj => ?_⟩
  by_cases e : j = i
  ·subst e; simpa using h.2
  ·rw [if_neg e] at hLj ⊢
   exact hφ c j _ w w' (hfa j hj hLj) h.1
 by_cases e1 : i = s
 ·subst e1
  have h0 : stageOf i t L = 0 := by
   unfold stageOf
   rw [if_neg (fun h => by rw [hts h] at hLi; cases hLi), if_neg (by rw [hLi]; exact Bool.false_ne_true)]
  have h1 : stageOf i t (fun j => if j = i then true else L j) = 1 := by
   have htL : L t ≠ true := fun h => by rw [hts h] at hLi; cases hLi
   unfold stageOf
   simp [Ne.symm hsn, htL]
  rw [h0] at hBl hdep
  exact close (turnG l (Bl 1) (φ 0) (φ 1) i) (hs o ho ρ w hBl htm hc hf hg hpr hdep _ (fun v w' h1 h2 h3 => ⟨h1, h2, h3⟩)) (turn 0 h0 h1)
 by_cases e2 : i = t
 ·subst e2
  have hLs : L s = true := by
   have h := anc_done hcl' i s hst (by simp)
   rwa [if_neg hsn] at h
  have h0 : stageOf s i L = 1 := by
   unfold stageOf
   rw [if_neg (by rw [hLi]; exact Bool.false_ne_true), if_pos hLs]
  have h1 : stageOf s i (fun j => if j = i then true else L j) = 2 := by
   unfold stageOf; simp
  rw [h0] at hBl hdep
  refine close (fun w v w' => Bl 2 w' ∧ φ 2 i v w' ∧ ∀ j u, j < l.length → j ≠ i → (∀ o' d, l[j]? = some o' → o'.dst = some d → ρ (.tmp d) = u) → φ 1 j u w → φ 2 j u w') (ht o ho ρ w hBl htm hc hf hg hpr hdep _ (fun v w' h1 h2 h3 => ⟨h1, h2, h3⟩)) ?_
  intro v w' h
  rw [h1]
  rw [h0] at hfa
  refine ⟨h.1, fun j hj hLj => ?_⟩
  by_cases e : j = i
  ·subst e; simpa using h.2.1
  ·rw [if_neg e] at hLj ⊢
   exact h.2.2 j _ hj e (fun o' d ho' hd' => hx j o' d ho' hd') (hfa j hj hLj)
 have hSt := stepsAll_get l 0 hstep i o ho
 rw [Nat.zero_add] at hSt
 obtain ⟨o0, o1, o2⟩ := (hSt.resolve_left e1).resolve_left e2
 have same : stageOf s t (fun j => if j = i then true else L j) = stageOf s t L := by
  unfold stageOf
  simp [Ne.symm e1, Ne.symm e2]
 have anc_i : ∀ a, anc l i a = true → L a = true := by
  intro a h
  have h1 := anc_done hcl' i a h (by simp)
  rwa [if_neg (by have := anc_lt h; omega)] at h1
 have no : ∀ a, L a = true → anc l a i = false := by
  intro a ha
  cases h : anc l a i with
  | false => rfl
  | true => have := anc_done hcl a i h ha; rw [hLi] at this; cases this
 have noi : ∀ a, L a ≠ true → anc l i a = false := by
  intro a ha
  cases h : anc l i a with
  | false => rfl
  | true => exact absurd (anc_i a h) ha
 by_cases hLt : L t = true
 ·have h0 : stageOf s t L = 2 := by unfold stageOf; rw [if_pos hLt]
  rw [h0] at hBl hdep
  exact close (keepG (φ 2) i) (o2 (by simp [canAt, no t hLt]) ρ w hBl htm hc hf hg hpr hdep _ (fun v w' h1 h2 => ⟨h1, h2⟩)) (keep 2 h0 (same.trans h0))
 ·by_cases hLs : L s = true
  ·have h0 : stageOf s t L = 1 := by unfold stageOf; rw [if_neg hLt, if_pos hLs]
   rw [h0] at hBl hdep
   exact close (keepG (φ 1) i) (o1 (by simp [canAt, no s hLs, noi t hLt]) ρ w hBl htm hc hf hg hpr hdep _ (fun v w' h1 h2 => ⟨h1, h2⟩)) (keep 1 h0 (same.trans h0))
  ·have h0 : stageOf s t L = 0 := by unfold stageOf; rw [if_neg hLt, if_neg hLs]
   rw [h0] at hBl hdep
   exact close (keepG (φ 0) i) (o0 (by simp [canAt, noi s hLs]) ρ w hBl htm hc hf hg hpr hdep _ (fun v w' h1 h2 => ⟨h1, h2⟩)) (keep 0 h0 (same.trans h0))
end Go.Proofs.YtlnoelbeaolikaaGreat
