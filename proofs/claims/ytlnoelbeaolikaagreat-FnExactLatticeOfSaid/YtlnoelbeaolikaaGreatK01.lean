/- A region that draws its order: each operation is shown alone, in whatever world the order brings it to; what it leaves is told by a property of its value that growth of the world keeps. Plain lemmas on the model, no program. -/
import Derived.Test.YtlnoelbeaolikaaGreatK00
namespace Go.Proofs.YtlnoelbeaolikaaGreat
open Go.RowKit
/-- the frame a0 in which the region's slots hold the values x 0, x 1, .. -/
def putAll (a : Act) (x : Nat → Value) : Nat → List Oper → Act
 | _, [] => a
 | i, o :: os => putAll (a.put o.dst (x i)) x (i + 1) os
def StepsAll (f : Nat → Oper → Prop) : Nat → List Oper → Prop
 | _, [] => True
 | i, o :: os => f i o ∧ StepsAll f (i + 1) os
theorem stepsAll_get {f : Nat → Oper → Prop} (l : List Oper) : ∀ (k : Nat), StepsAll f k l → ∀ i o, l[i]? = some o → f (k + i) o := by
 induction l with
 | nil => intro k _ i o ho; simp at ho
 | cons o os ih =>
  intro k h i o' ho
  cases i with
  | zero => simp at ho; subst ho; exact h.1
  | succ i =>
   have := ih (k + 1) h.2 i o' (by simpa using ho)
   rwa [show k + 1 + i = k + (i + 1) from by omega] at this
theorem count_set (L : List Bool) : ∀ (i : Nat) (hl : i < L.length), L[i] = false → (L.filter (! ·)).length = ((L.set i true).filter (! ·)).length + 1 := by
 induction L with
 | nil => intro i hl; simp at hl
 | cons b L ih =>
  intro i hl hf
  cases i with
  | zero => simp at hf; subst hf; simp
  | succ i =>
   have := ih i (by simpa using hl) (by simpa using hf)
   simp only [List.set_cons_succ, List.filter_cons]
   split
   ·simp only [List.length_cons]; omega
   ·exact this
theorem put_put (a : Act) (d : Option Tmp) (u v : Value) : (a.put d u).put d v = a.put d v := by
 cases d with
 | none => rfl
 | some d => simp [Act.put]
theorem put_same (a : Act) (d : Option Tmp) : a.put d (match d with | some t => a.tmps.getD t undef | none => undef) = a := by
 cases d with
 | none => rfl
 | some d =>
  obtain ⟨tmps, defers⟩ := a
  simp only [Act.put, Act.mk.injEq, and_true]
  refine Array.ext (by simp) fun i h1 h2 => ?_
  rw [Array.getElem_setIfInBounds]
  split
  ·rename_i e; subst e; simp [h2]
  ·rfl
theorem putAll_put (x : Nat → Value) : ∀ (l : List Oper) (k : Nat) (a : Act) (d : Option Tmp) (v : Value), (∀ o ∈ l, ∀ t, d = some t → o.dst ≠ some t) → putAll (a.put d v) x k l = (putAll a x k l).put d v
 | [], _, _, _, _, _ => rfl
 | o :: os, k, a, d, v, h => by
  simp only [putAll]
  rw [Act.put_comm a v (x k) (fun t ht => h o List.mem_cons_self t ht)]
  exact putAll_put x os (k + 1) _ d v fun o' ho' => h o' (List.mem_cons_of_mem _ ho')
theorem putAll_congr {x y : Nat → Value} : ∀ (l : List Oper) (k : Nat) (a : Act), (∀ i, k ≤ i → x i = y i) → putAll a x k l = putAll a y k l
 | [], _, _, _ => rfl
 | o :: os, k, a, h => by simp only [putAll]; rw [h k (Nat.le_refl _)]; exact putAll_congr os (k + 1) _ fun i hi => h i (by omega)
/-- no two operations write one slot -/
def dstsApart : List Oper → Bool
 | [] => true
 | o :: os => (match o.dst with | some d => os.all fun o' => o'.dst != some d | none => true) && dstsApart os
theorem putAll_set (x : Nat → Value) (v : Value) (l : List Oper) : ∀ (k i : Nat) (a : Act) (o : Oper), dstsApart l = true → l[i]? = some o →
  (putAll a x k l).put o.dst v = putAll a (fun j => if j = k + i then v else x j) k l := by
 induction l with
 | nil => intro k i a o _ ho; simp at ho
 | cons o os ih =>
  intro k i a o' hd ho
  cases i with
  | zero =>
   simp at ho; subst ho
   simp only [putAll, Nat.add_zero, if_true]
   rw [← putAll_put x os (k + 1) _ o.dst v, put_put]
   ·exact putAll_congr os (k + 1) _ fun i hi => by rw [if_neg (by omega)]
   ·intro o2 h2 t ht
    simp only [dstsApart, ht, Bool.and_eq_true, List.all_eq_true, bne_iff_ne] at hd
    exact hd.1 o2 h2
  | succ i =>
   simp only [putAll]
   rw [if_neg (by omega)]
   simp only [dstsApart, Bool.and_eq_true] at hd
   rw [ih (k + 1) i (a.put o.dst (x k)) o' hd.2 (by simpa using ho)]
   exact putAll_congr os (k + 1) _ fun j _ => by rw [show k + 1 + i = k + (i + 1) from by omega]
/-- the operations' edges lead back -/
def edgesBack : Nat → List Oper → Bool
 | _, [] => true
 | i, o :: os => (o.after.all fun e => !Region.binds .any e || decide (e.on < i)) && edgesBack (i + 1) os
theorem edgesBack_get (l : List Oper) : ∀ (k : Nat), edgesBack k l = true → ∀ i o, l[i]? = some o → ∀ e ∈ o.after, Region.binds .any e = true → e.on < k + i := by
 induction l with
 | nil => intro k _ i o ho; simp at ho
 | cons o os ih =>
  intro k h i o' ho e he hb
  simp only [edgesBack, Bool.and_eq_true, Array.all_eq_true'] at h
  cases i with
  | zero =>
   simp at ho; subst ho
   have := h.1 e he
   simpa [hb] using this
  | succ i =>
   have := ih (k + 1) h.2 i o' (by simpa using ho) e he hb
   omega
/-- what an operation yields -/
def RelUpon (P : Program) (φ : Value → World → Prop) (w : World) : Result Next → Prop
 | .ok (.value v) w' => Below w.heap.size w w' ∧ φ v w'
 | .ok .skip w' => Below w.heap.size w w' ∧ φ undef w'
 | .ok (.enter f args) w' => Calls P f args w' fun e w'' => ∃ v, e = .returned v ∧ Below w.heap.size w w'' ∧ φ v w''
 | _ => False
/-- what the operation j has yielded, for a guard -/
def yieldedR (l : List Oper) (ρ : Operand → Value) (j : Nat) : Option Bool :=
 match (l[j]?).bind (·.dst) with
 | some d => (match ρ (.tmp d) with | .bool b => some b | _ => none)
 | none => none
def dstsOf (l : List Oper) : List Tmp := l.filterMap (·.dst)
/-- what is asked of operation i: ρ reads the frame in which the region's slots hold values that the operations' properties allow -/
def RelStep (P : Program) (l : List Oper) (φ : Nat → Value → World → Prop) (a0 : Act) (w0 : World) (i : Nat) (o : Oper) : Prop :=
 ∀ (ρ : Operand → Value) (w : World), Below w0.heap.size w0 w →
  (∀ t, (dstsOf l).contains t = false → ρ (.tmp t) = a0.tmps.getD t undef) → (∀ c, ρ (.const c) = c) → (∀ f, ρ (.func f) = .func (.func f) #[] #[]) → (∀ g, ρ (.global g) = .pointer (some ⟨g, 0, none⟩)) →
  (∀ e ∈ o.after, Region.binds .any e = true → ∀ d, (l[e.on]?).bind (·.dst) = some d → φ e.on (ρ (.tmp d)) w) →
  (Region.wanted o (yieldedR l ρ) = true → RelUpon P (φ i) w ((execOp ρ o).run P w)) ∧ (Region.wanted o (yieldedR l ρ) = false → φ i undef w)
theorem putAll_other (x : Nat → Value) (t : Tmp) (l : List Oper) : ∀ (k : Nat) (a : Act), (dstsOf l).contains t = false → (putAll a x k l).tmps.getD t undef = a.tmps.getD t undef := by
 induction l with
 | nil => intro k a _; rfl
 | cons o os ih =>
  intro k a h
  simp only [putAll]
  have h2 : (dstsOf os).contains t = false := by
   cases hd : o.dst with
   | none => simpa [dstsOf, hd] using h
   | some d => simp [dstsOf, hd] at h ⊢; exact h.2
  rw [ih (k + 1) _ h2]
  cases hd : o.dst with
  | none => rfl
  | some d =>
   have hne : d ≠ t := by simp [dstsOf, hd] at h; exact fun e => h.1 e.symm
   simp [Act.put, Array.getElem?_setIfInBounds_ne hne]
theorem putAll_at (x : Nat → Value) (l : List Oper) : ∀ (k i : Nat) (a : Act) (o : Oper) (d : Tmp), dstsApart l = true → l[i]? = some o → o.dst = some d → d < a.tmps.size → (putAll a x k l).tmps.getD d undef = x (k + i) := by
 induction l with
 | nil => intro k i a o d _ ho; simp at ho
 | cons o os ih =>
  intro k i a o' d hd ho hod hlt
  simp only [putAll]
  have hd' := hd
  simp only [dstsApart, Bool.and_eq_true] at hd
  cases i with
  | zero =>
   simp at ho; subst ho
   rw [putAll_other]
   ·simp [hod, Act.put, hlt]
   ·have h1 := hd.1
    rw [hod] at h1
    simp only [List.all_eq_true, bne_iff_ne] at h1
    cases h : (dstsOf os).contains d with
    | false => rfl
    | true =>
     exfalso
     have hm : d ∈ dstsOf os := List.elem_iff.1 h
     obtain ⟨o2, h2, h3⟩ := List.mem_filterMap.1 hm
     exact h1 o2 h2 h3
  | succ i =>
   have := ih (k + 1) i (a.put o.dst (x k)) o' d hd.2 (by simpa using ho) hod (by cases h : o.dst <;> simp [Act.put, hlt])
   rw [this, show k + 1 + i = k + (i + 1) from by omega]
/-- every slot that the region writes is a slot of the frame -/
def dstsIn (n : Nat) (l : List Oper) : Bool := (dstsOf l).all fun d => decide (d < n)
theorem wp_region_rel {P : Program} {id : Nat} {Q : Exit → Act → World → Prop} {tmps : Array Value} {df : List Deferred} {w0 : World} {l : List Oper} (φ : Nat → Value → World → Prop)
  (hm : P.follows .mixedOrders = true) (hd : dstsApart l = true) (he : edgesBack 0 l = true) (hin : dstsIn tmps.size l = true)
  (hst : ∀ i v w w', φ i v w → Below w.heap.size w w' → φ i v w')
  (hstep : StepsAll (RelStep P l φ ⟨tmps, df⟩ w0) 0 l)
  (hend : ∀ (x : Nat → Value) (w : World), Below w0.heap.size w0 w → (∀ i, i < l.length → φ i (x i) w) → Q .normal (putAll ⟨tmps, df⟩ x 0 l) w) :
  (Code.region id l.toArray true).wp P Q ⟨tmps, df⟩ w0 := by
 refine wp_region_any hm ?_
 generalize ha0 : (⟨tmps, df⟩ : Act) = a0 at *
 have htm : a0.tmps = tmps := by rw [← ha0]
 let Inv : Array Bool → Act → World → Prop := fun listed a w => listed.size = l.length ∧ ∃ x, a = putAll a0 x 0 l ∧ Below w0.heap.size w0 w ∧ ∀ i, listed.getD i false = true → φ i (x i) w
 have hready : ∀ listed : Array Bool, listed.size = l.length → Region.ready .any l.toArray listed = [] → ∀ i, i < l.length → listed.getD i false = true := by
  intro listed hs hr i
  induction i using Nat.strongRecOn with
  | _ i ih =>
   intro hi
   by_cases h : listed.getD i false = true
   ·exact h
   ·exfalso
    have hmem : i ∈ Region.ready .any l.toArray listed := by
     refine mem_ready.2 ⟨?_, l[i], by simp [hi], fun e hee hb => ?_⟩
     ·have hi' : i < listed.size := by omega
      simp [hi'] at h ⊢; exact h
     ·have := edgesBack_get l 0 he i l[i] (List.getElem?_eq_getElem hi) e hee hb
      exact ih e.on (by omega) (by omega)
    rw [hr] at hmem; cases hmem
 have main : ∀ (fuel : Nat) (listed : Array Bool) (a : Act) (w : World), Inv listed a w → (listed.toList.filter (! ·)).length ≤ fuel → wpAny P .any l.toArray Q fuel listed a w := by
  intro fuel
  induction fuel with
  | zero =>
   intro listed a w hI hc
   obtain ⟨hs, x, rfl, hb, hx⟩ := hI
   have hall : ∀ i, i < l.length → listed.getD i false = true := by
    intro i hi
    have h0 : (listed.toList.filter (! ·)) = [] := List.length_eq_zero_iff.1 (by omega)
    rw [List.filter_eq_nil_iff] at h0
    have hi' : i < listed.size := by omega
    have := h0 listed[i] (by simp)
    simp [hi'] at this ⊢; exact this
   refine ⟨?_, hend x w hb fun i hi => hx i (hall i hi)⟩
   cases hr : Region.ready .any l.toArray listed with
   | nil => rfl
   | cons j js =>
    have hj : j ∈ Region.ready .any l.toArray listed := by rw [hr]; exact List.mem_cons_self
    obtain ⟨h1, o, ho, _⟩ := mem_ready.1 hj
    have hj' : j < l.length := by
     rcases Nat.lt_or_ge j l.length with h | h
     ·exact h
     ·simp [Nat.not_lt.2 h] at ho
    have := hall j hj'
    have hjs : j < listed.size := by omega
    simp [hjs] at h1 this
    rw [this] at h1; cases h1
  | succ fuel ih =>
   intro listed a w hI hc
   refine ⟨fun hr => ?_, fun i hi => ?_⟩
   ·obtain ⟨hs, x, rfl, hb, hx⟩ := hI
    exact hend x w hb fun i hi => hx i (hready listed hs hr i hi)
   ·obtain ⟨hs, x, rfl, hb, hx⟩ := hI
    obtain ⟨h1, o, ho, hall⟩ := mem_ready.1 hi
    have hol : l[i]? = some o := by simpa using ho
    have hil : i < l.length := (List.getElem?_eq_some_iff.1 hol).1
    have his : i < listed.size := by omega
    have hcount : ((listed.setIfInBounds i true).toList.filter (! ·)).length ≤ fuel := by
     have hf : listed[i] = false := by simpa [his] using h1
     have := count_set listed.toList i (by simpa using his) (by simpa using hf)
     rw [Array.toList_setIfInBounds]
     omega
    have hat : ∀ j o' d, l[j]? = some o' → o'.dst = some d → (putAll a0 x 0 l).tmps.getD d undef = x j := fun j o' d hj hod => by
     have := putAll_at x l 0 j a0 o' d hd hj hod (by
      rw [htm]
      simp only [dstsIn, List.all_eq_true, decide_eq_true_eq] at hin
      exact hin d (List.mem_filterMap.2 ⟨o', List.mem_of_getElem? hj, hod⟩))
     rwa [Nat.zero_add] at this
    have hy : yieldedR l (putAll a0 x 0 l).eval = yielded l.toArray (putAll a0 x 0 l).tmps := by
     funext j
     unfold yieldedR yielded
     simp only [List.getElem?_toArray, Act.eval]
     cases (l[j]?).bind (·.dst) with
     | none => rfl
     | some d =>
      simp only [Option.bind_some, Array.getD_eq_getD_getElem?]
      cases (putAll a0 x 0 l).tmps[d]? with
      | none => rfl
      | some v => cases v <;> rfl
    have hR := stepsAll_get l 0 hstep i o hol
    rw [Nat.zero_add] at hR
    have hR' := hR (putAll a0 x 0 l).eval w hb (fun t ht => putAll_other x t l 0 a0 ht) (fun _ => rfl) (fun _ => rfl) (fun _ => rfl) (fun e hee hbd d hdd => by
     have hl := hall e hee hbd
     have hlt : e.on < listed.size := by
      rcases Nat.lt_or_ge e.on listed.size with h | h
      ·exact h
      ·simp [Array.getElem?_eq_none h] at hl
     obtain ⟨o', ho', hod⟩ := Option.bind_eq_some_iff.1 hdd
     show φ e.on ((putAll a0 x 0 l).tmps.getD d undef) w
     rw [hat e.on o' d ho' hod]
     exact hx e.on hl)
    rw [hy] at hR'
    have next : ∀ v w', Below w.heap.size w w' → φ i v w' → wpAny P .any l.toArray Q fuel (listed.setIfInBounds i true) ((putAll a0 x 0 l).put o.dst v) w' := by
     intro v w' hb' hφ
     refine ih _ _ _ ⟨by simpa using hs, fun j => if j = 0 + i then v else x j, putAll_set x v l 0 i a0 o hd hol, hb.trans (hb'.mono hb.size), fun j hj => ?_⟩ hcount
     by_cases e : j = i
     ·subst e; simpa using hφ
     ·simp only [Nat.zero_add, e, if_false]
      refine hst j _ w w' (hx j ?_) hb'
      have e' : i ≠ j := fun h => e h.symm
      rcases Nat.lt_or_ge j listed.size with h | h
      ·simpa [h, e', Array.getElem_setIfInBounds] using hj
      ·have hn : (listed.setIfInBounds i true)[j]? = none := Array.getElem?_eq_none (by simpa using h)
       simp [hn] at hj
    unfold wpOp
    simp only [ho]
    split
    ·rename_i hw
     have hU := hR'.1 hw
     refine .inl ?_
     unfold Oper.wp
     generalize (execOp (putAll a0 x 0 l).eval o).run P w = r at hU ⊢
     cases r with
     | ok n w' =>
      cases n with
      | value v => exact next v w' hU.1 hU.2
      | skip => exact next undef w' hU.1 hU.2
      | enter f args =>
       simp only [Oper.upon]
       exact Calls.mono hU fun e w'' ⟨v, he, hb', hφ⟩ => by subst he; exact next v w'' hb' hφ
      | _ => exact hU.elim
     | halt h w' => exact hU.elim
    ·rename_i hw
     exact next undef w (Below.refl _ _) (hR'.2 (by simpa using hw))
 refine main _ _ _ _ ⟨by simp, fun i => match l[i]? with | some o => (match o.dst with | some t => a0.tmps.getD t undef | none => undef) | none => undef, ?_, ⟨rfl, rfl, rfl, Nat.le_refl _, fun _ _ => rfl⟩, fun i hi => ?_⟩ ?_
 ·have key : ∀ (l' : List Oper) (k : Nat) (y : Nat → Value), (∀ i o, l'[i]? = some o → y (k + i) = (match o.dst with | some t => a0.tmps.getD t undef | none => undef)) → putAll a0 y k l' = a0 := by
   intro l'
   induction l' with
   | nil => intros; rfl
   | cons o os ih =>
    intro k y hy
    simp only [putAll]
    rw [show y k = (match o.dst with | some t => a0.tmps.getD t undef | none => undef) from hy 0 o rfl, put_same]
    exact ih (k + 1) y fun i o' ho' => by rw [show k + 1 + i = k + (i + 1) from by omega]; exact hy (i + 1) o' (by simpa using ho')
  exact (key l 0 _ fun i o ho => by simp only [Nat.zero_add, ho]).symm
 ·exfalso
  rcases Nat.lt_or_ge i l.length with h | h
  ·simp [h] at hi
  ·simp [Nat.not_lt.2 h] at hi
 ·simp
end Go.Proofs.YtlnoelbeaolikaaGreat
namespace Go.Proofs.YtlnoelbeaolikaaGreat
open Go.RowKit
/-- an invariant over what has been listed, what the region's slots hold, and the world serves every order -/
theorem wp_region_J {P : Program} {id : Nat} {Q : Exit → Act → World → Prop} {tmps : Array Value} {df : List Deferred} {w0 : World} {l : List Oper} (J : (Nat → Bool) → (Nat → Value) → World → Prop)
  (hm : P.follows .mixedOrders = true) (hd : dstsApart l = true) (he : edgesBack 0 l = true) (hin : dstsIn tmps.size l = true)
  (hJ0 : ∀ x, J (fun _ => false) x { w0 with drawn := w0.drawn + 1 })
  (hstep : ∀ (L : Nat → Bool) (x : Nat → Value) (w : World) (i : Nat) (o : Oper), l[i]? = some o → L i = false → (∀ e ∈ o.after, Region.binds .any e = true → L e.on = true) → J L x w →
   ∀ (ρ : Operand → Value), (∀ t, (dstsOf l).contains t = false → ρ (.tmp t) = tmps.getD t undef) → (∀ c, ρ (.const c) = c) → (∀ f, ρ (.func f) = .func (.func f) #[] #[]) → (∀ g, ρ (.global g) = .pointer (some ⟨g, 0, none⟩)) →
   (∀ (j : Nat) (o' : Oper) (d : Tmp), l[j]? = some o' → o'.dst = some d → ρ (.tmp d) = x j) →
   if Region.wanted o (yieldedR l ρ) = true then
    (match (execOp ρ o).run P w with
     | .ok (.value v) w' => J (fun j => if j = i then true else L j) (fun j => if j = i then v else x j) w'
     | .ok .skip w' => J (fun j => if j = i then true else L j) (fun j => if j = i then undef else x j) w'
     | .ok (.enter f args) w' => Calls P f args w' fun e w'' => ∃ v, e = .returned v ∧ J (fun j => if j = i then true else L j) (fun j => if j = i then v else x j) w''
     | _ => False)
   else J (fun j => if j = i then true else L j) (fun j => if j = i then undef else x j) w)
  (hend : ∀ (L : Nat → Bool) (x : Nat → Value) (w : World), (∀ i, i < l.length → L i = true) → J L x w → Q .normal (putAll ⟨tmps, df⟩ x 0 l) w) :
  (Code.region id l.toArray true).wp P Q ⟨tmps, df⟩ w0 := by
 refine wp_region_any hm ?_
 generalize ha0 : (⟨tmps, df⟩ : Act) = a0 at *
 have htm : a0.tmps = tmps := by rw [← ha0]
 let Inv : Array Bool → Act → World → Prop := fun listed a w => listed.size = l.length ∧ ∃ x, a = putAll a0 x 0 l ∧ J (fun i => listed.getD i false) x w
 have hready : ∀ listed : Array Bool, listed.size = l.length → Region.ready .any l.toArray listed = [] → ∀ i, i < l.length → listed.getD i false = true := by
  intro listed hs hr i
  induction i using Nat.strongRecOn with
  | _ i ih =>
   intro hi
   by_cases h : listed.getD i false = true
   ·exact h
   ·exfalso
    have hmem : i ∈ Region.ready .any l.toArray listed := by
     refine mem_ready.2 ⟨?_, l[i], by simp [hi], fun e hee hb => ?_⟩
     ·have hi' : i < listed.size := by omega
      simp [hi'] at h ⊢; exact h
     ·have := edgesBack_get l 0 he i l[i] (List.getElem?_eq_getElem hi) e hee hb
      exact ih e.on (by omega) (by omega)
    rw [hr] at hmem; cases hmem
 have main : ∀ (fuel : Nat) (listed : Array Bool) (a : Act) (w : World), Inv listed a w → (listed.toList.filter (! ·)).length ≤ fuel → wpAny P .any l.toArray Q fuel listed a w := by
  intro fuel
  induction fuel with
  | zero =>
   intro listed a w hI hc
   obtain ⟨hs, x, rfl, hx⟩ := hI
   have hall : ∀ i, i < l.length → listed.getD i false = true := by
    intro i hi
    have h0 : (listed.toList.filter (! ·)) = [] := List.length_eq_zero_iff.1 (by omega)
    rw [List.filter_eq_nil_iff] at h0
    have hi' : i < listed.size := by omega
    have := h0 listed[i] (by simp)
    simp [hi'] at this ⊢; exact this
   refine ⟨?_, hend _ x w hall hx⟩
   cases hr : Region.ready .any l.toArray listed with
   | nil => rfl
   | cons j js =>
    have hj : j ∈ Region.ready .any l.toArray listed := by rw [hr]; exact List.mem_cons_self
    obtain ⟨h1, o, ho, _⟩ := mem_ready.1 hj
    have hj' : j < l.length := by
     rcases Nat.lt_or_ge j l.length with h | h
     ·exact h
     ·simp [Nat.not_lt.2 h] at ho
    have := hall j hj'
    have hjs : j < listed.size := by omega
    simp [hjs] at h1 this
    rw [this] at h1; cases h1
  | succ fuel ih =>
   intro listed a w hI hc
   refine ⟨fun hr => ?_, fun i hi => ?_⟩
   ·obtain ⟨hs, x, rfl, hx⟩ := hI
    exact hend _ x w (hready listed hs hr) hx
   ·obtain ⟨hs, x, rfl, hx⟩ := hI
    obtain ⟨h1, o, ho, hall⟩ := mem_ready.1 hi
    have hol : l[i]? = some o := by simpa using ho
    have hil : i < l.length := (List.getElem?_eq_some_iff.1 hol).1
    have his : i < listed.size := by omega
    have hcount : ((listed.setIfInBounds i true).toList.filter (! ·)).length ≤ fuel := by
     have hf : listed[i] = false := by simpa [his] using h1
     have := count_set listed.toList i (by simpa using his) (by simpa using hf)
     rw [Array.toList_setIfInBounds]
     omega
    have hat : ∀ j o' d, l[j]? = some o' → o'.dst = some d → (putAll a0 x 0 l).eval (.tmp d) = x j := fun j o' d hj hod => by
     have := putAll_at x l 0 j a0 o' d hd hj hod (by
      rw [htm]
      simp only [dstsIn, List.all_eq_true, decide_eq_true_eq] at hin
      exact hin d (List.mem_filterMap.2 ⟨o', List.mem_of_getElem? hj, hod⟩))
     rwa [Nat.zero_add] at this
    have hy : yieldedR l (putAll a0 x 0 l).eval = yielded l.toArray (putAll a0 x 0 l).tmps := by
     funext j
     unfold yieldedR yielded
     simp only [List.getElem?_toArray, Act.eval]
     cases (l[j]?).bind (·.dst) with
     | none => rfl
     | some d =>
      simp only [Option.bind_some, Array.getD_eq_getD_getElem?]
      cases (putAll a0 x 0 l).tmps[d]? with
      | none => rfl
      | some v => cases v <;> rfl
    have hR := hstep (fun i => listed.getD i false) x w i o hol (by simpa [his] using h1) hall hx (putAll a0 x 0 l).eval (fun t ht => (putAll_other x t l 0 a0 ht).trans (by rw [htm])) (fun _ => rfl) (fun _ => rfl) (fun _ => rfl) hat
    rw [hy] at hR
    have hL : (fun j => (listed.setIfInBounds i true).getD j false) = fun j => if j = i then true else listed.getD j false := by
     funext j
     by_cases e : j = i
     ·subst e; simp [his]
     ·rw [if_neg e]
      have e' : i ≠ j := fun h => e h.symm
      simp [Array.getElem?_setIfInBounds_ne e']
    have next : ∀ v w', J (fun j => if j = i then true else listed.getD j false) (fun j => if j = i then v else x j) w' → wpAny P .any l.toArray Q fuel (listed.setIfInBounds i true) ((putAll a0 x 0 l).put o.dst v) w' := by
     intro v w' hJ
     refine ih _ _ _ ⟨by simpa using hs, fun j => if j = 0 + i then v else x j, putAll_set x v l 0 i a0 o hd hol, ?_⟩ hcount
     rw [hL]
     simpa using hJ
    unfold wpOp
    simp only [ho]
    split
    ·rename_i hw
     rw [if_pos hw] at hR
     refine .inl ?_
     unfold Oper.wp
     generalize (execOp (putAll a0 x 0 l).eval o).run P w = r at hR ⊢
     cases r with
     | ok n w' =>
      cases n with
      | value v => exact next v w' hR
      | skip => exact next undef w' hR
      | enter f args =>
       simp only [Oper.upon]
       exact Calls.mono hR fun e w'' ⟨v, he, hJ⟩ => by subst he; exact next v w'' hJ
      | _ => exact hR.elim
     | halt h w' => exact hR.elim
    ·rename_i hw
     rw [if_neg hw] at hR
     exact next undef w hR
 refine main _ _ _ _ ⟨by simp, fun i => match l[i]? with | some o => (match o.dst with | some t => a0.tmps.getD t undef | none => undef) | none => undef, ?_, ?_⟩ ?_
 ·have key : ∀ (l' : List Oper) (k : Nat) (y : Nat → Value), (∀ i o, l'[i]? = some o → y (k + i) = (match o.dst with | some t => a0.tmps.getD t undef | none => undef)) → putAll a0 y k l' = a0 := by
   intro l'
   induction l' with
   | nil => intros; rfl
   | cons o os ih =>
    intro k y hy
    simp only [putAll]
    have hp : a0.put o.dst (y k) = a0 := by rw [show y k = (match o.dst with | some t => a0.tmps.getD t undef | none => undef) from hy 0 o rfl]; exact put_same a0 o.dst
    rw [hp]
    exact ih (k + 1) y fun i o' ho' => by rw [show k + 1 + i = k + (i + 1) from by omega]; exact hy (i + 1) o' (by simpa using ho')
  exact (key l 0 _ fun i o ho => by simp only [Nat.zero_add, ho]).symm
 ·have e0 : (fun i => (Array.replicate l.toArray.size false).getD i false) = fun _ => false := by
   funext i
   rcases Nat.lt_or_ge i l.length with h | h
   ·simp [h]
   ·simp [Nat.not_lt.2 h]
  rw [e0]
  exact hJ0 _
 ·simp
/-- what is asked of an operation other than the store, at one stage -/
def RelStepS (P : Program) (l : List Oper) (φ : Nat → Value → World → Prop) (tmps : Array Value) (w0 : World) (i : Nat) (o : Oper) : Prop :=
 ∀ (ρ : Operand → Value) (w : World), Below w0.heap.size w0 w →
  (∀ t, (dstsOf l).contains t = false → ρ (.tmp t) = tmps.getD t undef) → (∀ c, ρ (.const c) = c) → (∀ f, ρ (.func f) = .func (.func f) #[] #[]) → (∀ g, ρ (.global g) = .pointer (some ⟨g, 0, none⟩)) →
  (∀ e ∈ o.after, Region.binds .any e = true → ∀ d, (l[e.on]?).bind (·.dst) = some d → φ e.on (ρ (.tmp d)) w) →
  (Region.wanted o (yieldedR l ρ) = true → RelUpon P (φ i) w ((execOp ρ o).run P w)) ∧ (Region.wanted o (yieldedR l ρ) = false → φ i undef w)
/-- what is asked of the store -/
def RelStoreS (P : Program) (l : List Oper) (φ φ' : Nat → Value → World → Prop) (tmps : Array Value) (w0 : World) (s : Nat) (o : Oper) : Prop :=
 o.guard = none ∧ ∀ (ρ : Operand → Value) (w : World), Below w0.heap.size w0 w →
  (∀ t, (dstsOf l).contains t = false → ρ (.tmp t) = tmps.getD t undef) → (∀ c, ρ (.const c) = c) →
  (∀ e ∈ o.after, Region.binds .any e = true → ∀ d, (l[e.on]?).bind (·.dst) = some d → φ e.on (ρ (.tmp d)) w) →
  ∃ w', (execOp ρ o).run P w = .ok .skip w' ∧ Below w0.heap.size w0 w' ∧ φ' s undef w' ∧ ∀ j v, j < l.length → φ j v w → (∀ d, (l[j]?).bind (·.dst) = some d → v = ρ (.tmp d)) → φ' j v w'
/-- the stages at which an operation can come up -/
def needsStage (l : List Oper) (s : Nat) (b : Bool) (i : Nat) (o : Oper) : Bool :=
 if b then !((l[s]?).map fun os => os.after.any fun e => Region.binds .any e && e.on == i).getD false
 else !(o.after.any fun e => Region.binds .any e && e.on == s)
theorem stage_no {l : List Oper} {s i : Nat} {b : Bool} {o : Oper} {X : Prop} (h0 : needsStage l s b i o = false) : needsStage l s b i o = true → X := fun h => by rw [h0] at h; cases h
theorem wp_region_rel2 {P : Program} {id : Nat} {Q : Exit → Act → World → Prop} {tmps : Array Value} {df : List Deferred} {w0 : World} {l : List Oper} (s : Nat) (φ φ' : Nat → Value → World → Prop)
  (hm : P.follows .mixedOrders = true) (hd : dstsApart l = true) (he : edgesBack 0 l = true) (hin : dstsIn tmps.size l = true)
  (hst : ∀ i v w w', φ i v w → Below w.heap.size w w' → φ i v w') (hst' : ∀ i v w w', φ' i v w → Below w.heap.size w w' → φ' i v w')
  (hstep : StepsAll (fun i o => i = s ∨ ((needsStage l s false i o = true → RelStepS P l φ tmps w0 i o) ∧ (needsStage l s true i o = true → RelStepS P l φ' tmps w0 i o))) 0 l)
  (hstore : ∀ o, l[s]? = some o → RelStoreS P l φ φ' tmps w0 s o)
  (hs : s < l.length)
  (hend : ∀ (x : Nat → Value) (w : World), Below w0.heap.size w0 w → (∀ i, i < l.length → φ' i (x i) w) → Q .normal (putAll ⟨tmps, df⟩ x 0 l) w) :
  (Code.region id l.toArray true).wp P Q ⟨tmps, df⟩ w0 := by
 refine wp_region_J (fun L x w => (Below w0.heap.size w0 w ∧ ∀ i, i < l.length → L i = true → (L s = false → φ i (x i) w) ∧ (L s = true → φ' i (x i) w)) ∧ (L s = true → ∀ os, l[s]? = some os → ∀ e ∈ os.after, Region.binds .any e = true → L e.on = true)) hm hd he hin
  (fun x => ⟨⟨⟨rfl, rfl, rfl, Nat.le_refl _, fun _ _ => rfl⟩, fun i _ h => by cases h⟩, fun h => by cases h⟩) ?_ (fun L x w hL hJ => hend x w hJ.1.1 fun i hi => (hJ.1.2 i hi (hL i hi)).2 (hL s hs))
 intro L x w i o ho hLi hae hJC ρ ht hc hf hg hx
 obtain ⟨hJ, hC⟩ := hJC
 have hC' : (if s = i then true else L s) = true → ∀ os, l[s]? = some os → ∀ e ∈ os.after, Region.binds .any e = true → (if e.on = i then true else L e.on) = true := by
  intro h os hos e hee hb
  by_cases e1 : e.on = i
  ·rw [if_pos e1]
  ·rw [if_neg e1]
   by_cases e2 : s = i
   ·subst e2
    rw [hos] at ho
    obtain rfl := Option.some.inj ho
    exact hae e hee hb
   ·rw [if_neg e2] at h
    exact hC h os hos e hee hb
 have hil : i < l.length := (List.getElem?_eq_some_iff.1 ho).1
 have hdep : ∀ (ψ : Nat → Value → World → Prop), (∀ j, j < l.length → L j = true → ψ j (x j) w) → ∀ e ∈ o.after, Region.binds .any e = true → ∀ d, (l[e.on]?).bind (·.dst) = some d → ψ e.on (ρ (.tmp d)) w := by
  intro ψ hψ e hee hb d hdd
  obtain ⟨o', ho', hod⟩ := Option.bind_eq_some_iff.1 hdd
  rw [hx e.on o' d ho' hod]
  exact hψ e.on (List.getElem?_eq_some_iff.1 ho').1 (hae e hee hb)
 by_cases his : i = s
 ·subst his
  obtain ⟨hgd, hS⟩ := hstore o ho
  obtain ⟨w', hrun, hb', hφs, hall⟩ := hS ρ w hJ.1 ht hc (hdep φ fun j hj hL => (hJ.2 j hj hL).1 hLi)
  rw [if_pos (by simp [Region.wanted, hgd]), hrun]
  refine ⟨⟨hb', fun j hj hLj => ⟨fun h => by simp at h, fun _ => ?_⟩⟩, hC'⟩
  by_cases e : j = i
  ·subst e; simpa using hφs
  ·simp only [e, if_false] at hLj ⊢
   exact hall j _ hj ((hJ.2 j hj hLj).1 hLi) fun d hd => by
    obtain ⟨o', ho', hod⟩ := Option.bind_eq_some_iff.1 hd
    exact (hx j o' d ho' hod).symm
 ·have hSt := stepsAll_get l 0 hstep i o ho
  rw [Nat.zero_add] at hSt
  obtain hSt := hSt.resolve_left his
  have hsi : s ≠ i := fun h => his h.symm
  have done : ∀ (ψ : Nat → Value → World → Prop) (b : Bool), L s = b → (∀ j v u u', ψ j v u → Below u.heap.size u u' → ψ j v u') → (∀ j, j < l.length → L j = true → ψ j (x j) w) → (b = false → ψ = φ) → (b = true → ψ = φ') →
    ∀ (v : Value) (u : World), Below w.heap.size w u → ψ i v u → Below w0.heap.size w0 u ∧ ∀ j, j < l.length → (if j = i then true else L j) = true →
     ((if s = i then true else L s) = false → φ j (if j = i then v else x j) u) ∧ ((if s = i then true else L s) = true → φ' j (if j = i then v else x j) u) := by
   intro ψ b hb hstψ hψ e1 e2 v u hbu hi'
   refine ⟨hJ.1.trans (hbu.mono hJ.1.size), fun j hj hLj => ?_⟩
   rw [if_neg hsi, hb]
   have key : ψ j (if j = i then v else x j) u := by
    by_cases e : j = i
    ·subst e; simpa using hi'
    ·rw [if_neg e] at hLj ⊢
     exact hstψ j _ w u (hψ j hj hLj) hbu
   exact ⟨fun h => by rw [← e1 h]; exact key, fun h => by rw [← e2 h]; exact key⟩
  let K : Value → World → Prop := fun v u => (Below w0.heap.size w0 u ∧ ∀ j, j < l.length → (if j = i then true else L j) = true →
        ((if s = i then true else L s) = false → φ j (if j = i then v else x j) u) ∧ ((if s = i then true else L s) = true → φ' j (if j = i then v else x j) u)) ∧
        ((if s = i then true else L s) = true → ∀ os, l[s]? = some os → ∀ e ∈ os.after, Region.binds .any e = true → (if e.on = i then true else L e.on) = true)
  have fin : ∀ (ψ : Nat → Value → World → Prop), ((Region.wanted o (yieldedR l ρ) = true → RelUpon P (ψ i) w ((execOp ρ o).run P w)) ∧ (Region.wanted o (yieldedR l ρ) = false → ψ i undef w)) →
    (∀ (v : Value) (u : World), Below w.heap.size w u → ψ i v u → Below w0.heap.size w0 u ∧ ∀ j, j < l.length → (if j = i then true else L j) = true →
     ((if s = i then true else L s) = false → φ j (if j = i then v else x j) u) ∧ ((if s = i then true else L s) = true → φ' j (if j = i then v else x j) u)) →
    if Region.wanted o (yieldedR l ρ) = true then
     (match (execOp ρ o).run P w with
      | .ok (.value v) w' => K v w'
      | .ok .skip w' => K undef w'
      | .ok (.enter f args) w' => Calls P f args w' fun e w'' => ∃ v, e = .returned v ∧ K v w''
      | _ => False)
    else K undef w := by
   intro ψ hR hdone0
   have hdone : ∀ (v : Value) (u : World), Below w.heap.size w u → ψ i v u → K v u := fun v u h1 h2 => ⟨hdone0 v u h1 h2, hC'⟩
   split
   ·rename_i hw
    have hU := hR.1 hw
    generalize (execOp ρ o).run P w = r at hU ⊢
    cases r with
    | ok n w' =>
     cases n with
     | value v => exact hdone v w' hU.1 hU.2
     | skip => exact hdone undef w' hU.1 hU.2
     | enter f args => exact Calls.mono hU fun e w'' ⟨v, he, hb', hφ⟩ => ⟨v, he, hdone v w'' hb' hφ⟩
     | _ => exact hU.elim
    | halt h w' => exact hU.elim
   ·rename_i hw
    exact hdone undef w (Below.refl _ _) (hR.2 (by simpa using hw))
  cases hb : L s with
  | false =>
   have hn : needsStage l s false i o = true := by
    simp only [needsStage, Bool.false_eq_true, if_false, Bool.not_eq_true', Array.any_eq_false']
    intro e hee h
    simp only [Bool.and_eq_true, beq_iff_eq] at h
    have := hae e hee h.1
    rw [h.2, hb] at this; cases this
   have hψ : ∀ j, j < l.length → L j = true → φ j (x j) w := fun j hj hL => (hJ.2 j hj hL).1 hb
   exact fin φ (hSt.1 hn ρ w hJ.1 ht hc hf hg (hdep φ hψ)) (done φ false hb hst hψ (fun _ => rfl) (fun h => by cases h))
  | true =>
   have hψ : ∀ j, j < l.length → L j = true → φ' j (x j) w := fun j hj hL => (hJ.2 j hj hL).2 hb
   by_cases hn : needsStage l s true i o = true
   ·exact fin φ' (hSt.2 hn ρ w hJ.1 ht hc hf hg (hdep φ' hψ)) (done φ' true hb hst' hψ (fun h => by cases h) (fun _ => rfl))
   ·exfalso
    apply hn
    simp only [needsStage, if_true, Bool.not_eq_true']
    cases hos : l[s]? with
    | none => rfl
    | some os =>
     simp only [Option.map_some, Option.getD_some, Array.any_eq_false']
     intro e hee h
     simp only [Bool.and_eq_true, beq_iff_eq] at h
     have := hC hb os hos e hee h.1
     rw [h.2, hLi] at this; cases this
end Go.Proofs.YtlnoelbeaolikaaGreat
namespace Go.Proofs.YtlnoelbeaolikaaGreat
open Go.RowKit
def UponG (P : Program) (G : Value → World → Prop) : Result Next → Prop
 | .ok (.value v) w' => G v w'
 | .ok .skip w' => G undef w'
 | .ok (.enter f args) w' => Calls P f args w' fun e w'' => ∃ v, e = .returned v ∧ G v w''
 | _ => False
theorem UponG.mono {P : Program} {G K : Value → World → Prop} {r : Result Next} (h : UponG P G r) (hk : ∀ v w, G v w → K v w) : UponG P K r := by
 cases r with
 | ok n w' =>
  cases n with
  | value v => exact hk v w' h
  | skip => exact hk undef w' h
  | enter f args => exact Calls.mono h fun e w'' ⟨v, he, hg⟩ => ⟨v, he, hk v w'' hg⟩
  | _ => exact h.elim
 | halt h' w' => exact h.elim
def depsOf (l : List Oper) (i : Nat) : List Nat := match l[i]? with
 | some o => (o.after.toList.filter fun e => Region.binds .any e).map (·.on)
 | none => []
def ancGo (l : List Oper) : Nat → List Nat → List Nat
 | 0, acc => acc
 | i + 1, acc => ancGo l i (if acc.contains (i + 1) = true then depsOf l (i + 1) ++ acc else acc)
/-- i comes before s in every order -/
def anc (l : List Oper) (s i : Nat) : Bool := decide (i < s) && (ancGo l s [s]).contains i
def Closed (l : List Oper) (L : Nat → Bool) : Prop := ∀ (i : Nat) (o : Oper), l[i]? = some o → L i = true → ∀ e ∈ o.after, Region.binds .any e = true → L e.on = true
theorem ancGo_done {l : List Oper} {L : Nat → Bool} (hL : Closed l L) : ∀ (k : Nat) (acc : List Nat), (∀ i ∈ acc, L i = true) → ∀ i ∈ ancGo l k acc, L i = true
 | 0, acc, h, i, hi => h i hi
 | k + 1, acc, h, i, hi => by
  unfold ancGo at hi
  refine ancGo_done hL k _ (fun j hj => ?_) i hi
  split at hj
  ·rename_i hc
   rcases List.mem_append.1 hj with h1 | h1
   ·unfold depsOf at h1
    cases ho : l[k + 1]? with
    | none => rw [ho] at h1; cases h1
    | some o =>
     rw [ho] at h1
     obtain ⟨e, he, rfl⟩ := List.mem_map.1 h1
     obtain ⟨h2, h3⟩ := List.mem_filter.1 he
     exact hL (k + 1) o ho (h (k + 1) (by simpa using hc)) e (by simpa using h2) h3
   ·exact h j h1
  ·exact h j hj
theorem anc_done {l : List Oper} {L : Nat → Bool} (hL : Closed l L) (s i : Nat) (h : anc l s i = true) (hs : L s = true) : L i = true := by
 unfold anc at h
 rw [Bool.and_eq_true] at h
 exact ancGo_done hL s [s] (fun j hj => by rw [List.mem_singleton.1 hj]; exact hs) i (by simpa using h.2)
theorem anc_lt {l : List Oper} {s i : Nat} (h : anc l s i = true) : i < s := by
 unfold anc at h
 rw [Bool.and_eq_true, decide_eq_true_eq] at h
 exact h.1
def canAt (l : List Oper) (s t : Nat) : Nat → Nat → Bool
 | 0, i => !anc l i s
 | 1, i => !anc l s i && !anc l i t
 | _, i => !anc l t i
def stageOf (s t : Nat) (L : Nat → Bool) : Nat := if L t = true then 2 else if L s = true then 1 else 0
/-- what is asked of an operation at a stage -/
def StgStep (P : Program) (l : List Oper) (Bl : World → Prop) (φ : Nat → Value → World → Prop) (K : World → (Value → World → Prop) → Prop) (tmps : Array Value) (o : Oper) : Prop :=
 ∀ (ρ : Operand → Value) (w : World), Bl w →
  (∀ t, (dstsOf l).contains t = false → ρ (.tmp t) = tmps.getD t undef) → (∀ c, ρ (.const c) = c) → (∀ f, ρ (.func f) = .func (.func f) #[] #[]) → (∀ g, ρ (.global g) = .pointer (some ⟨g, 0, none⟩)) →
  (∀ e ∈ o.after, Region.binds .any e = true → ∀ d, (l[e.on]?).bind (·.dst) = some d → φ e.on (ρ (.tmp d)) w) →
  ∀ G : Value → World → Prop, K w G → (Region.wanted o (yieldedR l ρ) = true → UponG P G ((execOp ρ o).run P w)) ∧ (Region.wanted o (yieldedR l ρ) = false → G undef w)
def keepK (ψ : Value → World → Prop) (w : World) (G : Value → World → Prop) : Prop := ∀ v w', Below w.heap.size w w' → ψ v w' → G v w'
def turnK (l : List Oper) (Bl' : World → Prop) (φ φ' : Nat → Value → World → Prop) (i : Nat) (w : World) (G : Value → World → Prop) : Prop :=
 ∀ v w', Bl' w' → φ' i v w' → (∀ j u, j < l.length → j ≠ i → φ j u w → φ' j u w') → G v w'
def keepG (φ : Nat → Value → World → Prop) (i : Nat) (w : World) (v : Value) (w' : World) : Prop := Below w.heap.size w w' ∧ φ i v w'
def turnG (l : List Oper) (Bl' : World → Prop) (φ φ' : Nat → Value → World → Prop) (i : Nat) (w : World) (v : Value) (w' : World) : Prop :=
 Bl' w' ∧ φ' i v w' ∧ ∀ j u, j < l.length → j ≠ i → φ j u w → φ' j u w'
theorem wp_region_stg {P : Program} {id : Nat} {Q : Exit → Act → World → Prop} {tmps : Array Value} {df : List Deferred} {w0 : World} {l : List Oper} (s t : Nat) (Bl : Nat → World → Prop) (φ : Nat → Nat → Value → World → Prop)
  (hm : P.follows .mixedOrders = true) (hd : dstsApart l = true) (he : edgesBack 0 l = true) (hin : dstsIn tmps.size l = true) (hst : anc l t s = true)
  (hB0 : Bl 0 { w0 with drawn := w0.drawn + 1 }) (hB : ∀ c w w', Bl c w → Below w.heap.size w w' → Bl c w')
  (hφ : ∀ c i v w w', φ c i v w → Below w.heap.size w w' → φ c i v w')
  (hstep : StepsAll (fun i o => i = s ∨ i = t ∨ ((canAt l s t 0 i = true → StgStep P l (Bl 0) (φ 0) (keepK (φ 0 i)) tmps o) ∧ (canAt l s t 1 i = true → StgStep P l (Bl 1) (φ 1) (keepK (φ 1 i)) tmps o) ∧ (canAt l s t 2 i = true → StgStep P l (Bl 2) (φ 2) (keepK (φ 2 i)) tmps o))) 0 l)
  (hs : ∀ o, l[s]? = some o → StgStep P l (Bl 0) (φ 0) (turnK l (Bl 1) (φ 0) (φ 1) s) tmps o)
  (ht : ∀ o, l[t]? = some o → StgStep P l (Bl 1) (φ 1) (turnK l (Bl 2) (φ 1) (φ 2) t) tmps o)
  (hlt : t < l.length)
  (hend : ∀ (x : Nat → Value) (w : World), Bl 2 w → (∀ i, i < l.length → φ 2 i (x i) w) → Q .normal (putAll ⟨tmps, df⟩ x 0 l) w) :
  (Code.region id l.toArray true).wp P Q ⟨tmps, df⟩ w0 := by
 refine wp_region_J (fun L x w => Closed l L ∧ Bl (stageOf s t L) w ∧ ∀ i, i < l.length → L i = true → φ (stageOf s t L) i (x i) w) hm hd he hin
  (fun x => ⟨(fun i o _ h => by cases h), by simpa [stageOf] using hB0, (fun i _ h => by cases h)⟩) ?stp (fun L x w hL hJ => ?fin)
 case fin =>
  have h2 : stageOf s t L = 2 := by unfold stageOf; rw [if_pos (hL t hlt)]
  rw [h2] at hJ
  exact hend x w hJ.2.1 fun i hi => hJ.2.2 i hi (hL i hi)
 intro L x w i o ho hLi hae hJ ρ htm hc hf hg hx
 obtain ⟨hcl, hBl, hfa⟩ := hJ
 have hil : i < l.length := (List.getElem?_eq_some_iff.1 ho).1
 have hcl' : Closed l (fun j => if j = i then true else L j) := by
  intro j o' ho' hj e hee hb
  by_cases e1 : e.on = i
  ·simp [e1]
  ·simp only [e1, if_false]
   by_cases e2 : j = i
   ·subst e2
    rw [ho] at ho'; cases ho'
    exact hae e hee hb
   ·simp only [e2, if_false] at hj
    exact hcl j o' ho' hj e hee hb
 have hts : L t = true → L s = true := fun h => anc_done hcl t s hst h
 have hsn : s ≠ t := by
  intro e
  subst e
  exact absurd (anc_lt hst) (Nat.lt_irrefl _)
 have hdep : ∀ e ∈ o.after, Region.binds .any e = true → ∀ d, (l[e.on]?).bind (·.dst) = some d → φ (stageOf s t L) e.on (ρ (.tmp d)) w := by
  intro e hee hb d hdd
  obtain ⟨o', ho', hod⟩ := Option.bind_eq_some_iff.1 hdd
  rw [hx e.on o' d ho' hod]
  exact hfa e.on (List.getElem?_eq_some_iff.1 ho').1 (hae e hee hb)
 have close : ∀ (G : World → Value → World → Prop), ((Region.wanted o (yieldedR l ρ) = true → UponG P (G w) ((execOp ρ o).run P w)) ∧ (Region.wanted o (yieldedR l ρ) = false → G w undef w)) →
   (∀ v w', G w v w' → Bl (stageOf s t fun j => if j = i then true else L j) w' ∧ ∀ j, j < l.length → (if j = i then true else L j) = true → φ (stageOf s t fun j => if j = i then true else L j) j (if j = i then v else x j) w') →
   if Region.wanted o (yieldedR l ρ) = true then
    (match (execOp ρ o).run P w with
     | .ok (.value v) w' => Closed l (fun j => if j = i then true else L j) ∧ Bl (stageOf s t fun j => if j = i then true else L j) w' ∧ ∀ j, j < l.length → (if j = i then true else L j) = true → φ (stageOf s t fun j => if j = i then true else L j) j (if j = i then v else x j) w'
     | .ok .skip w' => Closed l (fun j => if j = i then true else L j) ∧ Bl (stageOf s t fun j => if j = i then true else L j) w' ∧ ∀ j, j < l.length → (if j = i then true else L j) = true → φ (stageOf s t fun j => if j = i then true else L j) j (if j = i then undef else x j) w'
     | .ok (.enter f args) w' => Calls P f args w' fun e w'' => ∃ v, e = .returned v ∧ Closed l (fun j => if j = i then true else L j) ∧ Bl (stageOf s t fun j => if j = i then true else L j) w'' ∧ ∀ j, j < l.length → (if j = i then true else L j) = true → φ (stageOf s t fun j => if j = i then true else L j) j (if j = i then v else x j) w''
     | _ => False)
   else Closed l (fun j => if j = i then true else L j) ∧ Bl (stageOf s t fun j => if j = i then true else L j) w ∧ ∀ j, j < l.length → (if j = i then true else L j) = true → φ (stageOf s t fun j => if j = i then true else L j) j (if j = i then undef else x j) w := by
  intro G hR hG
  split
  ·rename_i hw
   have hU := hR.1 hw
   generalize (execOp ρ o).run P w = r at hU ⊢
   cases r with
   | ok n w' =>
    cases n with
    | value v => exact ⟨hcl', hG v w' hU⟩
    | skip => exact ⟨hcl', hG undef w' hU⟩
    | enter f args => exact Calls.mono hU fun e w'' ⟨v, hev, hg'⟩ => ⟨v, hev, hcl', hG v w'' hg'⟩
    | _ => exact hU.elim
   | halt h w' => exact hU.elim
  ·rename_i hw
   exact ⟨hcl', hG undef w (hR.2 (by simpa using hw))⟩
 have turn : ∀ c (_ : stageOf s t L = c) (_ : stageOf s t (fun j => if j = i then true else L j) = c + 1), (∀ v w', turnG l (Bl (c + 1)) (φ c) (φ (c + 1)) i w v w' → Bl (stageOf s t fun j => if j = i then true else L j) w' ∧ ∀ j, j < l.length → (if j = i then true else L j) = true → φ (stageOf s t fun j => if j = i then true else L j) j (if j = i then v else x j) w') := by
  intro c h1 h2 v w' h
  rw [h2]
  rw [h1] at hfa
  refine ⟨h.1, fun j hj hLj => ?_⟩
  by_cases e : j = i
  ·subst e; simpa using h.2.1
  ·rw [if_neg e] at hLj ⊢
   exact h.2.2 j _ hj e (hfa j hj hLj)
 have keep : ∀ c (_ : stageOf s t L = c) (_ : stageOf s t (fun j => if j = i then true else L j) = c), (∀ v w', keepG (φ c) i w v w' → Bl (stageOf s t fun j => if j = i then true else L j) w' ∧ ∀ j, j < l.length → (if j = i then true else L j) = true → φ (stageOf s t fun j => if j = i then true else L j) j (if j = i then v else x j) w') := by
  intro c h1 h2 v w' h
  rw [h2]
  rw [h1] at hfa hBl
  refine ⟨hB c w w' hBl h.1, fun j hj hLj => ?_⟩
  by_cases e : j = i
  ·subst e; simpa using h.2
  ·rw [if_neg e] at hLj ⊢
   exact hφ c j _ w w' (hfa j hj hLj) h.1
 by_cases e1 : i = s
 ·subst e1
  have h0 : stageOf i t L = 0 := by
   unfold stageOf
   rw [if_neg (fun h => by rw [hts h] at hLi; cases hLi), if_neg (by rw [hLi]; exact Bool.false_ne_true)]
  have h1 : stageOf i t (fun j => if j = i then true else L j) = 1 := by
   have htL : L t ≠ true := fun h => by rw [hts h] at hLi; cases hLi
   unfold stageOf
   simp [Ne.symm hsn, htL]
  rw [h0] at hBl hdep
  exact close (turnG l (Bl 1) (φ 0) (φ 1) i) (hs o ho ρ w hBl htm hc hf hg hdep _ (fun v w' h1 h2 h3 => ⟨h1, h2, h3⟩)) (turn 0 h0 h1)
 by_cases e2 : i = t
 ·subst e2
  have hLs : L s = true := by
   have h := anc_done hcl' i s hst (by simp)
   rwa [if_neg hsn] at h
  have h0 : stageOf s i L = 1 := by
   unfold stageOf
   rw [if_neg (by rw [hLi]; exact Bool.false_ne_true), if_pos hLs]
  have h1 : stageOf s i (fun j => if j = i then true else L j) = 2 := by
   unfold stageOf; simp
  rw [h0] at hBl hdep
  exact close (turnG l (Bl 2) (φ 1) (φ 2) i) (ht o ho ρ w hBl htm hc hf hg hdep _ (fun v w' h1 h2 h3 => ⟨h1, h2, h3⟩)) (turn 1 h0 h1)
 have hSt := stepsAll_get l 0 hstep i o ho
 rw [Nat.zero_add] at hSt
 obtain ⟨o0, o1, o2⟩ := (hSt.resolve_left e1).resolve_left e2
 have same : stageOf s t (fun j => if j = i then true else L j) = stageOf s t L := by
  unfold stageOf
  simp [Ne.symm e1, Ne.symm e2]
 have anc_i : ∀ a, anc l i a = true → L a = true := by
  intro a h
  have h1 := anc_done hcl' i a h (by simp)
  rwa [if_neg (by have := anc_lt h; omega)] at h1
 have no : ∀ a, L a = true → anc l a i = false := by
  intro a ha
  cases h : anc l a i with
  | false => rfl
  | true => have := anc_done hcl a i h ha; rw [hLi] at this; cases this
 have noi : ∀ a, L a ≠ true → anc l i a = false := by
  intro a ha
  cases h : anc l i a with
  | false => rfl
  | true => exact absurd (anc_i a h) ha
 by_cases hLt : L t = true
 ·have h0 : stageOf s t L = 2 := by unfold stageOf; rw [if_pos hLt]
  rw [h0] at hBl hdep
  exact close (keepG (φ 2) i) (o2 (by simp [canAt, no t hLt]) ρ w hBl htm hc hf hg hdep _ (fun v w' h1 h2 => ⟨h1, h2⟩)) (keep 2 h0 (same.trans h0))
 ·by_cases hLs : L s = true
  ·have h0 : stageOf s t L = 1 := by unfold stageOf; rw [if_neg hLt, if_pos hLs]
   rw [h0] at hBl hdep
   exact close (keepG (φ 1) i) (o1 (by simp [canAt, no s hLs, noi t hLt]) ρ w hBl htm hc hf hg hdep _ (fun v w' h1 h2 => ⟨h1, h2⟩)) (keep 1 h0 (same.trans h0))
  ·have h0 : stageOf s t L = 0 := by unfold stageOf; rw [if_neg hLt, if_neg hLs]
   rw [h0] at hBl hdep
   exact close (keepG (φ 0) i) (o0 (by simp [canAt, noi s hLs]) ρ w hBl htm hc hf hg hdep _ (fun v w' h1 h2 => ⟨h1, h2⟩)) (keep 0 h0 (same.trans h0))
theorem can_no {b : Bool} {X : Prop} (h0 : b = false) : b = true → X := fun h => by rw [h0] at h; cases h
end Go.Proofs.YtlnoelbeaolikaaGreat
