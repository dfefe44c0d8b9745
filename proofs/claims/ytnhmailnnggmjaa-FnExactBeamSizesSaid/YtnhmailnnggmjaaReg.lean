/- A region that draws its order: each operation is shown alone, in whatever world the order brings it to; what it leaves is told by a property of its value that growth of the world keeps. Plain lemmas on the model, no program. -/
import Derived.Test.YtnhmailnnggmjaaBase
namespace Go.Proofs.Ytnhmailnnggmjaa
open Go.RowKit

/-- the frame a0 in which the region's slots hold the values x 0, x 1, .. -/
def putAll (a : Act) (x : Nat → Value) : Nat → List Oper → Act
  | _, [] => a
  | i, o :: os => putAll (a.put o.dst (x i)) x (i + 1) os

def StepsAll (f : Nat → Oper → Prop) : Nat → List Oper → Prop
  | _, [] => True
  | i, o :: os => f i o ∧ StepsAll f (i + 1) os

theorem stepsAll_get {f : Nat → Oper → Prop} (l : List Oper) : ∀ (k : Nat), StepsAll f k l → ∀ i o, l[i]? = some o → f (k + i) o := by
  induction l with
  | nil => intro k _ i o ho; simp at ho
  | cons o os ih =>
    intro k h i o' ho
    cases i with
    | zero => simp at ho; subst ho; exact h.1
    | succ i =>
      have := ih (k + 1) h.2 i o' (by simpa using ho)
      rwa [show k + 1 + i = k + (i + 1) from by omega] at this

theorem count_set (L : List Bool) : ∀ (i : Nat) (hl : i < L.length), L[i] = false → (L.filter (! ·)).length = ((L.set i true).filter (! ·)).length + 1 := by
  induction L with
  | nil => intro i hl; simp at hl
  | cons b L ih =>
    intro i hl hf
    cases i with
    | zero => simp at hf; subst hf; simp
    | succ i =>
      have := ih i (by simpa using hl) (by simpa using hf)
      simp only [List.set_cons_succ, List.filter_cons]
      split
      · simp only [List.length_cons]; omega
      · exact this

theorem put_put (a : Act) (d : Option Tmp) (u v : Value) : (a.put d u).put d v = a.put d v := by
  cases d with
  | none => rfl
  | some d => simp [Act.put]

theorem put_same (a : Act) (d : Option Tmp) : a.put d (match d with | some t => a.tmps.getD t undef | none => undef) = a := by
  cases d with
  | none => rfl
  | some d =>
    obtain ⟨tmps, defers⟩ := a
    simp only [Act.put, Act.mk.injEq, and_true]
    refine Array.ext (by simp) fun i h1 h2 => ?_
    rw [Array.getElem_setIfInBounds]
    split
    · rename_i e; subst e; simp [h2]
    · rfl

theorem putAll_put (x : Nat → Value) : ∀ (l : List Oper) (k : Nat) (a : Act) (d : Option Tmp) (v : Value), (∀ o ∈ l, ∀ t, d = some t → o.dst ≠ some t) → putAll (a.put d v) x k l = (putAll a x k l).put d v
  | [], _, _, _, _, _ => rfl
  | o :: os, k, a, d, v, h => by
    simp only [putAll]
    rw [Act.put_comm a v (x k) (fun t ht => h o List.mem_cons_self t ht)]
    exact putAll_put x os (k + 1) _ d v fun o' ho' => h o' (List.mem_cons_of_mem _ ho')

theorem putAll_congr {x y : Nat → Value} : ∀ (l : List Oper) (k : Nat) (a : Act), (∀ i, k ≤ i → x i = y i) → putAll a x k l = putAll a y k l
  | [], _, _, _ => rfl
  | o :: os, k, a, h => by simp only [putAll]; rw [h k (Nat.le_refl _)]; exact putAll_congr os (k + 1) _ fun i hi => h i (by omega)

/-- no two operations write one slot -/
def dstsApart : List Oper → Bool
  | [] => true
  | o :: os => (match o.dst with | some d => os.all fun o' => o'.dst != some d | none => true) && dstsApart os

theorem putAll_set (x : Nat → Value) (v : Value) (l : List Oper) : ∀ (k i : Nat) (a : Act) (o : Oper), dstsApart l = true → l[i]? = some o →
    (putAll a x k l).put o.dst v = putAll a (fun j => if j = k + i then v else x j) k l := by
  induction l with
  | nil => intro k i a o _ ho; simp at ho
  | cons o os ih =>
    intro k i a o' hd ho
    cases i with
    | zero =>
      simp at ho; subst ho
      simp only [putAll, Nat.add_zero, if_true]
      rw [← putAll_put x os (k + 1) _ o.dst v, put_put]
      · exact putAll_congr os (k + 1) _ fun i hi => by rw [if_neg (by omega)]
      · intro o2 h2 t ht
        simp only [dstsApart, ht, Bool.and_eq_true, List.all_eq_true, bne_iff_ne] at hd
        exact hd.1 o2 h2
    | succ i =>
      simp only [putAll]
      rw [if_neg (by omega)]
      simp only [dstsApart, Bool.and_eq_true] at hd
      rw [ih (k + 1) i (a.put o.dst (x k)) o' hd.2 (by simpa using ho)]
      exact putAll_congr os (k + 1) _ fun j _ => by rw [show k + 1 + i = k + (i + 1) from by omega]

/-- the operations' edges lead back -/
def edgesBack : Nat → List Oper → Bool
  | _, [] => true
  | i, o :: os => (o.after.all fun e => !Region.binds .any e || decide (e.on < i)) && edgesBack (i + 1) os

theorem edgesBack_get (l : List Oper) : ∀ (k : Nat), edgesBack k l = true → ∀ i o, l[i]? = some o → ∀ e ∈ o.after, Region.binds .any e = true → e.on < k + i := by
  induction l with
  | nil => intro k _ i o ho; simp at ho
  | cons o os ih =>
    intro k h i o' ho e he hb
    simp only [edgesBack, Bool.and_eq_true, Array.all_eq_true'] at h
    cases i with
    | zero =>
      simp at ho; subst ho
      have := h.1 e he
      simpa [hb] using this
    | succ i =>
      have := ih (k + 1) h.2 i o' (by simpa using ho) e he hb
      omega

/-- what an operation yields -/
def RelUpon (P : Program) (φ : Value → World → Prop) (w : World) : Result Next → Prop
  | .ok (.value v) w' => Below w.heap.size w w' ∧ φ v w'
  | .ok .skip w' => Below w.heap.size w w' ∧ φ undef w'
  | .ok (.enter f args) w' => Calls P f args w' fun e w'' => ∃ v, e = .returned v ∧ Below w.heap.size w w'' ∧ φ v w''
  | _ => False

/-- what the operation j has yielded, for a guard -/
def yieldedR (l : List Oper) (ρ : Operand → Value) (j : Nat) : Option Bool :=
  match (l[j]?).bind (·.dst) with
  | some d => (match ρ (.tmp d) with | .bool b => some b | _ => none)
  | none => none

def dstsOf (l : List Oper) : List Tmp := l.filterMap (·.dst)

/-- what is asked of operation i: ρ reads the frame in which the region's slots hold values that the operations' properties allow -/
def RelStep (P : Program) (l : List Oper) (φ : Nat → Value → World → Prop) (a0 : Act) (w0 : World) (i : Nat) (o : Oper) : Prop :=
  ∀ (ρ : Operand → Value) (w : World), Below w0.heap.size w0 w →
    (∀ t, (dstsOf l).contains t = false → ρ (.tmp t) = a0.tmps.getD t undef) → (∀ c, ρ (.const c) = c) → (∀ f, ρ (.func f) = .func (.func f) #[] #[]) → (∀ g, ρ (.global g) = .pointer (some ⟨g, 0, none⟩)) →
    (∀ e ∈ o.after, Region.binds .any e = true → ∀ d, (l[e.on]?).bind (·.dst) = some d → φ e.on (ρ (.tmp d)) w) →
    (Region.wanted o (yieldedR l ρ) = true → RelUpon P (φ i) w ((execOp ρ o).run P w)) ∧ (Region.wanted o (yieldedR l ρ) = false → φ i undef w)

theorem putAll_other (x : Nat → Value) (t : Tmp) (l : List Oper) : ∀ (k : Nat) (a : Act), (dstsOf l).contains t = false → (putAll a x k l).tmps.getD t undef = a.tmps.getD t undef := by
  induction l with
  | nil => intro k a _; rfl
  | cons o os ih =>
    intro k a h
    simp only [putAll]
    have h2 : (dstsOf os).contains t = false := by
      cases hd : o.dst with
      | none => simpa [dstsOf, hd] using h
      | some d => simp [dstsOf, hd] at h ⊢; exact h.2
    rw [ih (k + 1) _ h2]
    cases hd : o.dst with
    | none => rfl
    | some d =>
      have hne : d ≠ t := by simp [dstsOf, hd] at h; exact fun e => h.1 e.symm
      simp [Act.put, Array.getElem?_setIfInBounds_ne hne]

theorem putAll_size (x : Nat → Value) (l : List Oper) : ∀ (k : Nat) (a : Act), (putAll a x k l).tmps.size = a.tmps.size := by
  induction l with
  | nil => intro k a; rfl
  | cons o os ih =>
    intro k a
    simp only [putAll]
    rw [ih]
    cases hd : o.dst <;> simp [Act.put]

theorem putAll_at (x : Nat → Value) (l : List Oper) : ∀ (k i : Nat) (a : Act) (o : Oper) (d : Tmp), dstsApart l = true → l[i]? = some o → o.dst = some d → d < a.tmps.size → (putAll a x k l).tmps.getD d undef = x (k + i) := by
  induction l with
  | nil => intro k i a o d _ ho; simp at ho
  | cons o os ih =>
    intro k i a o' d hd ho hod hlt
    simp only [putAll]
    have hd' := hd
    simp only [dstsApart, Bool.and_eq_true] at hd
    cases i with
    | zero =>
      simp at ho; subst ho
      rw [putAll_other]
      · simp [hod, Act.put, hlt]
      · have h1 := hd.1
        rw [hod] at h1
        simp only [List.all_eq_true, bne_iff_ne] at h1
        cases h : (dstsOf os).contains d with
        | false => rfl
        | true =>
          exfalso
          have hm : d ∈ dstsOf os := List.elem_iff.1 h
          obtain ⟨o2, h2, h3⟩ := List.mem_filterMap.1 hm
          exact h1 o2 h2 h3
    | succ i =>
      have := ih (k + 1) i (a.put o.dst (x k)) o' d hd.2 (by simpa using ho) hod (by cases h : o.dst <;> simp [Act.put, hlt])
      rw [this, show k + 1 + i = k + (i + 1) from by omega]

/-- every slot that the region writes is a slot of the frame -/
def dstsIn (n : Nat) (l : List Oper) : Bool := (dstsOf l).all fun d => decide (d < n)

theorem wp_region_rel {P : Program} {id : Nat} {Q : Exit → Act → World → Prop} {tmps : Array Value} {df : List Deferred} {w0 : World} {l : List Oper} (φ : Nat → Value → World → Prop)
    (hm : P.follows .mixedOrders = true) (hd : dstsApart l = true) (he : edgesBack 0 l = true) (hin : dstsIn tmps.size l = true)
    (hst : ∀ i v w w', φ i v w → Below w.heap.size w w' → φ i v w')
    (hstep : StepsAll (RelStep P l φ ⟨tmps, df⟩ w0) 0 l)
    (hend : ∀ (x : Nat → Value) (w : World), Below w0.heap.size w0 w → (∀ i, i < l.length → φ i (x i) w) → Q .normal (putAll ⟨tmps, df⟩ x 0 l) w) :
    (Code.region id l.toArray true).wp P Q ⟨tmps, df⟩ w0 := by
  refine wp_region_any hm ?_
  generalize ha0 : (⟨tmps, df⟩ : Act) = a0 at *
  have htm : a0.tmps = tmps := by rw [← ha0]
  let Inv : Array Bool → Act → World → Prop := fun listed a w => listed.size = l.length ∧ ∃ x, a = putAll a0 x 0 l ∧ Below w0.heap.size w0 w ∧ ∀ i, listed.getD i false = true → φ i (x i) w
  have hready : ∀ listed : Array Bool, listed.size = l.length → Region.ready .any l.toArray listed = [] → ∀ i, i < l.length → listed.getD i false = true := by
    intro listed hs hr i
    induction i using Nat.strongRecOn with
    | _ i ih =>
      intro hi
      by_cases h : listed.getD i false = true
      · exact h
      · exfalso
        have hmem : i ∈ Region.ready .any l.toArray listed := by
          refine mem_ready.2 ⟨?_, l[i], by simp [hi], fun e hee hb => ?_⟩
          · have hi' : i < listed.size := by omega
            simp [hi'] at h ⊢; exact h
          · have := edgesBack_get l 0 he i l[i] (List.getElem?_eq_getElem hi) e hee hb
            exact ih e.on (by omega) (by omega)
        rw [hr] at hmem; cases hmem
  have main : ∀ (fuel : Nat) (listed : Array Bool) (a : Act) (w : World), Inv listed a w → (listed.toList.filter (! ·)).length ≤ fuel → wpAny P .any l.toArray Q fuel listed a w := by
    intro fuel
    induction fuel with
    | zero =>
      intro listed a w hI hc
      obtain ⟨hs, x, rfl, hb, hx⟩ := hI
      have hall : ∀ i, i < l.length → listed.getD i false = true := by
        intro i hi
        have h0 : (listed.toList.filter (! ·)) = [] := List.length_eq_zero_iff.1 (by omega)
        rw [List.filter_eq_nil_iff] at h0
        have hi' : i < listed.size := by omega
        have := h0 listed[i] (by simp)
        simp [hi'] at this ⊢; exact this
      refine ⟨?_, hend x w hb fun i hi => hx i (hall i hi)⟩
      cases hr : Region.ready .any l.toArray listed with
      | nil => rfl
      | cons j js =>
        have hj : j ∈ Region.ready .any l.toArray listed := by rw [hr]; exact List.mem_cons_self
        obtain ⟨h1, o, ho, _⟩ := mem_ready.1 hj
        have hj' : j < l.length := by
          rcases Nat.lt_or_ge j l.length with h | h
          · exact h
          · simp [Nat.not_lt.2 h] at ho
        have := hall j hj'
        have hjs : j < listed.size := by omega
        simp [hjs] at h1 this
        rw [this] at h1; cases h1
    | succ fuel ih =>
      intro listed a w hI hc
      refine ⟨fun hr => ?_, fun i hi => ?_⟩
      · obtain ⟨hs, x, rfl, hb, hx⟩ := hI
        exact hend x w hb fun i hi => hx i (hready listed hs hr i hi)
      · obtain ⟨hs, x, rfl, hb, hx⟩ := hI
        obtain ⟨h1, o, ho, hall⟩ := mem_ready.1 hi
        have hol : l[i]? = some o := by simpa using ho
        have hil : i < l.length := (List.getElem?_eq_some_iff.1 hol).1
        have his : i < listed.size := by omega
        have hcount : ((listed.setIfInBounds i true).toList.filter (! ·)).length ≤ fuel := by
          have hf : listed[i] = false := by simpa [his] using h1
          have := count_set listed.toList i (by simpa using his) (by simpa using hf)
          rw [Array.toList_setIfInBounds]
          omega
        have hat : ∀ j o' d, l[j]? = some o' → o'.dst = some d → (putAll a0 x 0 l).tmps.getD d undef = x j := fun j o' d hj hod => by
          have := putAll_at x l 0 j a0 o' d hd hj hod (by
            rw [htm]
            simp only [dstsIn, List.all_eq_true, decide_eq_true_eq] at hin
            exact hin d (List.mem_filterMap.2 ⟨o', List.mem_of_getElem? hj, hod⟩))
          rwa [Nat.zero_add] at this
        have hy : yieldedR l (putAll a0 x 0 l).eval = yielded l.toArray (putAll a0 x 0 l).tmps := by
          funext j
          unfold yieldedR yielded
          simp only [List.getElem?_toArray, Act.eval]
          cases (l[j]?).bind (·.dst) with
          | none => rfl
          | some d =>
            simp only [Option.bind_some, Array.getD_eq_getD_getElem?]
            cases (putAll a0 x 0 l).tmps[d]? with
            | none => rfl
            | some v => cases v <;> rfl
        have hR := stepsAll_get l 0 hstep i o hol
        rw [Nat.zero_add] at hR
        have hR' := hR (putAll a0 x 0 l).eval w hb (fun t ht => putAll_other x t l 0 a0 ht) (fun _ => rfl) (fun _ => rfl) (fun _ => rfl) (fun e hee hbd d hdd => by
          have hl := hall e hee hbd
          have hlt : e.on < listed.size := by
            rcases Nat.lt_or_ge e.on listed.size with h | h
            · exact h
            · simp [Array.getElem?_eq_none h] at hl
          obtain ⟨o', ho', hod⟩ := Option.bind_eq_some_iff.1 hdd
          show φ e.on ((putAll a0 x 0 l).tmps.getD d undef) w
          rw [hat e.on o' d ho' hod]
          exact hx e.on hl)
        rw [hy] at hR'
        have next : ∀ v w', Below w.heap.size w w' → φ i v w' → wpAny P .any l.toArray Q fuel (listed.setIfInBounds i true) ((putAll a0 x 0 l).put o.dst v) w' := by
          intro v w' hb' hφ
          refine ih _ _ _ ⟨by simpa using hs, fun j => if j = 0 + i then v else x j, putAll_set x v l 0 i a0 o hd hol, hb.trans (hb'.mono hb.size), fun j hj => ?_⟩ hcount
          by_cases e : j = i
          · subst e; simpa using hφ
          · simp only [Nat.zero_add, e, if_false]
            refine hst j _ w w' (hx j ?_) hb'
            have e' : i ≠ j := fun h => e h.symm
            rcases Nat.lt_or_ge j listed.size with h | h
            · simpa [h, e', Array.getElem_setIfInBounds] using hj
            · have hn : (listed.setIfInBounds i true)[j]? = none := Array.getElem?_eq_none (by simpa using h)
              simp [hn] at hj
        unfold wpOp
        simp only [ho]
        split
        · rename_i hw
          have hU := hR'.1 hw
          refine .inl ?_
          unfold Oper.wp
          generalize (execOp (putAll a0 x 0 l).eval o).run P w = r at hU ⊢
          cases r with
          | ok n w' =>
            cases n with
            | value v => exact next v w' hU.1 hU.2
            | skip => exact next undef w' hU.1 hU.2
            | enter f args =>
              simp only [Oper.upon]
              exact Calls.mono hU fun e w'' ⟨v, he, hb', hφ⟩ => by subst he; exact next v w'' hb' hφ
            | _ => exact hU.elim
          | halt h w' => exact hU.elim
        · rename_i hw
          exact next undef w (Below.refl _ _) (hR'.2 (by simpa using hw))
  refine main _ _ _ _ ⟨by simp, fun i => match l[i]? with | some o => (match o.dst with | some t => a0.tmps.getD t undef | none => undef) | none => undef, ?_, ⟨rfl, rfl, rfl, Nat.le_refl _, fun _ _ => rfl⟩, fun i hi => ?_⟩ ?_
  · have key : ∀ (l' : List Oper) (k : Nat) (y : Nat → Value), (∀ i o, l'[i]? = some o → y (k + i) = (match o.dst with | some t => a0.tmps.getD t undef | none => undef)) → putAll a0 y k l' = a0 := by
      intro l'
      induction l' with
      | nil => intros; rfl
      | cons o os ih =>
        intro k y hy
        simp only [putAll]
        rw [show y k = (match o.dst with | some t => a0.tmps.getD t undef | none => undef) from hy 0 o rfl, put_same]
        exact ih (k + 1) y fun i o' ho' => by rw [show k + 1 + i = k + (i + 1) from by omega]; exact hy (i + 1) o' (by simpa using ho')
    exact (key l 0 _ fun i o ho => by simp only [Nat.zero_add, ho]).symm
  · exfalso
    rcases Nat.lt_or_ge i l.length with h | h
    · simp [h] at hi
    · simp [Nat.not_lt.2 h] at hi
  · simp
end Go.Proofs.Ytnhmailnnggmjaa
