/- A region that draws its order, in which two operations, one behind the other, write to memory: what each operation's outcome is, stage by stage. Plain lemmas on the model, no program. -/
import Derived.Test.YtnhmailnnggmjaaReg2
namespace Go.Proofs.Ytnhmailnnggmjaa
open Go.RowKit

def UponG (P : Program) (G : Value → World → Prop) : Result Next → Prop
  | .ok (.value v) w' => G v w'
  | .ok .skip w' => G undef w'
  | .ok (.enter f args) w' => Calls P f args w' fun e w'' => ∃ v, e = .returned v ∧ G v w''
  | _ => False
theorem UponG.mono {P : Program} {G K : Value → World → Prop} {r : Result Next} (h : UponG P G r) (hk : ∀ v w, G v w → K v w) : UponG P K r := by
  cases r with
  | ok n w' =>
    cases n with
    | value v => exact hk v w' h
    | skip => exact hk undef w' h
    | enter f args => exact Calls.mono h fun e w'' ⟨v, he, hg⟩ => ⟨v, he, hk v w'' hg⟩
    | _ => exact h.elim
  | halt h' w' => exact h.elim
def depsOf (l : List Oper) (i : Nat) : List Nat := match l[i]? with
  | some o => (o.after.toList.filter fun e => Region.binds .any e).map (·.on)
  | none => []
def ancGo (l : List Oper) : Nat → List Nat → List Nat
  | 0, acc => acc
  | i + 1, acc => ancGo l i (if acc.contains (i + 1) = true then depsOf l (i + 1) ++ acc else acc)
/-- i comes before s in every order -/
def anc (l : List Oper) (s i : Nat) : Bool := decide (i < s) && (ancGo l s [s]).contains i
def Closed (l : List Oper) (L : Nat → Bool) : Prop := ∀ (i : Nat) (o : Oper), l[i]? = some o → L i = true → ∀ e ∈ o.after, Region.binds .any e = true → L e.on = true
theorem ancGo_done {l : List Oper} {L : Nat → Bool} (hL : Closed l L) : ∀ (k : Nat) (acc : List Nat), (∀ i ∈ acc, L i = true) → ∀ i ∈ ancGo l k acc, L i = true
  | 0, acc, h, i, hi => h i hi
  | k + 1, acc, h, i, hi => by
    unfold ancGo at hi
    refine ancGo_done hL k _ (fun j hj => ?_) i hi
    split at hj
    · rename_i hc
      rcases List.mem_append.1 hj with h1 | h1
      · unfold depsOf at h1
        cases ho : l[k + 1]? with
        | none => rw [ho] at h1; cases h1
        | some o =>
          rw [ho] at h1
          obtain ⟨e, he, rfl⟩ := List.mem_map.1 h1
          obtain ⟨h2, h3⟩ := List.mem_filter.1 he
          exact hL (k + 1) o ho (h (k + 1) (by simpa using hc)) e (by simpa using h2) h3
      · exact h j h1
    · exact h j hj
theorem anc_done {l : List Oper} {L : Nat → Bool} (hL : Closed l L) (s i : Nat) (h : anc l s i = true) (hs : L s = true) : L i = true := by
  unfold anc at h
  rw [Bool.and_eq_true] at h
  exact ancGo_done hL s [s] (fun j hj => by rw [List.mem_singleton.1 hj]; exact hs) i (by simpa using h.2)
theorem anc_lt {l : List Oper} {s i : Nat} (h : anc l s i = true) : i < s := by
  unfold anc at h
  rw [Bool.and_eq_true, decide_eq_true_eq] at h
  exact h.1
def canAt (l : List Oper) (s t : Nat) : Nat → Nat → Bool
  | 0, i => !anc l i s
  | 1, i => !anc l s i && !anc l i t
  | _, i => !anc l t i
def stageOf (s t : Nat) (L : Nat → Bool) : Nat := if L t = true then 2 else if L s = true then 1 else 0
/-- what is asked of an operation at a stage -/
def StgStep (P : Program) (l : List Oper) (Bl : World → Prop) (φ : Nat → Value → World → Prop) (K : World → (Value → World → Prop) → Prop) (tmps : Array Value) (o : Oper) : Prop :=
  ∀ (ρ : Operand → Value) (w : World), Bl w →
    (∀ t, (dstsOf l).contains t = false → ρ (.tmp t) = tmps.getD t undef) → (∀ c, ρ (.const c) = c) → (∀ f, ρ (.func f) = .func (.func f) #[] #[]) → (∀ g, ρ (.global g) = .pointer (some ⟨g, 0, none⟩)) →
    (∀ e ∈ o.after, Region.binds .any e = true → ∀ d, (l[e.on]?).bind (·.dst) = some d → φ e.on (ρ (.tmp d)) w) →
    ∀ G : Value → World → Prop, K w G → (Region.wanted o (yieldedR l ρ) = true → UponG P G ((execOp ρ o).run P w)) ∧ (Region.wanted o (yieldedR l ρ) = false → G undef w)
def keepK (ψ : Value → World → Prop) (w : World) (G : Value → World → Prop) : Prop := ∀ v w', Below w.heap.size w w' → ψ v w' → G v w'
def turnK (l : List Oper) (Bl' : World → Prop) (φ φ' : Nat → Value → World → Prop) (i : Nat) (w : World) (G : Value → World → Prop) : Prop :=
  ∀ v w', Bl' w' → φ' i v w' → (∀ j u, j < l.length → j ≠ i → φ j u w → φ' j u w') → G v w'
def keepG (φ : Nat → Value → World → Prop) (i : Nat) (w : World) (v : Value) (w' : World) : Prop := Below w.heap.size w w' ∧ φ i v w'
def turnG (l : List Oper) (Bl' : World → Prop) (φ φ' : Nat → Value → World → Prop) (i : Nat) (w : World) (v : Value) (w' : World) : Prop :=
  Bl' w' ∧ φ' i v w' ∧ ∀ j u, j < l.length → j ≠ i → φ j u w → φ' j u w'

theorem wp_region_stg {P : Program} {id : Nat} {Q : Exit → Act → World → Prop} {tmps : Array Value} {df : List Deferred} {w0 : World} {l : List Oper} (s t : Nat) (Bl : Nat → World → Prop) (φ : Nat → Nat → Value → World → Prop)
    (hm : P.follows .mixedOrders = true) (hd : dstsApart l = true) (he : edgesBack 0 l = true) (hin : dstsIn tmps.size l = true) (hst : anc l t s = true)
    (hB0 : Bl 0 { w0 with drawn := w0.drawn + 1 }) (hB : ∀ c w w', Bl c w → Below w.heap.size w w' → Bl c w')
    (hφ : ∀ c i v w w', φ c i v w → Below w.heap.size w w' → φ c i v w')
    (hstep : StepsAll (fun i o => i = s ∨ i = t ∨ ((canAt l s t 0 i = true → StgStep P l (Bl 0) (φ 0) (keepK (φ 0 i)) tmps o) ∧ (canAt l s t 1 i = true → StgStep P l (Bl 1) (φ 1) (keepK (φ 1 i)) tmps o) ∧ (canAt l s t 2 i = true → StgStep P l (Bl 2) (φ 2) (keepK (φ 2 i)) tmps o))) 0 l)
    (hs : ∀ o, l[s]? = some o → StgStep P l (Bl 0) (φ 0) (turnK l (Bl 1) (φ 0) (φ 1) s) tmps o)
    (ht : ∀ o, l[t]? = some o → StgStep P l (Bl 1) (φ 1) (turnK l (Bl 2) (φ 1) (φ 2) t) tmps o)
    (hlt : t < l.length)
    (hend : ∀ (x : Nat → Value) (w : World), Bl 2 w → (∀ i, i < l.length → φ 2 i (x i) w) → Q .normal (putAll ⟨tmps, df⟩ x 0 l) w) :
    (Code.region id l.toArray true).wp P Q ⟨tmps, df⟩ w0 := by
  refine wp_region_J (fun L x w => Closed l L ∧ Bl (stageOf s t L) w ∧ ∀ i, i < l.length → L i = true → φ (stageOf s t L) i (x i) w) hm hd he hin
    (fun x => ⟨(fun i o _ h => by cases h), by simpa [stageOf] using hB0, (fun i _ h => by cases h)⟩) ?stp (fun L x w hL hJ => ?fin)
  case fin =>
    have h2 : stageOf s t L = 2 := by unfold stageOf; rw [if_pos (hL t hlt)]
    rw [h2] at hJ
    exact hend x w hJ.2.1 fun i hi => hJ.2.2 i hi (hL i hi)
  intro L x w i o ho hLi hae hJ ρ htm hc hf hg hx
  obtain ⟨hcl, hBl, hfa⟩ := hJ
  have hil : i < l.length := (List.getElem?_eq_some_iff.1 ho).1
  have hcl' : Closed l (fun j => if j = i then true else L j) := by
    intro j o' ho' hj e hee hb
    by_cases e1 : e.on = i
    · simp [e1]
    · simp only [e1, if_false]
      by_cases e2 : j = i
      · subst e2
        rw [ho] at ho'; cases ho'
        exact hae e hee hb
      · simp only [e2, if_false] at hj
        exact hcl j o' ho' hj e hee hb
  have hts : L t = true → L s = true := fun h => anc_done hcl t s hst h
  have hsn : s ≠ t := by
    intro e
    subst e
    exact absurd (anc_lt hst) (Nat.lt_irrefl _)
  have hdep : ∀ e ∈ o.after, Region.binds .any e = true → ∀ d, (l[e.on]?).bind (·.dst) = some d → φ (stageOf s t L) e.on (ρ (.tmp d)) w := by
    intro e hee hb d hdd
    obtain ⟨o', ho', hod⟩ := Option.bind_eq_some_iff.1 hdd
    rw [hx e.on o' d ho' hod]
    exact hfa e.on (List.getElem?_eq_some_iff.1 ho').1 (hae e hee hb)
  have close : ∀ (G : World → Value → World → Prop), ((Region.wanted o (yieldedR l ρ) = true → UponG P (G w) ((execOp ρ o).run P w)) ∧ (Region.wanted o (yieldedR l ρ) = false → G w undef w)) →
      (∀ v w', G w v w' → Bl (stageOf s t fun j => if j = i then true else L j) w' ∧ ∀ j, j < l.length → (if j = i then true else L j) = true → φ (stageOf s t fun j => if j = i then true else L j) j (if j = i then v else x j) w') →
      if Region.wanted o (yieldedR l ρ) = true then
        (match (execOp ρ o).run P w with
         | .ok (.value v) w' => Closed l (fun j => if j = i then true else L j) ∧ Bl (stageOf s t fun j => if j = i then true else L j) w' ∧ ∀ j, j < l.length → (if j = i then true else L j) = true → φ (stageOf s t fun j => if j = i then true else L j) j (if j = i then v else x j) w'
         | .ok .skip w' => Closed l (fun j => if j = i then true else L j) ∧ Bl (stageOf s t fun j => if j = i then true else L j) w' ∧ ∀ j, j < l.length → (if j = i then true else L j) = true → φ (stageOf s t fun j => if j = i then true else L j) j (if j = i then undef else x j) w'
         | .ok (.enter f args) w' => Calls P f args w' fun e w'' => ∃ v, e = .returned v ∧ Closed l (fun j => if j = i then true else L j) ∧ Bl (stageOf s t fun j => if j = i then true else L j) w'' ∧ ∀ j, j < l.length → (if j = i then true else L j) = true → φ (stageOf s t fun j => if j = i then true else L j) j (if j = i then v else x j) w''
         | _ => False)
      else Closed l (fun j => if j = i then true else L j) ∧ Bl (stageOf s t fun j => if j = i then true else L j) w ∧ ∀ j, j < l.length → (if j = i then true else L j) = true → φ (stageOf s t fun j => if j = i then true else L j) j (if j = i then undef else x j) w := by
    intro G hR hG
    split
    · rename_i hw
      have hU := hR.1 hw
      generalize (execOp ρ o).run P w = r at hU ⊢
      cases r with
      | ok n w' =>
        cases n with
        | value v => exact ⟨hcl', hG v w' hU⟩
        | skip => exact ⟨hcl', hG undef w' hU⟩
        | enter f args => exact Calls.mono hU fun e w'' ⟨v, hev, hg'⟩ => ⟨v, hev, hcl', hG v w'' hg'⟩
        | _ => exact hU.elim
      | halt h w' => exact hU.elim
    · rename_i hw
      exact ⟨hcl', hG undef w (hR.2 (by simpa using hw))⟩
  have turn : ∀ c (_ : stageOf s t L = c) (_ : stageOf s t (fun j => if j = i then true else L j) = c + 1), (∀ v w', turnG l (Bl (c + 1)) (φ c) (φ (c + 1)) i w v w' → Bl (stageOf s t fun j => if j = i then true else L j) w' ∧ ∀ j, j < l.length → (if j = i then true else L j) = true → φ (stageOf s t fun j => if j = i then true else L j) j (if j = i then v else x j) w') := by
    intro c h1 h2 v w' h
    rw [h2]
    rw [h1] at hfa
    refine ⟨h.1, fun j hj hLj => ?_⟩
    by_cases e : j = i
    · subst e; simpa using h.2.1
    · rw [if_neg e] at hLj ⊢
      exact h.2.2 j _ hj e (hfa j hj hLj)
  have keep : ∀ c (_ : stageOf s t L = c) (_ : stageOf s t (fun j => if j = i then true else L j) = c), (∀ v w', keepG (φ c) i w v w' → Bl (stageOf s t fun j => if j = i then true else L j) w' ∧ ∀ j, j < l.length → (if j = i then true else L j) = true → φ (stageOf s t fun j => if j = i then true else L j) j (if j = i then v else x j) w') := by
    intro c h1 h2 v w' h
    rw [h2]
    rw [h1] at hfa hBl
    refine ⟨hB c w w' hBl h.1, fun j hj hLj => ?_⟩
    by_cases e : j = i
    · subst e; simpa using h.2
    · rw [if_neg e] at hLj ⊢
      exact hφ c j _ w w' (hfa j hj hLj) h.1
  by_cases e1 : i = s
  · subst e1
    have h0 : stageOf i t L = 0 := by
      unfold stageOf
      rw [if_neg (fun h => by rw [hts h] at hLi; cases hLi), if_neg (by rw [hLi]; exact Bool.false_ne_true)]
    have h1 : stageOf i t (fun j => if j = i then true else L j) = 1 := by
      have htL : L t ≠ true := fun h => by rw [hts h] at hLi; cases hLi
      unfold stageOf
      simp [Ne.symm hsn, htL]
    rw [h0] at hBl hdep
    exact close (turnG l (Bl 1) (φ 0) (φ 1) i) (hs o ho ρ w hBl htm hc hf hg hdep _ (fun v w' h1 h2 h3 => ⟨h1, h2, h3⟩)) (turn 0 h0 h1)
  by_cases e2 : i = t
  · subst e2
    have hLs : L s = true := by
      have h := anc_done hcl' i s hst (by simp)
      rwa [if_neg hsn] at h
    have h0 : stageOf s i L = 1 := by
      unfold stageOf
      rw [if_neg (by rw [hLi]; exact Bool.false_ne_true), if_pos hLs]
    have h1 : stageOf s i (fun j => if j = i then true else L j) = 2 := by
      unfold stageOf; simp
    rw [h0] at hBl hdep
    exact close (turnG l (Bl 2) (φ 1) (φ 2) i) (ht o ho ρ w hBl htm hc hf hg hdep _ (fun v w' h1 h2 h3 => ⟨h1, h2, h3⟩)) (turn 1 h0 h1)
  have hSt := stepsAll_get l 0 hstep i o ho
  rw [Nat.zero_add] at hSt
  obtain ⟨o0, o1, o2⟩ := (hSt.resolve_left e1).resolve_left e2
  have same : stageOf s t (fun j => if j = i then true else L j) = stageOf s t L := by
    unfold stageOf
    simp [Ne.symm e1, Ne.symm e2]
  have anc_i : ∀ a, anc l i a = true → L a = true := by
    intro a h
    have h1 := anc_done hcl' i a h (by simp)
    rwa [if_neg (by have := anc_lt h; omega)] at h1
  have no : ∀ a, L a = true → anc l a i = false := by
    intro a ha
    cases h : anc l a i with
    | false => rfl
    | true => have := anc_done hcl a i h ha; rw [hLi] at this; cases this
  have noi : ∀ a, L a ≠ true → anc l i a = false := by
    intro a ha
    cases h : anc l i a with
    | false => rfl
    | true => exact absurd (anc_i a h) ha
  by_cases hLt : L t = true
  · have h0 : stageOf s t L = 2 := by unfold stageOf; rw [if_pos hLt]
    rw [h0] at hBl hdep
    exact close (keepG (φ 2) i) (o2 (by simp [canAt, no t hLt]) ρ w hBl htm hc hf hg hdep _ (fun v w' h1 h2 => ⟨h1, h2⟩)) (keep 2 h0 (same.trans h0))
  · by_cases hLs : L s = true
    · have h0 : stageOf s t L = 1 := by unfold stageOf; rw [if_neg hLt, if_pos hLs]
      rw [h0] at hBl hdep
      exact close (keepG (φ 1) i) (o1 (by simp [canAt, no s hLs, noi t hLt]) ρ w hBl htm hc hf hg hdep _ (fun v w' h1 h2 => ⟨h1, h2⟩)) (keep 1 h0 (same.trans h0))
    · have h0 : stageOf s t L = 0 := by unfold stageOf; rw [if_neg hLt, if_neg hLs]
      rw [h0] at hBl hdep
      exact close (keepG (φ 0) i) (o0 (by simp [canAt, noi s hLs]) ρ w hBl htm hc hf hg hdep _ (fun v w' h1 h2 => ⟨h1, h2⟩)) (keep 0 h0 (same.trans h0))
theorem can_no {b : Bool} {X : Prop} (h0 : b = false) : b = true → X := fun h => by rw [h0] at h; cases h
end Go.Proofs.Ytnhmailnnggmjaa
