/- Append onto an owned slice: what turns is its own block alone, and where the new slice lies. No program. -/
import Derived.Test.YtlnoelbeaolikaaGreatApp
import Derived.Test.YtlnoelbeaolikaaGreatReg
import Derived.Maps.AppendAt
namespace Go.Proofs.YtlnoelbeaolikaaGreat
open Go.RowKit

theorem run_append_arrO {α : Type} {E : Enc α} {P : Program} {w : World} (t ty : TypeId) (B : Nat) (e : TypeId) (z : Value) (bytes : Nat) (hi : (P.info? e).map (fun i => (i.zero, i.size, i.bytes)) = some (some z, E.sz, bytes)) (ht : P.underlying t = some (.slice e)) (hzs : z.cells.size = E.sz)
    (v : Value) (xs : List α) (hown : Own E e B w v xs) (vx : Value) (ys : List α) (hx : Arr E w vx ys)
    (h63 : xs.length + ys.length ≤ maxLen) (hbytes : (xs.length + ys.length) * bytes ≤ 140737488355328) (hB : B ≤ w.heap.size) :
    ∃ v' w', (Builtin.append_ #[t, t] ty #[v, vx]).run P w = .ok v' w' ∧ Own E e B w' v' (xs ++ ys) ∧ w.grownBy w' v.ownBlock ∧ (v'.ownBlock = v.ownBlock ∨ v'.ownBlock = some w.heap.size) := by
  obtain ⟨i, hi1, hz, hsz, hby⟩ := info_parts hi
  obtain ⟨b, off, ao, cap, rfl, hnc, hcm, hao, hc⟩ := hx
  cases ao with
  | none =>
    have hy : ys = [] := by
      cases ys with
      | nil => rfl
      | cons a l => have := (hao (by simp)).1; cases this
    subst hy
    refine ⟨v, w, ?_, by simpa using hown, World.grownBy.refl _ _, .inl rfl⟩
    rcases hown.2 with ⟨rfl, h0⟩ | ⟨g, cap, cur, rfl, _, _, hn, _⟩
    · simp [Builtin.append_, run_underlying ht, sizeOf, typeInfo, hi1, Builtin.lenOf, Builtin.firstCells]
    · simp [Builtin.append_, run_underlying ht, sizeOf, typeInfo, hi1, Builtin.lenOf, Builtin.firstCells, hn, storeCells]
  | some ad =>
    have hcc : ∀ j u, (E.flat ys)[j]? = some u → w.cell? (ad.add j) = some u := by
      intro j u hu
      have hlen := (List.getElem?_eq_some_iff.1 hu).1
      rw [Enc.flat_len] at hlen
      have hpos : 0 < ys.length := by
        cases ys with
        | nil => simp at hlen
        | cons a t => simp
      obtain ⟨h1, _⟩ := hao hpos
      cases h1
      rw [Addr.add_lit]
      exact flat_cells hc j u hu
    obtain ⟨v', w', hr, h2, h3, _, h5⟩ := run_append_own_at (P := P) w B t ty e i z E.sz bytes ht hi1 hz hsz hby hzs E.pos v xs.length (E.flat xs) hown ad ys.length cap (E.flat ys) (E.flat_len ys) hcc (E.flat_one ys) h63 hbytes hB
    refine ⟨v', w', hr, ?_, h3, h5⟩
    unfold Own
    rw [List.length_append, E.flat_append]
    exact h2
theorem step_appO {α : Type} {E : Enc α} {P : Program} {w : World} {ops : Array Oper} {o : Oper} {a : Act} {K : Act → World → Prop} {Q : Exit → Act → World → Prop} {R : Prop} (hgd : o.guard = none) (s x : Operand) (t : TypeId)
    (ho : o.op = .call { callee := .builtin .append, args := #[s, x], argTypes := #[t, t] })
    (B : Nat) (e : TypeId) (z : Value) (bytes : Nat) (hi : (P.info? e).map (fun i => (i.zero, i.size, i.bytes)) = some (some z, E.sz, bytes)) (ht : P.underlying t = some (.slice e)) (hzs : z.cells.size = E.sz)
    (v : Value) (xs : List α) (hs : a.eval s = v) (hown : Own E e B w v xs) (vx : Value) (ys : List α) (hx : a.eval x = vx) (hy : Arr E w vx ys)
    (h63 : xs.length + ys.length ≤ maxLen) (hbytes : (xs.length + ys.length) * bytes ≤ 140737488355328) (hB : B ≤ w.heap.size)
    (h : ∀ v' w', Own E e B w' v' (xs ++ ys) → w.grownBy w' v.ownBlock → (v'.ownBlock = v.ownBlock ∨ v'.ownBlock = some w.heap.size) → K (a.put o.dst v') w') :
    if Region.wanted o (yielded ops a.tmps) = true then Oper.wp P o a w K Q else R := by
  have hw : Region.wanted o (yielded ops a.tmps) = true := by simp [Region.wanted, hgd]
  rw [if_pos hw]
  obtain ⟨v', w', hr, h1, h2, h3⟩ := run_append_arrO (P := P) t o.type B e z bytes hi ht hzs v xs hown vx ys hy h63 hbytes hB
  unfold Oper.wp execOp
  simp only [ho, resolve, invoke, builtin, Sem.run_bind, Sem.run_pure, Result.andThen_ok, List.map_toArray, List.map_cons, List.map_nil, hs, hx, hr]
  exact h v' w' h1 h2 h3
theorem upon_appO {α : Type} {E : Enc α} {P : Program} {G : Value → World → Prop} {ρ : Operand → Value} {w : World} {o : Oper} (s x : Operand) (t : TypeId)
    (ho : o.op = .call { callee := .builtin .append, args := #[s, x], argTypes := #[t, t] })
    (B : Nat) (e : TypeId) (z : Value) (bytes : Nat) (hi : (P.info? e).map (fun i => (i.zero, i.size, i.bytes)) = some (some z, E.sz, bytes)) (ht : P.underlying t = some (.slice e)) (hzs : z.cells.size = E.sz)
    (v : Value) (xs : List α) (hs : ρ s = v) (hown : Own E e B w v xs) (ys : List α) (hy : Arr E w (ρ x) ys)
    (h63 : xs.length + ys.length ≤ maxLen) (hbytes : (xs.length + ys.length) * bytes ≤ 140737488355328) (hB : B ≤ w.heap.size)
    (h : ∀ v' w', Own E e B w' v' (xs ++ ys) → w.grownBy w' v.ownBlock → (v'.ownBlock = v.ownBlock ∨ v'.ownBlock = some w.heap.size) → G v' w') : UponG P G ((execOp ρ o).run P w) := by
  obtain ⟨v', w', hr, h1, h2, h3⟩ := run_append_arrO (P := P) t o.type B e z bytes hi ht hzs v xs hown (ρ x) ys hy h63 hbytes hB
  rw [← hs] at hr
  unfold execOp
  simp only [ho, resolve, invoke, builtin, Sem.run_bind, Sem.run_pure, Result.andThen_ok, List.map_toArray, List.map_cons, List.map_nil, hr]
  exact h v' w' h1 h2 h3
end Go.Proofs.YtlnoelbeaolikaaGreat
namespace Go.Proofs.YtlnoelbeaolikaaGreat
open Go.RowKit

def StgStepR (P : Program) (l : List Oper) (Bl : World → Prop) (φ : Nat → Value → World → Prop) (K : (Operand → Value) → World → (Value → World → Prop) → Prop) (tmps : Array Value) (o : Oper) : Prop :=
  ∀ (ρ : Operand → Value) (w : World), Bl w →
    (∀ t, (dstsOf l).contains t = false → ρ (.tmp t) = tmps.getD t undef) → (∀ c, ρ (.const c) = c) → (∀ f, ρ (.func f) = .func (.func f) #[] #[]) → (∀ g, ρ (.global g) = .pointer (some ⟨g, 0, none⟩)) →
    (∀ e ∈ o.after, Region.binds .any e = true → ∀ d, (l[e.on]?).bind (·.dst) = some d → φ e.on (ρ (.tmp d)) w) →
    ∀ G : Value → World → Prop, K ρ w G → (Region.wanted o (yieldedR l ρ) = true → UponG P G ((execOp ρ o).run P w)) ∧ (Region.wanted o (yieldedR l ρ) = false → G undef w)
def turnKx (l : List Oper) (Bl' : World → Prop) (φ φ' : Nat → Value → World → Prop) (i : Nat) (ρ : Operand → Value) (w : World) (G : Value → World → Prop) : Prop :=
  ∀ v w', Bl' w' → φ' i v w' → (∀ j u, j < l.length → j ≠ i → (∀ o d, l[j]? = some o → o.dst = some d → ρ (.tmp d) = u) → φ j u w → φ' j u w') → G v w'
theorem wp_region_stgx {P : Program} {id : Nat} {Q : Exit → Act → World → Prop} {tmps : Array Value} {df : List Deferred} {w0 : World} {l : List Oper} (s t : Nat) (Bl : Nat → World → Prop) (φ : Nat → Nat → Value → World → Prop)
    (hm : P.follows .mixedOrders = true) (hd : dstsApart l = true) (he : edgesBack 0 l = true) (hin : dstsIn tmps.size l = true) (hst : anc l t s = true)
    (hB0 : Bl 0 { w0 with drawn := w0.drawn + 1 }) (hB : ∀ c w w', Bl c w → Below w.heap.size w w' → Bl c w')
    (hφ : ∀ c i v w w', φ c i v w → Below w.heap.size w w' → φ c i v w')
    (hstep : StepsAll (fun i o => i = s ∨ i = t ∨ ((canAt l s t 0 i = true → StgStep P l (Bl 0) (φ 0) (keepK (φ 0 i)) tmps o) ∧ (canAt l s t 1 i = true → StgStep P l (Bl 1) (φ 1) (keepK (φ 1 i)) tmps o) ∧ (canAt l s t 2 i = true → StgStep P l (Bl 2) (φ 2) (keepK (φ 2 i)) tmps o))) 0 l)
    (hs : ∀ o, l[s]? = some o → StgStep P l (Bl 0) (φ 0) (turnK l (Bl 1) (φ 0) (φ 1) s) tmps o)
    (ht : ∀ o, l[t]? = some o → StgStepR P l (Bl 1) (φ 1) (fun ρ => turnKx l (Bl 2) (φ 1) (φ 2) t ρ) tmps o)
    (hlt : t < l.length)
    (hend : ∀ (x : Nat → Value) (w : World), Bl 2 w → (∀ i, i < l.length → φ 2 i (x i) w) → Q .normal (putAll ⟨tmps, df⟩ x 0 l) w) :
    (Code.region id l.toArray true).wp P Q ⟨tmps, df⟩ w0 := by
  refine wp_region_J (fun L x w => Closed l L ∧ Bl (stageOf s t L) w ∧ ∀ i, i < l.length → L i = true → φ (stageOf s t L) i (x i) w) hm hd he hin
    (fun x => ⟨(fun i o _ h => by cases h), by simpa [stageOf] using hB0, (fun i _ h => by cases h)⟩) ?stp (fun L x w hL hJ => ?fin)
  case fin =>
    have h2 : stageOf s t L = 2 := by unfold stageOf; rw [if_pos (hL t hlt)]
    rw [h2] at hJ
    exact hend x w hJ.2.1 fun i hi => hJ.2.2 i hi (hL i hi)
  intro L x w i o ho hLi hae hJ ρ htm hc hf hg hx
  obtain ⟨hcl, hBl, hfa⟩ := hJ
  have hil : i < l.length := (List.getElem?_eq_some_iff.1 ho).1
  have hcl' : Closed l (fun j => if j = i then true else L j) := by
    intro j o' ho' hj e hee hb
    by_cases e1 : e.on = i
    · simp [e1]
    · simp only [e1, if_false]
      by_cases e2 : j = i
      · subst e2
        rw [ho] at ho'; cases ho'
        exact hae e hee hb
      · simp only [e2, if_false] at hj
        exact hcl j o' ho' hj e hee hb
  have hts : L t = true → L s = true := fun h => anc_done hcl t s hst h
  have hsn : s ≠ t := by
    intro e
    subst e
    exact absurd (anc_lt hst) (Nat.lt_irrefl _)
  have hdep : ∀ e ∈ o.after, Region.binds .any e = true → ∀ d, (l[e.on]?).bind (·.dst) = some d → φ (stageOf s t L) e.on (ρ (.tmp d)) w := by
    intro e hee hb d hdd
    obtain ⟨o', ho', hod⟩ := Option.bind_eq_some_iff.1 hdd
    rw [hx e.on o' d ho' hod]
    exact hfa e.on (List.getElem?_eq_some_iff.1 ho').1 (hae e hee hb)
  have close : ∀ (G : World → Value → World → Prop), ((Region.wanted o (yieldedR l ρ) = true → UponG P (G w) ((execOp ρ o).run P w)) ∧ (Region.wanted o (yieldedR l ρ) = false → G w undef w)) →
      (∀ v w', G w v w' → Bl (stageOf s t fun j => if j = i then true else L j) w' ∧ ∀ j, j < l.length → (if j = i then true else L j) = true → φ (stageOf s t fun j => if j = i then true else L j) j (if j = i then v else x j) w') →
      if Region.wanted o (yieldedR l ρ) = true then
        (match (execOp ρ o).run P w with
         | .ok (.value v) w' => Closed l (fun j => if j = i then true else L j) ∧ Bl (stageOf s t fun j => if j = i then true else L j) w' ∧ ∀ j, j < l.length → (if j = i then true else L j) = true → φ (stageOf s t fun j => if j = i then true else L j) j (if j = i then v else x j) w'
         | .ok .skip w' => Closed l (fun j => if j = i then true else L j) ∧ Bl (stageOf s t fun j => if j = i then true else L j) w' ∧ ∀ j, j < l.length → (if j = i then true else L j) = true → φ (stageOf s t fun j => if j = i then true else L j) j (if j = i then undef else x j) w'
         | .ok (.enter f args) w' => Calls P f args w' fun e w'' => ∃ v, e = .returned v ∧ Closed l (fun j => if j = i then true else L j) ∧ Bl (stageOf s t fun j => if j = i then true else L j) w'' ∧ ∀ j, j < l.length → (if j = i then true else L j) = true → φ (stageOf s t fun j => if j = i then true else L j) j (if j = i then v else x j) w''
         | _ => False)
      else Closed l (fun j => if j = i then true else L j) ∧ Bl (stageOf s t fun j => if j = i then true else L j) w ∧ ∀ j, j < l.length → (if j = i then true else L j) = true → φ (stageOf s t fun j => if j = i then true else L j) j (if j = i then undef else x j) w := by
    intro G hR hG
    split
    · rename_i hw
      have hU := hR.1 hw
      generalize (execOp ρ o).run P w = r at hU ⊢
      cases r with
      | ok n w' =>
        cases n with
        | value v => exact ⟨hcl', hG v w' hU⟩
        | skip => exact ⟨hcl', hG undef w' hU⟩
        | enter f args => exact Calls.mono hU fun e w'' ⟨v, hev, hg'⟩ => ⟨v, hev, hcl', hG v w'' hg'⟩
        | _ => exact hU.elim
      | halt h w' => exact hU.elim
    · rename_i hw
      exact ⟨hcl', hG undef w (hR.2 (by simpa using hw))⟩
  have turn : ∀ c (_ : stageOf s t L = c) (_ : stageOf s t (fun j => if j = i then true else L j) = c + 1), (∀ v w', turnG l (Bl (c + 1)) (φ c) (φ (c + 1)) i w v w' → Bl (stageOf s t fun j => if j = i then true else L j) w' ∧ ∀ j, j < l.length → (if j = i then true else L j) = true → φ (stageOf s t fun j => if j = i then true else L j) j (if j = i then v else x j) w') := by
    intro c h1 h2 v w' h
    rw [h2]
    rw [h1] at hfa
    refine ⟨h.1, fun j hj hLj => ?_⟩
    by_cases e : j = i
    · subst e; simpa using h.2.1
    · rw [if_neg e] at hLj ⊢
      exact h.2.2 j _ hj e (hfa j hj hLj)
  have keep : ∀ c (_ : stageOf s t L = c) (_ : stageOf s t (fun j => if j = i then true else L j) = c), (∀ v w', keepG (φ c) i w v w' → Bl (stageOf s t fun j => if j = i then true else L j) w' ∧ ∀ j, j < l.length → (if j = i then true else L j) = true → φ (stageOf s t fun j => if j = i then true else L j) j (if j = i then v else x j) w') := by
    intro c h1 h2 v w' h
    rw [h2]
    rw [h1] at hfa hBl
    refine ⟨hB c w w' hBl h.1, fun j hj hLj => ?_⟩
    by_cases e : j = i
    · subst e; simpa using h.2
    · rw [if_neg e] at hLj ⊢
      exact hφ c j _ w w' (hfa j hj hLj) h.1
  by_cases e1 : i = s
  · subst e1
    have h0 : stageOf i t L = 0 := by
      unfold stageOf
      rw [if_neg (fun h => by rw [hts h] at hLi; cases hLi), if_neg (by rw [hLi]; exact Bool.false_ne_true)]
    have h1 : stageOf i t (fun j => if j = i then true else L j) = 1 := by
      have htL : L t ≠ true := fun h => by rw [hts h] at hLi; cases hLi
      unfold stageOf
      simp [Ne.symm hsn, htL]
    rw [h0] at hBl hdep
    exact close (turnG l (Bl 1) (φ 0) (φ 1) i) (hs o ho ρ w hBl htm hc hf hg hdep _ (fun v w' h1 h2 h3 => ⟨h1, h2, h3⟩)) (turn 0 h0 h1)
  by_cases e2 : i = t
  · subst e2
    have hLs : L s = true := by
      have h := anc_done hcl' i s hst (by simp)
      rwa [if_neg hsn] at h
    have h0 : stageOf s i L = 1 := by
      unfold stageOf
      rw [if_neg (by rw [hLi]; exact Bool.false_ne_true), if_pos hLs]
    have h1 : stageOf s i (fun j => if j = i then true else L j) = 2 := by
      unfold stageOf; simp
    rw [h0] at hBl hdep
    refine close (fun w v w' => Bl 2 w' ∧ φ 2 i v w' ∧ ∀ j u, j < l.length → j ≠ i → (∀ o' d, l[j]? = some o' → o'.dst = some d → ρ (.tmp d) = u) → φ 1 j u w → φ 2 j u w') (ht o ho ρ w hBl htm hc hf hg hdep _ (fun v w' h1 h2 h3 => ⟨h1, h2, h3⟩)) ?_
    intro v w' h
    rw [h1]
    rw [h0] at hfa
    refine ⟨h.1, fun j hj hLj => ?_⟩
    by_cases e : j = i
    · subst e; simpa using h.2.1
    · rw [if_neg e] at hLj ⊢
      exact h.2.2 j _ hj e (fun o' d ho' hd' => hx j o' d ho' hd') (hfa j hj hLj)
  have hSt := stepsAll_get l 0 hstep i o ho
  rw [Nat.zero_add] at hSt
  obtain ⟨o0, o1, o2⟩ := (hSt.resolve_left e1).resolve_left e2
  have same : stageOf s t (fun j => if j = i then true else L j) = stageOf s t L := by
    unfold stageOf
    simp [Ne.symm e1, Ne.symm e2]
  have anc_i : ∀ a, anc l i a = true → L a = true := by
    intro a h
    have h1 := anc_done hcl' i a h (by simp)
    rwa [if_neg (by have := anc_lt h; omega)] at h1
  have no : ∀ a, L a = true → anc l a i = false := by
    intro a ha
    cases h : anc l a i with
    | false => rfl
    | true => have := anc_done hcl a i h ha; rw [hLi] at this; cases this
  have noi : ∀ a, L a ≠ true → anc l i a = false := by
    intro a ha
    cases h : anc l i a with
    | false => rfl
    | true => exact absurd (anc_i a h) ha
  by_cases hLt : L t = true
  · have h0 : stageOf s t L = 2 := by unfold stageOf; rw [if_pos hLt]
    rw [h0] at hBl hdep
    exact close (keepG (φ 2) i) (o2 (by simp [canAt, no t hLt]) ρ w hBl htm hc hf hg hdep _ (fun v w' h1 h2 => ⟨h1, h2⟩)) (keep 2 h0 (same.trans h0))
  · by_cases hLs : L s = true
    · have h0 : stageOf s t L = 1 := by unfold stageOf; rw [if_neg hLt, if_pos hLs]
      rw [h0] at hBl hdep
      exact close (keepG (φ 1) i) (o1 (by simp [canAt, no s hLs, noi t hLt]) ρ w hBl htm hc hf hg hdep _ (fun v w' h1 h2 => ⟨h1, h2⟩)) (keep 1 h0 (same.trans h0))
    · have h0 : stageOf s t L = 0 := by unfold stageOf; rw [if_neg hLt, if_neg hLs]
      rw [h0] at hBl hdep
      exact close (keepG (φ 0) i) (o0 (by simp [canAt, noi s hLs]) ρ w hBl htm hc hf hg hdep _ (fun v w' h1 h2 => ⟨h1, h2⟩)) (keep 0 h0 (same.trans h0))
end Go.Proofs.YtlnoelbeaolikaaGreat
