/- Words and how often they occur: runs of a sorted list. Plain lemmas, no program. -/
import Derived.Test.YthooeaappnkjgaaSortPl
import Derived.Test.YthooeaappnkjgaaCmp
namespace Go.Proofs.Ythooeaappnkjgaa
open Go.Sort

theorem baS_eq {a b : ByteArray} (h : a.toList = b.toList) : a = b := by
  rw [ByteArray.toList_eq, ByteArray.toList_eq] at h
  cases a; cases b
  congr
  exact Array.toList_inj.1 h
theorem eqS_iff {a b : ByteArray} : eqS a b = true ↔ a = b := by
  unfold eqS
  rw [beq_iff_eq]
  exact ⟨baS_eq, fun h => by rw [h]⟩
theorem eqS_false {a b : ByteArray} : eqS a b = false ↔ a ≠ b := by
  rw [← Bool.not_eq_true, eqS_iff]
def timesS (ws : List ByteArray) (s : ByteArray) : Nat := ws.countP fun a => eqS a s
theorem times_cons (a : ByteArray) (t : List ByteArray) (s : ByteArray) : timesS (a :: t) s = timesS t s + if a = s then 1 else 0 := by
  unfold timesS
  rw [List.countP_cons]
  by_cases h : a = s
  · rw [if_pos h, if_pos (eqS_iff.2 h)]
  · rw [if_neg h, if_neg (by rw [eqS_iff]; exact h)]
theorem times_perm {A B : List ByteArray} (h : A.Perm B) (s : ByteArray) : timesS A s = timesS B s := h.countP_eq _
theorem times_pos {ws : List ByteArray} {s : ByteArray} (h : s ∈ ws) : 0 < timesS ws s := by
  unfold timesS
  exact List.countP_pos_iff.2 ⟨s, h, eqS_iff.2 rfl⟩
theorem times_le (ws : List ByteArray) (s : ByteArray) : timesS ws s ≤ ws.length := List.countP_le_length
/-- the runs of a list -/
def addRun (w : ByteArray) (n : Nat) : List (ByteArray × Nat) → List (ByteArray × Nat)
  | [] => [(w, n)]
  | (b, m) :: r => if eqS w b then (w, n + m) :: r else (w, n) :: (b, m) :: r
def runsS : List ByteArray → List (ByteArray × Nat)
  | [] => []
  | a :: t => addRun a 1 (runsS t)
theorem addRun_cons (w : ByteArray) (n : Nat) (b : ByteArray) (m : Nat) (r : List (ByteArray × Nat)) : addRun w n ((b, m) :: r) = if eqS w b then (w, n + m) :: r else (w, n) :: (b, m) :: r := rfl
theorem addRun_two (w : ByteArray) (n : Nat) (R : List (ByteArray × Nat)) : addRun w n (addRun w 1 R) = addRun w (n + 1) R := by
  cases R with
  | nil => simp [addRun, eqS_iff.2 (rfl : w = w)]
  | cons p r =>
    obtain ⟨b, m⟩ := p
    have hw : eqS w w = true := eqS_iff.2 rfl
    rw [addRun_cons, addRun_cons]
    by_cases h : eqS w b = true
    · rw [if_pos h, if_pos h, addRun_cons, if_pos hw, Nat.add_assoc]
    · rw [if_neg h, if_neg h, addRun_cons, if_pos hw]
theorem runs_drop {S : List ByteArray} {k : Nat} {a : ByteArray} (h : S[k]? = some a) : runsS (S.drop k) = addRun a 1 (runsS (S.drop (k + 1))) := by
  have hk := (List.getElem?_eq_some_iff.1 h).1
  rw [List.drop_eq_getElem_cons hk]
  have : S[k] = a := (List.getElem?_eq_some_iff.1 h).2
  rw [this]; rfl
theorem runs_head (a : ByteArray) (t : List ByteArray) : ∃ n r, runsS (a :: t) = (a, n) :: r := by
  show ∃ n r, addRun a 1 (runsS t) = (a, n) :: r
  cases runsS t with
  | nil => exact ⟨_, _, rfl⟩
  | cons p r =>
    obtain ⟨b, m⟩ := p
    rw [addRun_cons]
    split
    · exact ⟨_, _, rfl⟩
    · exact ⟨_, _, rfl⟩
/-- a run that ends -/
theorem addRun_end {S : List ByteArray} {k : Nat} {w : ByteArray} {n : Nat} (h : ∀ a, S[k]? = some a → eqS a w = false) : addRun w n (runsS (S.drop k)) = (w, n) :: runsS (S.drop k) := by
  cases hk : S[k]? with
  | none =>
    rw [List.drop_of_length_le (List.getElem?_eq_none_iff.1 hk)]; rfl
  | some a =>
    have hl := (List.getElem?_eq_some_iff.1 hk).1
    have he : S[k] = a := (List.getElem?_eq_some_iff.1 hk).2
    rw [List.drop_eq_getElem_cons hl, he]
    obtain ⟨m, r, hr⟩ := runs_head a (S.drop (k + 1))
    rw [hr, addRun_cons]
    have := h a hk
    rw [eqS_false] at this
    rw [if_neg (by rw [eqS_iff]; exact fun e => this e.symm)]
def SortedS (S : List ByteArray) : Prop := S.Pairwise fun a b => ltB b a = false
def StrictS (L : List ByteArray) : Prop := L.Pairwise fun a b => ltB a b = true
theorem ltB_self (a : ByteArray) : ltB a a = false := ltB_irrefl a
theorem ltB_tot {a b : ByteArray} (h : ltB b a = false) (hn : a ≠ b) : ltB a b = true := by
  cases h2 : ltB a b with
  | true => rfl
  | false => exact absurd (baS_eq (ltB_or h2 h)) hn
/-- the runs of a sorted list: its words rise, and the numbers are how often they occur -/
theorem runs_sorted : ∀ {S : List ByteArray}, SortedS S → StrictS ((runsS S).map (·.1)) ∧ (∀ p ∈ runsS S, p.1 ∈ S ∧ p.2 = timesS S p.1) ∧ ∀ a ∈ S, ∃ n, (a, n) ∈ runsS S
  | [], _ => ⟨List.Pairwise.nil, fun p h => (by cases h), fun a h => (by cases h)⟩
  | a :: t, h => by
    obtain ⟨h1, h2⟩ := List.pairwise_cons.1 h
    obtain ⟨i1, i2, i3⟩ := runs_sorted h2
    show StrictS ((addRun a 1 (runsS t)).map (·.1)) ∧ (∀ p ∈ addRun a 1 (runsS t), p.1 ∈ a :: t ∧ p.2 = timesS (a :: t) p.1) ∧ ∀ x ∈ a :: t, ∃ n, (x, n) ∈ addRun a 1 (runsS t)
    cases hR : runsS t with
    | nil =>
      have ht : t = [] := by
        cases t with
        | nil => rfl
        | cons b u => obtain ⟨n, r, hr⟩ := runs_head b u; rw [hr] at hR; cases hR
      subst ht
      refine ⟨by simp [addRun, StrictS], fun p hp => ?_, fun x hx => ?_⟩
      · simp [addRun] at hp; subst hp; exact ⟨List.mem_cons_self, by simp [timesS, eqS_iff.2 (rfl : a = a)]⟩
      · rw [List.mem_singleton.1 hx]; exact ⟨1, by simp [addRun]⟩
    | cons p r =>
      obtain ⟨b, m⟩ := p
      rw [hR] at i1 i2 i3
      have hbt := i2 (b, m) List.mem_cons_self
      have hr1 := List.pairwise_cons.1 (show ((b :: r.map (·.1)) : List ByteArray).Pairwise _ from i1)
      have hge : ∀ q ∈ r, ltB b q.1 = true := fun q hq => hr1.1 q.1 (List.mem_map.2 ⟨q, hq, rfl⟩)
      rw [addRun_cons]
      by_cases hab : eqS a b = true
      · rw [if_pos hab]
        have e := eqS_iff.1 hab
        subst e
        refine ⟨i1, fun p hp => ?_, fun x hx => ?_⟩
        · rcases List.mem_cons.1 hp with h3 | h3
          · subst h3
            refine ⟨List.mem_cons_self, ?_⟩
            have h5 := hbt.2
            simp only at h5 ⊢
            rw [times_cons, if_pos rfl, ← h5]; omega
          · have h4 := i2 p (List.mem_cons_of_mem _ h3)
            refine ⟨List.mem_cons_of_mem _ h4.1, ?_⟩
            have : a ≠ p.1 := fun e => by have := hge p h3; rw [← e, ltB_self] at this; cases this
            rw [times_cons, if_neg this, h4.2]; omega
        · by_cases hxa : x = a
          · subst hxa; exact ⟨_, List.mem_cons_self⟩
          · rcases List.mem_cons.1 hx with h3 | h3
            · exact absurd h3 hxa
            · obtain ⟨n, hn⟩ := i3 x h3
              rcases List.mem_cons.1 hn with h4 | h4
              · exact absurd (congrArg Prod.fst h4) hxa
              · exact ⟨n, List.mem_cons_of_mem _ h4⟩
      · rw [if_neg hab]
        have hne : a ≠ b := fun e => hab (eqS_iff.2 e)
        have hlt : ltB a b = true := ltB_tot (h1 b hbt.1) hne
        have hall : ∀ q ∈ (b, m) :: r, ltB a q.1 = true := fun q hq => by
          rcases List.mem_cons.1 hq with h3 | h3
          · rw [h3]; exact hlt
          · exact ltB_trans hlt (hge q h3)
        refine ⟨List.pairwise_cons.2 ⟨fun y hy => ?_, i1⟩, fun p hp => ?_, fun x hx => ?_⟩
        · obtain ⟨q, hq, rfl⟩ := List.mem_map.1 hy
          exact hall q hq
        · rcases List.mem_cons.1 hp with h3 | h3
          · subst h3
            refine ⟨List.mem_cons_self, ?_⟩
            simp only
            rw [times_cons, if_pos rfl]
            have : timesS t a = 0 := by
              rcases Nat.eq_zero_or_pos (timesS t a) with h0 | h0
              · exact h0
              · exfalso
                unfold timesS at h0
                obtain ⟨y, hy, hya⟩ := List.countP_pos_iff.1 h0
                rw [eqS_iff] at hya
                subst hya
                obtain ⟨n, hn⟩ := i3 y hy
                have := hall _ hn
                rw [ltB_self] at this; cases this
            omega
          · have h4 := i2 p h3
            refine ⟨List.mem_cons_of_mem _ h4.1, ?_⟩
            have : a ≠ p.1 := fun e => by have := hall p h3; rw [← e, ltB_self] at this; cases this
            rw [times_cons, if_neg this, h4.2]; omega
        · rcases List.mem_cons.1 hx with h3 | h3
          · subst h3; exact ⟨_, List.mem_cons_self⟩
          · obtain ⟨n, hn⟩ := i3 x h3
            exact ⟨n, List.mem_cons_of_mem _ hn⟩
/-! ### the reference's list of different words -/
def insD (l : List ByteArray) (t : ByteArray) : List ByteArray := if l.any (fun a => eqS a t) then l else insE ltB l t
def difS (ws : List ByteArray) : List ByteArray := ws.foldl insD []
theorem strict_uniq : ∀ {A B : List ByteArray}, StrictS A → StrictS B → (∀ x, x ∈ A ↔ x ∈ B) → A = B
  | [], [], _, _, _ => rfl
  | [], b :: B, _, _, h => absurd ((h b).2 List.mem_cons_self) (by simp)
  | a :: A, [], _, _, h => absurd ((h a).1 List.mem_cons_self) (by simp)
  | a :: A, b :: B, hA, hB, h => by
    obtain ⟨a1, a2⟩ := List.pairwise_cons.1 hA
    obtain ⟨b1, b2⟩ := List.pairwise_cons.1 hB
    have hab : a = b := by
      rcases List.mem_cons.1 ((h a).1 List.mem_cons_self) with h1 | h1
      · exact h1
      · rcases List.mem_cons.1 ((h b).2 List.mem_cons_self) with h2 | h2
        · exact h2.symm
        · have h3 := ltB_trans (a1 b h2) (b1 a h1)
          rw [ltB_self] at h3; cases h3
    subst hab
    congr 1
    refine strict_uniq a2 b2 fun x => ⟨fun hx => ?_, fun hx => ?_⟩
    · rcases List.mem_cons.1 ((h x).1 (List.mem_cons_of_mem _ hx)) with h1 | h1
      · subst h1; have := a1 x hx; rw [ltB_self] at this; cases this
      · exact h1
    · rcases List.mem_cons.1 ((h x).2 (List.mem_cons_of_mem _ hx)) with h1 | h1
      · subst h1; have := b1 x hx; rw [ltB_self] at this; cases this
      · exact h1
theorem ltB_ntransS {a b c : ByteArray} (h : ltB a b = false) (k : ltB b c = false) : ltB a c = false := by
  cases hac : ltB a c with
  | false => rfl
  | true =>
    cases hba : ltB b a with
    | true => have := ltB_trans hba hac; rw [k] at this; cases this
    | false =>
      have e := baS_eq (ltB_or h hba)
      rw [e, k] at hac; cases hac
theorem swoS : SWO ltB where
  irrefl a := ltB_irrefl a
  trans _ _ _ := ltB_trans
  ntrans _ _ _ := ltB_ntransS
theorem insE_mem {l : List ByteArray} {t x : ByteArray} : x ∈ insE ltB l t ↔ x = t ∨ x ∈ l := by
  rw [(insE_perm ltB l t).mem_iff, List.mem_cons]
theorem strict_up {l : List ByteArray} (h : StrictS l) : Up ltB l := h.imp fun hab => ltB_asymm hab
theorem strict_of {l : List ByteArray} (h : Up ltB l) (hn : l.Nodup) : StrictS l := by
  unfold StrictS
  rw [List.nodup_iff_pairwise_ne] at hn
  exact (List.Pairwise.and h hn).imp fun {a b} hab => ltB_tot hab.1 hab.2
theorem strict_nodup {l : List ByteArray} (h : StrictS l) : l.Nodup := by
  rw [List.nodup_iff_pairwise_ne]
  exact h.imp fun {a b} hab e => by rw [e, ltB_self] at hab; cases hab
theorem insD_strict {l : List ByteArray} (h : StrictS l) (t : ByteArray) : StrictS (insD l t) := by
  unfold insD
  split
  · exact h
  · rename_i hn
    refine strict_of (insE_up swoS (strict_up h) t) ?_
    rw [(insE_perm ltB l t).nodup_iff, List.nodup_cons]
    refine ⟨fun hm => hn (List.any_eq_true.2 ⟨t, hm, eqS_iff.2 rfl⟩), strict_nodup h⟩
theorem insD_mem {l : List ByteArray} {t x : ByteArray} : x ∈ insD l t ↔ x = t ∨ x ∈ l := by
  unfold insD
  split
  · rename_i h
    obtain ⟨a, ha, he⟩ := List.any_eq_true.1 h
    rw [eqS_iff] at he
    subst he
    exact ⟨.inr, fun h => by rcases h with h | h; rw [h]; exact ha; exact h⟩
  · exact insE_mem
theorem difS_gen : ∀ (ws l : List ByteArray), StrictS l → StrictS (ws.foldl insD l) ∧ ∀ x, x ∈ ws.foldl insD l ↔ x ∈ l ∨ x ∈ ws
  | [], l, h => ⟨h, fun x => by simp⟩
  | a :: ws, l, h => by
    rw [List.foldl_cons]
    obtain ⟨h1, h2⟩ := difS_gen ws (insD l a) (insD_strict h a)
    refine ⟨h1, fun x => ?_⟩
    rw [h2 x, insD_mem, List.mem_cons]
    constructor
    · rintro ((h | h) | h)
      · exact .inr (.inl h)
      · exact .inl h
      · exact .inr (.inr h)
    · rintro (h | h | h)
      · exact .inl (.inr h)
      · exact .inl (.inl h)
      · exact .inr h
theorem difS_strict (ws : List ByteArray) : StrictS (difS ws) := (difS_gen ws [] List.Pairwise.nil).1
theorem difS_mem (ws : List ByteArray) (x : ByteArray) : x ∈ difS ws ↔ x ∈ ws := by
  have := (difS_gen ws [] List.Pairwise.nil).2 x
  simpa [difS] using this
theorem difS_take {ws : List ByteArray} {k : Nat} {a : ByteArray} (h : ws[k]? = some a) : difS (ws.take (k + 1)) = insD (difS (ws.take k)) a := by
  unfold difS; rw [List.take_add_one, h]; simp
theorem insD_len (l : List ByteArray) (t : ByteArray) : (insD l t).length ≤ l.length + 1 := by
  unfold insD
  split
  · omega
  · rw [insE_len]; exact Nat.le_refl _
theorem difS_len (ws : List ByteArray) : (difS ws).length ≤ ws.length := by
  have key : ∀ (ws l : List ByteArray), (ws.foldl insD l).length ≤ l.length + ws.length := by
    intro ws
    induction ws with
    | nil => intro l; simp
    | cons a ws ih => intro l; rw [List.foldl_cons]; have := ih (insD l a); have := insD_len l a; simp; omega
  have := key ws []
  simpa [difS] using this
/-- the runs of a list's words in order -/
theorem runs_dif {ws S : List ByteArray} (hp : S.Perm ws) (hs : SortedS S) : runsS S = (difS ws).map fun w => (w, timesS ws w) := by
  obtain ⟨h1, h2, h3⟩ := runs_sorted hs
  have e : (runsS S).map (·.1) = difS ws := strict_uniq h1 (difS_strict ws) fun x => by
    rw [difS_mem, ← hp.mem_iff]
    exact ⟨fun h => by obtain ⟨p, hp, rfl⟩ := List.mem_map.1 h; exact (h2 p hp).1, fun h => by obtain ⟨n, hn⟩ := h3 x h; exact List.mem_map.2 ⟨_, hn, rfl⟩⟩
  rw [← e, List.map_map]
  have : (runsS S).map ((fun w => (w, timesS ws w)) ∘ (·.1)) = (runsS S).map id := List.map_congr_left fun p hp' => by
    have := (h2 p hp').2
    rw [times_perm hp] at this
    simp only [Function.comp, id]
    rw [← this]
  rw [this, List.map_id]
def maxN (l : List Nat) : Nat := l.foldl max 0
theorem maxN_gen : ∀ (l : List Nat) (m : Nat), m ≤ l.foldl max m ∧ (∀ x ∈ l, x ≤ l.foldl max m) ∧ (l.foldl max m = m ∨ l.foldl max m ∈ l)
  | [], m => ⟨Nat.le_refl _, fun x h => (by cases h), .inl rfl⟩
  | a :: l, m => by
    rw [List.foldl_cons]
    obtain ⟨h1, h2, h3⟩ := maxN_gen l (max m a)
    refine ⟨by omega, fun x hx => ?_, ?_⟩
    · rcases List.mem_cons.1 hx with h | h
      · subst h; omega
      · exact h2 x h
    · rcases h3 with h | h
      · rw [h]
        rcases Nat.le_total m a with h4 | h4
        · right; rw [Nat.max_eq_right h4]; exact List.mem_cons_self
        · left; exact Nat.max_eq_left h4
      · exact .inr (List.mem_cons_of_mem _ h)
theorem maxN_le {l : List Nat} {b : Nat} (h : ∀ x ∈ l, x ≤ b) : maxN l ≤ b := by
  rcases (maxN_gen l 0).2.2 with h1 | h1
  · unfold maxN; omega
  · exact h _ h1
theorem maxN_ge {l : List Nat} {x : Nat} (h : x ∈ l) : x ≤ maxN l := (maxN_gen l 0).2.1 x h
theorem maxN_take {l : List Nat} {k : Nat} {a : Nat} (h : l[k]? = some a) : maxN (l.take (k + 1)) = max (maxN (l.take k)) a := by
  unfold maxN; rw [List.take_add_one, h]; simp
theorem maxN_snoc (l : List Nat) (a : Nat) : maxN (l ++ [a]) = max (maxN l) a := by unfold maxN; simp
def mostS (ws : List ByteArray) : Nat := maxN (ws.map (timesS ws))
theorem most_runs {ws S : List ByteArray} (hp : S.Perm ws) (hs : SortedS S) : maxN ((runsS S).map (·.2)) = mostS ws := by
  rw [runs_dif hp hs, List.map_map]
  unfold mostS
  refine Nat.le_antisymm (maxN_le fun x hx => ?_) (maxN_le fun x hx => ?_)
  · obtain ⟨w, hw, rfl⟩ := List.mem_map.1 hx
    exact maxN_ge (List.mem_map.2 ⟨w, (difS_mem ws w).1 hw, rfl⟩)
  · obtain ⟨w, hw, rfl⟩ := List.mem_map.1 hx
    exact maxN_ge (List.mem_map.2 ⟨w, (difS_mem ws w).2 hw, rfl⟩)
theorem most_le (ws : List ByteArray) : mostS ws ≤ ws.length := maxN_le fun x hx => by
  obtain ⟨w, _, rfl⟩ := List.mem_map.1 hx
  exact times_le ws w
theorem most_ge {ws : List ByteArray} {w : ByteArray} (h : w ∈ ws) : timesS ws w ≤ mostS ws := maxN_ge (List.mem_map.2 ⟨w, h, rfl⟩)
end Go.Proofs.Ythooeaappnkjgaa
