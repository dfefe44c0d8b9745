/- The best hypothesis of each label, in order: by sorting, and by inserting one after the other. Plain lemmas, no program. -/
import Derived.Test.YtnanegdcoegahaaHyValid
import Derived.Test.YtnanegdcoegahaaInsSort
namespace Go.Proofs.Ytnanegdcoegahaa
open Go.Sort

def ltH (a b : DHyp) : Bool := decide (ordH a b < 0)
def smH (a b : DHyp) : Bool := eqS a.label b.label
theorem smH_iff {a b : DHyp} : smH a b = true ↔ a.label.toList = b.label.toList := by unfold smH eqS; exact beq_iff_eq
theorem ltH_spec (a b : DHyp) : ltH a b = if a.cost = b.cost then ltB a.label b.label else decide (a.cost < b.cost) := by
  unfold ltH ordH
  by_cases h : a.cost = b.cost
  · rw [if_pos h, if_neg (by simpa using h)]
    unfold cmpB
    cases h3 : ltB a.label b.label
    · cases h4 : eqS a.label b.label <;> simp
    · simp
  · rw [if_neg h, if_pos h]
    unfold cmpI
    by_cases h4 : a.cost < b.cost
    · simp [h4]
    · have : b.cost < a.cost := by omega
      simp [h4, this]
theorem ltB_ntransH {a b c : ByteArray} (h : ltB a b = false) (k : ltB b c = false) : ltB a c = false := by
  unfold ltB at *; rw [bless_eq] at *; simp at *; exact List.le_trans k h
theorem swoH : SWO ltH where
  irrefl a := by rw [ltH_spec]; simp [ltB_irrefl]
  trans a b c h1 h2 := by
    rw [ltH_spec] at *
    split at h1 <;> split at h2 <;> (try simp only [decide_eq_true_eq] at h1) <;> (try simp only [decide_eq_true_eq] at h2)
    all_goals (first
      | (rw [if_pos (by omega)]; exact ltB_trans h1 h2)
      | (rw [if_neg (by omega)]; simp; omega))
  ntrans a b c h1 h2 := by
    rw [ltH_spec] at *
    split at h1 <;> split at h2 <;> (try simp only [decide_eq_false_iff_not] at h1) <;> (try simp only [decide_eq_false_iff_not] at h2)
    all_goals (first
      | (rw [if_pos (by omega)]; exact ltB_ntransH h1 h2)
      | (rw [if_neg (by omega)]; simp; omega))
theorem ltH_tie {a b : DHyp} (h1 : ltH a b = false) (h2 : ltH b a = false) : a = b := by
  rw [ltH_spec] at *
  by_cases h3 : a.cost = b.cost
  · rw [if_pos h3] at h1
    rw [if_pos h3.symm] at h2
    have h4 := ltB_or h1 h2
    obtain ⟨la, ca⟩ := a
    obtain ⟨lb, cb⟩ := b
    simp only at h3 h4
    subst h3
    have : la = lb := by
      cases la; cases lb
      rw [ByteArray.mk.injEq]
      rw [ByteArray.toList_eq, ByteArray.toList_eq] at h4
      exact Array.toList_inj.1 h4
    rw [this]
  · rw [if_neg h3] at h1
    rw [if_neg (Ne.symm h3)] at h2
    simp at h1 h2; omega
theorem ltH_same {a b : DHyp} (h : smH a b = true) : ltH a b = decide (a.cost < b.cost) := by
  rw [ltH_spec]
  split
  · rename_i h1
    rw [(ltB_congr (smH_iff.1 h)).1, ltB_irrefl]
    simp; omega
  · rfl

theorem best_in {e : DHyp} : ∀ (n : Nat) (l : List DHyp), l.length ≤ n → ∀ z ∈ l, smH z e = true → ∃ b ∈ l, smH b e = true ∧ ∀ y ∈ l, smH y e = true → ltH y b = false := by
  intro n
  induction n with
  | zero =>
    intro l hl z hz
    cases l with
    | nil => cases hz
    | cons a t => simp at hl
  | succ n ih =>
    intro l hl z hz hze
    cases l with
    | nil => cases hz
    | cons a t =>
      by_cases hex : ∃ y ∈ t, smH y e = true
      · obtain ⟨y, hy, hye⟩ := hex
        obtain ⟨b, hb, hbe, hbm⟩ := ih t (by simp at hl; omega) y hy hye
        by_cases hab : smH a e = true ∧ ltH a b = true
        · refine ⟨a, List.mem_cons_self, hab.1, fun y hy hye => ?_⟩
          rcases List.mem_cons.1 hy with rfl | hy
          · exact swoH.irrefl _
          · cases hya : ltH y a with
            | false => rfl
            | true => have h1 := swoH.trans _ _ _ hya hab.2; rw [hbm y hy hye] at h1; cases h1
        · refine ⟨b, List.mem_cons_of_mem _ hb, hbe, fun y hy hye => ?_⟩
          rcases List.mem_cons.1 hy with rfl | hy
          · cases hyb : ltH y b with
            | false => rfl
            | true => exact absurd ⟨hye, hyb⟩ hab
          · exact hbm y hy hye
      · rcases List.mem_cons.1 hz with rfl | hz'
        · refine ⟨z, List.mem_cons_self, hze, fun y hy hye => ?_⟩
          rcases List.mem_cons.1 hy with rfl | hy
          · exact swoH.irrefl _
          · exact absurd ⟨y, hy, hye⟩ hex
        · exact absurd ⟨z, hz', hze⟩ hex
/-- the best of S, in order -/
def IsBest (S L : List DHyp) : Prop := L.Pairwise (fun a b => ltH a b = true) ∧ L.Pairwise (fun a b => smH a b = false) ∧ ∀ x, x ∈ L ↔ x ∈ S ∧ ∀ y ∈ S, smH y x = true → ltH y x = false
theorem isBest_uniq {S L M : List DHyp} (h : IsBest S L) (k : IsBest S M) : L = M := by
  have nd : ∀ {L : List DHyp}, L.Pairwise (fun a b => ltH a b = true) → L.Nodup := by
    intro L hL
    refine hL.imp fun {a b} h e => ?_
    subst e; rw [swoH.irrefl] at h; cases h
  have asy : ∀ {a b : DHyp}, ltH a b = true → ltH b a = false := by
    intro a b h
    cases hb : ltH b a with
    | false => rfl
    | true => have := swoH.trans _ _ _ h hb; rw [swoH.irrefl] at this; cases this
  refine up_unique L M ((List.perm_ext_iff_of_nodup (nd h.1) (nd k.1)).2 fun x => ?_) (h.1.imp asy) (k.1.imp asy) (fun a _ b _ h1 h2 => ltH_tie h1 h2)
  rw [h.2.2, k.2.2]
def stepD (out : List DHyp) (h : DHyp) : List DHyp := if out.any (fun g => smH g h) then out else out ++ [h]
def dedup (l : List DHyp) : List DHyp := l.foldl stepD []
theorem dedup_inv : ∀ (l done out : List DHyp) (_ : (done ++ l).Pairwise (fun a b => ltH b a = false)), IsBest done out → IsBest (done ++ l) (l.foldl stepD out)
  | [], done, out, _, h => by simpa using h
  | e :: l, done, out, hp, h => by
    have hp' : ((done ++ [e]) ++ l).Pairwise (fun a b => ltH b a = false) := by simpa using hp
    have hle : ∀ x ∈ done, ltH e x = false := fun x hx => (List.pairwise_append.1 hp).2.2 x hx e List.mem_cons_self
    have hn : IsBest (done ++ [e]) (stepD out e) := by
      unfold stepD
      cases ha : out.any (fun g => smH g e)
      · -- a new label
        have hno : ∀ x ∈ done, smH x e = false := by
          intro x hx
          cases hs : smH x e with
          | false => rfl
          | true =>
            exfalso
            obtain ⟨b, hb, hbe, hbm⟩ := best_in (e := e) done.length done (Nat.le_refl _) x hx hs
            have hin : b ∈ out := (h.2.2 b).2 ⟨hb, fun y hy hyb => hbm y hy (by rw [smH_iff] at *; rw [hyb, hbe])⟩
            rw [List.any_eq_false] at ha
            exact ha b hin hbe
        simp only [Bool.false_eq_true, if_false]
        have hoe : ∀ x ∈ out, ltH x e = true := by
          intro x hx
          have hxd := ((h.2.2 x).1 hx).1
          cases hl : ltH x e with
          | true => rfl
          | false =>
            have := ltH_tie hl (hle x hxd)
            subst this
            have := hno x hxd
            rw [smH_iff.2 rfl] at this; cases this
        refine ⟨List.pairwise_append.2 ⟨h.1, List.pairwise_singleton _ _, fun a ha b hb => by rw [List.mem_singleton.1 hb]; exact hoe a ha⟩, List.pairwise_append.2 ⟨h.2.1, List.pairwise_singleton _ _, fun a ha b hb => by rw [List.mem_singleton.1 hb]; exact hno a ((h.2.2 a).1 ha).1⟩, fun x => ?_⟩
        constructor
        · intro hx
          rcases List.mem_append.1 hx with hx | hx
          · have h1 := (h.2.2 x).1 hx
            refine ⟨List.mem_append_left _ h1.1, fun y hy hyx => ?_⟩
            rcases List.mem_append.1 hy with hy | hy
            · exact h1.2 y hy hyx
            · rw [List.mem_singleton.1 hy]; exact hle x h1.1
          · rw [List.mem_singleton.1 hx]
            refine ⟨List.mem_append_right _ (List.mem_singleton.2 rfl), fun y hy hyx => ?_⟩
            rcases List.mem_append.1 hy with hy | hy
            · rw [hno y hy] at hyx; cases hyx
            · rw [List.mem_singleton.1 hy]; exact swoH.irrefl _
        · rintro ⟨hx, hm⟩
          rcases List.mem_append.1 hx with hx | hx
          · exact List.mem_append_left _ ((h.2.2 x).2 ⟨hx, fun y hy => hm y (List.mem_append_left _ hy)⟩)
          · exact List.mem_append_right _ hx
      · -- a known label
        simp only [if_true]
        obtain ⟨g, hg, hge⟩ := List.any_eq_true.1 ha
        have hgd := (h.2.2 g).1 hg
        refine ⟨h.1, h.2.1, fun x => ?_⟩
        rw [h.2.2 x]
        constructor
        · rintro ⟨h1, h2⟩
          refine ⟨List.mem_append_left _ h1, fun y hy hyx => ?_⟩
          rcases List.mem_append.1 hy with hy | hy
          · exact h2 y hy hyx
          · rw [List.mem_singleton.1 hy]; exact hle x h1
        · rintro ⟨h1, h2⟩
          rcases List.mem_append.1 h1 with h1 | h1
          · exact ⟨h1, fun y hy => h2 y (List.mem_append_left _ hy)⟩
          · rw [List.mem_singleton.1 h1] at h2 ⊢
            have h3 := h2 g (List.mem_append_left _ hgd.1) hge
            have h4 := ltH_tie h3 (hle g hgd.1)
            rw [← h4]; exact hgd
    have := dedup_inv l (done ++ [e]) (stepD out e) hp' hn
    simpa using this
theorem dedup_best {S l : List DHyp} (hp : l.Perm S) (hu : Up ltH l) : IsBest S (dedup l) := by
  have h := dedup_inv l [] [] (show Up ltH ([] ++ l) by rw [List.nil_append]; exact hu) ⟨List.Pairwise.nil, List.Pairwise.nil, fun x => by simp⟩
  rw [List.nil_append] at h
  exact ⟨h.1, h.2.1, fun x => (h.2.2 x).trans (by rw [hp.mem_iff]; exact and_congr Iff.rfl (forall_congr' fun y => by rw [hp.mem_iff]))⟩
def stepM (m : Nat) (out : List DHyp) (h : DHyp) : List DHyp := if decide (out.length < m) && !out.any (fun g => smH g h) then out ++ [h] else out
theorem fold_take_m (m : Nat) : ∀ (l out : List DHyp), l.foldl (stepM m) (out.take m) = (l.foldl stepD out).take m
  | [], _ => rfl
  | h :: l, out => by
    rw [List.foldl_cons, List.foldl_cons]
    have e : stepM m (out.take m) h = (stepD out h).take m := by
      unfold stepM stepD
      by_cases hl : out.length < m
      · rw [List.take_of_length_le (by omega)]
        simp only [hl, decide_true, Bool.true_and]
        cases ha : out.any (fun g => smH g h)
        · simp only [Bool.not_false, if_true, Bool.false_eq_true, if_false]
          rw [List.take_of_length_le (by simp; omega)]
        · simp only [Bool.not_true, Bool.false_eq_true, if_false, if_true]
          rw [List.take_of_length_le (by omega)]
      · have h1 : ¬ (out.take m).length < m := by rw [List.length_take]; omega
        simp only [h1, decide_false, Bool.false_and, Bool.false_eq_true, if_false]
        split
        · rfl
        · rw [List.take_append_of_le_length (by omega)]
    rw [e, fold_take_m m l]
/-- inserting one, unless there is a better one with its label -/
def insH (out : List DHyp) (h : DHyp) : List DHyp := if out.any (fun g => smH g h && decide (g.cost ≤ h.cost)) then out else insE ltH (out.filter fun g => !smH g h) h
theorem smH_comm (a b : DHyp) : smH a b = smH b a := by
  cases h : smH a b
  · cases k : smH b a
    · rfl
    · rw [smH_iff] at k; rw [smH_iff.2 k.symm] at h; cases h
  · rw [smH_iff] at h; exact (smH_iff.2 h.symm).symm
theorem smH_trans {a b c : DHyp} (h : smH a b = true) (k : smH b c = true) : smH a c = true := smH_iff.2 ((smH_iff.1 h).trans (smH_iff.1 k))
theorem one_label {L : List DHyp} (h : L.Pairwise fun a b => smH a b = false) {x y : DHyp} (hx : x ∈ L) (hy : y ∈ L) (hs : smH x y = true) : x = y := by
  obtain ⟨i, hi, rfl⟩ := List.mem_iff_getElem.1 hx
  obtain ⟨j, hj, rfl⟩ := List.mem_iff_getElem.1 hy
  rcases Nat.lt_trichotomy i j with hl | hl | hl
  · have := List.pairwise_iff_getElem.1 h i j hi hj hl; rw [hs] at this; cases this
  · subst hl; rfl
  · have := List.pairwise_iff_getElem.1 h j i hj hi hl; rw [smH_comm, hs] at this; cases this
theorem strict_of {L : List DHyp} (hu : Up ltH L) (hs : L.Pairwise fun a b => smH a b = false) : L.Pairwise fun a b => ltH a b = true := by
  refine (hu.and hs).imp fun {a b} h => ?_
  cases hl : ltH a b with
  | true => rfl
  | false =>
    have := ltH_tie hl h.1
    subst this
    rw [smH_iff.2 rfl] at h; cases h.2
theorem up_of {L : List DHyp} (h : L.Pairwise fun a b => ltH a b = true) : Up ltH L := h.imp fun {a b} h => by
  cases hb : ltH b a with
  | false => rfl
  | true => have := swoH.trans _ _ _ h hb; rw [swoH.irrefl] at this; cases this
theorem insH_best {S L : List DHyp} {h : DHyp} (hB : IsBest S L) : IsBest (S ++ [h]) (insH L h) := by
  unfold insH
  cases ha : L.any (fun g => smH g h && decide (g.cost ≤ h.cost))
  · simp only [Bool.false_eq_true, if_false]
    have hno : ∀ g ∈ L, smH g h = true → h.cost < g.cost := by
      intro g hg hs
      have := List.any_eq_false.1 ha g hg
      simp [hs] at this; omega
    have hper := insE_perm ltH (L.filter fun g => !smH g h) h
    have hmem : ∀ x, x ∈ insE ltH (L.filter fun g => !smH g h) h ↔ x = h ∨ (x ∈ L ∧ smH x h = false) := by
      intro x
      rw [hper.mem_iff, List.mem_cons, List.mem_filter]
      simp
    have hup : Up ltH (insE ltH (L.filter fun g => !smH g h) h) := insE_up swoH (List.Pairwise.sublist (List.filter_sublist (p := fun g => !smH g h)) (up_of hB.1)) h
    have hdl : (insE ltH (L.filter fun g => !smH g h) h).Pairwise fun a b => smH a b = false := by
      refine (hper.pairwise_iff (fun {a b} hab => by rw [smH_comm]; exact hab)).2 (List.pairwise_cons.2 ⟨fun a ha => ?_, List.Pairwise.sublist (List.filter_sublist (p := fun g => !smH g h)) hB.2.1⟩)
      have := (List.mem_filter.1 ha).2
      rw [smH_comm]; simpa using this
    refine ⟨strict_of hup hdl, hdl, fun x => ?_⟩
    rw [hmem]
    constructor
    · rintro (rfl | ⟨hx, hs⟩)
      · refine ⟨List.mem_append_right _ (List.mem_singleton.2 rfl), fun y hy hyx => ?_⟩
        rcases List.mem_append.1 hy with hy | hy
        · obtain ⟨b, hb, hbe, hbm⟩ := best_in (e := x) S.length S (Nat.le_refl _) y hy hyx
          have hbL : b ∈ L := (hB.2.2 b).2 ⟨hb, fun z hz hzb => hbm z hz (smH_trans hzb hbe)⟩
          have h1 := hno b hbL hbe
          have h2 := hbm y hy hyx
          rw [ltH_same (smH_trans hyx (by rw [smH_comm]; exact hbe))] at h2
          rw [ltH_same hyx]
          simp at h2 ⊢; omega
        · rw [List.mem_singleton.1 hy]; exact swoH.irrefl _
      · have h1 := (hB.2.2 x).1 hx
        refine ⟨List.mem_append_left _ h1.1, fun y hy hyx => ?_⟩
        rcases List.mem_append.1 hy with hy | hy
        · exact h1.2 y hy hyx
        · rw [List.mem_singleton.1 hy, smH_comm, hs] at hyx; cases hyx
    · rintro ⟨hx, hm⟩
      rcases List.mem_append.1 hx with hx | hx
      · have hxL := (hB.2.2 x).2 ⟨hx, fun y hy => hm y (List.mem_append_left _ hy)⟩
        cases hs : smH x h with
        | false => exact .inr ⟨hxL, rfl⟩
        | true =>
          have h1 := hm h (List.mem_append_right _ (List.mem_singleton.2 rfl)) (by rw [smH_comm]; exact hs)
          rw [ltH_same (by rw [smH_comm]; exact hs)] at h1
          have h2 := hno x hxL hs
          simp at h1; omega
      · exact .inl (List.mem_singleton.1 hx)
  · simp only [if_true]
    obtain ⟨g, hg, hge⟩ := List.any_eq_true.1 ha
    simp only [Bool.and_eq_true, decide_eq_true_eq] at hge
    refine ⟨hB.1, hB.2.1, fun x => ?_⟩
    constructor
    · intro hx
      have h1 := (hB.2.2 x).1 hx
      refine ⟨List.mem_append_left _ h1.1, fun y hy hyx => ?_⟩
      rcases List.mem_append.1 hy with hy | hy
      · exact h1.2 y hy hyx
      · rw [List.mem_singleton.1 hy] at hyx ⊢
        have := one_label hB.2.1 hg hx (smH_trans hge.1 hyx)
        subst this
        rw [ltH_same hyx]; simp; omega
    · rintro ⟨hx, hm⟩
      rcases List.mem_append.1 hx with hx | hx
      · exact (hB.2.2 x).2 ⟨hx, fun y hy => hm y (List.mem_append_left _ hy)⟩
      · rw [List.mem_singleton.1 hx] at hm ⊢
        have h1 := hm g (List.mem_append_left _ ((hB.2.2 g).1 hg).1) hge.1
        have h2 : ltH h g = false := by rw [ltH_same (by rw [smH_comm]; exact hge.1)]; simp; omega
        rw [← ltH_tie h1 h2]; exact hg
theorem fold_best : ∀ (b S L : List DHyp), IsBest S L → IsBest (S ++ b) (b.foldl insH L)
  | [], S, L, h => by simpa using h
  | e :: b, S, L, h => by
    have := fold_best b (S ++ [e]) (insH L e) (insH_best h)
    simpa using this
end Go.Proofs.Ytnanegdcoegahaa
