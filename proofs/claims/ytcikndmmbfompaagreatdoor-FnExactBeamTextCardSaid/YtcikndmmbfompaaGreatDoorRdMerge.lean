/- Readings: their order, the first ones of a list, and what is kept at the nodes of a lattice. Plain lemmas, no program. -/
import Derived.Test.YtcikndmmbfompaaGreatDoorFlReading
import Derived.Test.YtcikndmmbfompaaGreatDoorFwPlain
namespace Go.Proofs.YtcikndmmbfompaaGreatDoor
open Go.Sort

def ordR (a b : DReading) : Int := orL [cmpI a.cost b.cost, cmpI a.text.size b.text.size, cmpB a.text b.text]
def ltR (a b : DReading) : Bool := decide (ordR a b < 0)
def smR (a b : DReading) : Bool := eqS a.text b.text
theorem smR_iff {a b : DReading} : smR a b = true ↔ a.text.toList = b.text.toList := by unfold smR eqS; exact beq_iff_eq
theorem ltR_bef (a b : DReading) : ltR a b = befR a.cost a.text b.cost b.text := by
  unfold ltR ordR befR
  by_cases h1 : a.cost = b.cost
  · rw [if_pos h1, h1, cmpI_self, orL0]
    by_cases h2 : a.text.size = b.text.size
    · rw [if_pos h2, h2, cmpI_self, orL0, orL1, cmpB_dec]
    · rw [if_neg h2, orLn (cmpI_ne (by omega)), cmpI_dec (by omega)]
      by_cases h3 : a.text.size < b.text.size
      · simp [h3]
      · simp [h3]
  · rw [if_neg h1, orLn (cmpI_ne h1), cmpI_dec h1]
theorem swoR : SWO ltR where
  irrefl a := by rw [ltR_bef]; simp [befR, ltB_irrefl]
  trans a b c h1 h2 := by
    rw [ltR_bef] at *
    unfold befR at *
    split at h1 <;> split at h2 <;> (try split at h1) <;> (try split at h2) <;> (try simp only [decide_eq_true_eq] at h1) <;> (try simp only [decide_eq_true_eq] at h2)
    all_goals (first
      | (rw [if_pos (by omega), if_pos (by omega)]; exact ltB_trans h1 h2)
      | (rw [if_pos (by omega), if_neg (by omega)]; simp; omega)
      | (rw [if_neg (by omega)]; simp; omega))
  ntrans a b c h1 h2 := by
    rw [ltR_bef] at *
    unfold befR at *
    split at h1 <;> split at h2 <;> (try split at h1) <;> (try split at h2) <;> (try simp only [decide_eq_false_iff_not] at h1) <;> (try simp only [decide_eq_false_iff_not] at h2)
    all_goals (first
      | (rw [if_pos (by omega), if_pos (by omega)]; exact ltB_ntrans h1 h2)
      | (rw [if_pos (by omega), if_neg (by omega)]; simp; omega)
      | (rw [if_neg (by omega)]; simp; omega))
theorem bytes_ext {a b : ByteArray} (h : a.toList = b.toList) : a = b := by
  cases a; cases b
  rw [ByteArray.mk.injEq]
  rw [ByteArray.toList_eq, ByteArray.toList_eq] at h
  exact Array.toList_inj.1 h
theorem ltR_tie {a b : DReading} (h1 : ltR a b = false) (h2 : ltR b a = false) : a = b := by
  rw [ltR_bef] at *
  unfold befR at *
  by_cases h3 : a.cost = b.cost
  · rw [if_pos h3] at h1
    rw [if_pos h3.symm] at h2
    by_cases h4 : a.text.size = b.text.size
    · rw [if_pos h4] at h1
      rw [if_pos h4.symm] at h2
      have h5 := bytes_ext (ltB_or h1 h2)
      obtain ⟨ta, ca⟩ := a
      obtain ⟨tb, cb⟩ := b
      simp only at h3 h5
      rw [h3, h5]
    · rw [if_neg h4] at h1
      rw [if_neg (Ne.symm h4)] at h2
      simp at h1 h2; omega
  · rw [if_neg h3] at h1
    rw [if_neg (Ne.symm h3)] at h2
    simp at h1 h2; omega
end Go.Proofs.YtcikndmmbfompaaGreatDoor
namespace Go.Proofs.YtcikndmmbfompaaGreatDoor
open Go.Sort

theorem ltR_same {a b : DReading} (h : smR a b = true) : ltR a b = decide (a.cost < b.cost) := by
  rw [ltR_bef]
  unfold befR
  split
  · have h1 := smR_iff.1 h
    rw [if_pos (by rw [bytes_ext h1])]
    rw [(ltB_congr h1).1, ltB_irrefl]
    simp; omega
  · rfl
theorem best_in {e : DReading} : ∀ (n : Nat) (l : List DReading), l.length ≤ n → ∀ z ∈ l, smR z e = true → ∃ b ∈ l, smR b e = true ∧ ∀ y ∈ l, smR y e = true → ltR y b = false := by
  intro n
  induction n with
  | zero =>
    intro l hl z hz
    cases l with
    | nil => cases hz
    | cons a t => simp at hl
  | succ n ih =>
    intro l hl z hz hze
    cases l with
    | nil => cases hz
    | cons a t =>
      by_cases hex : ∃ y ∈ t, smR y e = true
      · obtain ⟨y, hy, hye⟩ := hex
        obtain ⟨b, hb, hbe, hbm⟩ := ih t (by simp at hl; omega) y hy hye
        by_cases hab : smR a e = true ∧ ltR a b = true
        · refine ⟨a, List.mem_cons_self, hab.1, fun y hy hye => ?_⟩
          rcases List.mem_cons.1 hy with rfl | hy
          · exact swoR.irrefl _
          · cases hya : ltR y a with
            | false => rfl
            | true => have h1 := swoR.trans _ _ _ hya hab.2; rw [hbm y hy hye] at h1; cases h1
        · refine ⟨b, List.mem_cons_of_mem _ hb, hbe, fun y hy hye => ?_⟩
          rcases List.mem_cons.1 hy with rfl | hy
          · cases hyb : ltR y b with
            | false => rfl
            | true => exact absurd ⟨hye, hyb⟩ hab
          · exact hbm y hy hye
      · rcases List.mem_cons.1 hz with rfl | hz'
        · refine ⟨z, List.mem_cons_self, hze, fun y hy hye => ?_⟩
          rcases List.mem_cons.1 hy with rfl | hy
          · exact swoR.irrefl _
          · exact absurd ⟨y, hy, hye⟩ hex
        · exact absurd ⟨z, hz', hze⟩ hex
/-- the best of S, in order -/
def IsBest (S L : List DReading) : Prop := L.Pairwise (fun a b => ltR a b = true) ∧ L.Pairwise (fun a b => smR a b = false) ∧ ∀ x, x ∈ L ↔ x ∈ S ∧ ∀ y ∈ S, smR y x = true → ltR y x = false
theorem isBest_uniq {S L M : List DReading} (h : IsBest S L) (k : IsBest S M) : L = M := by
  have nd : ∀ {L : List DReading}, L.Pairwise (fun a b => ltR a b = true) → L.Nodup := by
    intro L hL
    refine hL.imp fun {a b} h e => ?_
    subst e; rw [swoR.irrefl] at h; cases h
  have asy : ∀ {a b : DReading}, ltR a b = true → ltR b a = false := by
    intro a b h
    cases hb : ltR b a with
    | false => rfl
    | true => have := swoR.trans _ _ _ h hb; rw [swoR.irrefl] at this; cases this
  refine up_unique L M ((List.perm_ext_iff_of_nodup (nd h.1) (nd k.1)).2 fun x => ?_) (h.1.imp asy) (k.1.imp asy) (fun a _ b _ h1 h2 => ltR_tie h1 h2)
  rw [h.2.2, k.2.2]
def stepD (out : List DReading) (h : DReading) : List DReading := if out.any (fun g => smR g h) then out else out ++ [h]
def dedup (l : List DReading) : List DReading := l.foldl stepD []
theorem dedup_inv : ∀ (l done out : List DReading) (_ : (done ++ l).Pairwise (fun a b => ltR b a = false)), IsBest done out → IsBest (done ++ l) (l.foldl stepD out)
  | [], done, out, _, h => by simpa using h
  | e :: l, done, out, hp, h => by
    have hp' : ((done ++ [e]) ++ l).Pairwise (fun a b => ltR b a = false) := by simpa using hp
    have hle : ∀ x ∈ done, ltR e x = false := fun x hx => (List.pairwise_append.1 hp).2.2 x hx e List.mem_cons_self
    have hn : IsBest (done ++ [e]) (stepD out e) := by
      unfold stepD
      cases ha : out.any (fun g => smR g e)
      · -- a new label
        have hno : ∀ x ∈ done, smR x e = false := by
          intro x hx
          cases hs : smR x e with
          | false => rfl
          | true =>
            exfalso
            obtain ⟨b, hb, hbe, hbm⟩ := best_in (e := e) done.length done (Nat.le_refl _) x hx hs
            have hin : b ∈ out := (h.2.2 b).2 ⟨hb, fun y hy hyb => hbm y hy (by rw [smR_iff] at *; rw [hyb, hbe])⟩
            rw [List.any_eq_false] at ha
            exact ha b hin hbe
        simp only [Bool.false_eq_true, if_false]
        have hoe : ∀ x ∈ out, ltR x e = true := by
          intro x hx
          have hxd := ((h.2.2 x).1 hx).1
          cases hl : ltR x e with
          | true => rfl
          | false =>
            have := ltR_tie hl (hle x hxd)
            subst this
            have := hno x hxd
            rw [smR_iff.2 rfl] at this; cases this
        refine ⟨List.pairwise_append.2 ⟨h.1, List.pairwise_singleton _ _, fun a ha b hb => by rw [List.mem_singleton.1 hb]; exact hoe a ha⟩, List.pairwise_append.2 ⟨h.2.1, List.pairwise_singleton _ _, fun a ha b hb => by rw [List.mem_singleton.1 hb]; exact hno a ((h.2.2 a).1 ha).1⟩, fun x => ?_⟩
        constructor
        · intro hx
          rcases List.mem_append.1 hx with hx | hx
          · have h1 := (h.2.2 x).1 hx
            refine ⟨List.mem_append_left _ h1.1, fun y hy hyx => ?_⟩
            rcases List.mem_append.1 hy with hy | hy
            · exact h1.2 y hy hyx
            · rw [List.mem_singleton.1 hy]; exact hle x h1.1
          · rw [List.mem_singleton.1 hx]
            refine ⟨List.mem_append_right _ (List.mem_singleton.2 rfl), fun y hy hyx => ?_⟩
            rcases List.mem_append.1 hy with hy | hy
            · rw [hno y hy] at hyx; cases hyx
            · rw [List.mem_singleton.1 hy]; exact swoR.irrefl _
        · rintro ⟨hx, hm⟩
          rcases List.mem_append.1 hx with hx | hx
          · exact List.mem_append_left _ ((h.2.2 x).2 ⟨hx, fun y hy => hm y (List.mem_append_left _ hy)⟩)
          · exact List.mem_append_right _ hx
      · -- a known label
        simp only [if_true]
        obtain ⟨g, hg, hge⟩ := List.any_eq_true.1 ha
        have hgd := (h.2.2 g).1 hg
        refine ⟨h.1, h.2.1, fun x => ?_⟩
        rw [h.2.2 x]
        constructor
        · rintro ⟨h1, h2⟩
          refine ⟨List.mem_append_left _ h1, fun y hy hyx => ?_⟩
          rcases List.mem_append.1 hy with hy | hy
          · exact h2 y hy hyx
          · rw [List.mem_singleton.1 hy]; exact hle x h1
        · rintro ⟨h1, h2⟩
          rcases List.mem_append.1 h1 with h1 | h1
          · exact ⟨h1, fun y hy => h2 y (List.mem_append_left _ hy)⟩
          · rw [List.mem_singleton.1 h1] at h2 ⊢
            have h3 := h2 g (List.mem_append_left _ hgd.1) hge
            have h4 := ltR_tie h3 (hle g hgd.1)
            rw [← h4]; exact hgd
    have := dedup_inv l (done ++ [e]) (stepD out e) hp' hn
    simpa using this
theorem dedup_best {S l : List DReading} (hp : l.Perm S) (hu : Up ltR l) : IsBest S (dedup l) := by
  have h := dedup_inv l [] [] (show Up ltR ([] ++ l) by rw [List.nil_append]; exact hu) ⟨List.Pairwise.nil, List.Pairwise.nil, fun x => by simp⟩
  rw [List.nil_append] at h
  exact ⟨h.1, h.2.1, fun x => (h.2.2 x).trans (by rw [hp.mem_iff]; exact and_congr Iff.rfl (forall_congr' fun y => by rw [hp.mem_iff]))⟩
def stepM (m : Nat) (out : List DReading) (h : DReading) : List DReading := if decide (out.length < m) && !out.any (fun g => smR g h) then out ++ [h] else out
theorem fold_take_m (m : Nat) : ∀ (l out : List DReading), l.foldl (stepM m) (out.take m) = (l.foldl stepD out).take m
  | [], _ => rfl
  | h :: l, out => by
    rw [List.foldl_cons, List.foldl_cons]
    have e : stepM m (out.take m) h = (stepD out h).take m := by
      unfold stepM stepD
      by_cases hl : out.length < m
      · rw [List.take_of_length_le (by omega)]
        simp only [hl, decide_true, Bool.true_and]
        cases ha : out.any (fun g => smR g h)
        · simp only [Bool.not_false, if_true, Bool.false_eq_true, if_false]
          rw [List.take_of_length_le (by simp; omega)]
        · simp only [Bool.not_true, Bool.false_eq_true, if_false, if_true]
          rw [List.take_of_length_le (by omega)]
      · have h1 : ¬ (out.take m).length < m := by rw [List.length_take]; omega
        simp only [h1, decide_false, Bool.false_and, Bool.false_eq_true, if_false]
        split
        · rfl
        · rw [List.take_append_of_le_length (by omega)]
    rw [e, fold_take_m m l]
/-- inserting one, unless there is a better one with its label -/
def insR (out : List DReading) (h : DReading) : List DReading := if out.any (fun g => smR g h && decide (g.cost ≤ h.cost)) then out else insE ltR (out.filter fun g => !smR g h) h
theorem smR_comm (a b : DReading) : smR a b = smR b a := by
  cases h : smR a b
  · cases k : smR b a
    · rfl
    · rw [smR_iff] at k; rw [smR_iff.2 k.symm] at h; cases h
  · rw [smR_iff] at h; exact (smR_iff.2 h.symm).symm
theorem smR_trans {a b c : DReading} (h : smR a b = true) (k : smR b c = true) : smR a c = true := smR_iff.2 ((smR_iff.1 h).trans (smR_iff.1 k))
theorem one_label {L : List DReading} (h : L.Pairwise fun a b => smR a b = false) {x y : DReading} (hx : x ∈ L) (hy : y ∈ L) (hs : smR x y = true) : x = y := by
  obtain ⟨i, hi, rfl⟩ := List.mem_iff_getElem.1 hx
  obtain ⟨j, hj, rfl⟩ := List.mem_iff_getElem.1 hy
  rcases Nat.lt_trichotomy i j with hl | hl | hl
  · have := List.pairwise_iff_getElem.1 h i j hi hj hl; rw [hs] at this; cases this
  · subst hl; rfl
  · have := List.pairwise_iff_getElem.1 h j i hj hi hl; rw [smR_comm, hs] at this; cases this
theorem strict_of {L : List DReading} (hu : Up ltR L) (hs : L.Pairwise fun a b => smR a b = false) : L.Pairwise fun a b => ltR a b = true := by
  refine (hu.and hs).imp fun {a b} h => ?_
  cases hl : ltR a b with
  | true => rfl
  | false =>
    have := ltR_tie hl h.1
    subst this
    rw [smR_iff.2 rfl] at h; cases h.2
theorem up_of {L : List DReading} (h : L.Pairwise fun a b => ltR a b = true) : Up ltR L := h.imp fun {a b} h => by
  cases hb : ltR b a with
  | false => rfl
  | true => have := swoR.trans _ _ _ h hb; rw [swoR.irrefl] at this; cases this
theorem insR_best {S L : List DReading} {h : DReading} (hB : IsBest S L) : IsBest (S ++ [h]) (insR L h) := by
  unfold insR
  cases ha : L.any (fun g => smR g h && decide (g.cost ≤ h.cost))
  · simp only [Bool.false_eq_true, if_false]
    have hno : ∀ g ∈ L, smR g h = true → h.cost < g.cost := by
      intro g hg hs
      have := List.any_eq_false.1 ha g hg
      simp [hs] at this; omega
    have hper := insE_perm ltR (L.filter fun g => !smR g h) h
    have hmem : ∀ x, x ∈ insE ltR (L.filter fun g => !smR g h) h ↔ x = h ∨ (x ∈ L ∧ smR x h = false) := by
      intro x
      rw [hper.mem_iff, List.mem_cons, List.mem_filter]
      simp
    have hup : Up ltR (insE ltR (L.filter fun g => !smR g h) h) := insE_up swoR (List.Pairwise.sublist (List.filter_sublist (p := fun g => !smR g h)) (up_of hB.1)) h
    have hdl : (insE ltR (L.filter fun g => !smR g h) h).Pairwise fun a b => smR a b = false := by
      refine (hper.pairwise_iff (fun {a b} hab => by rw [smR_comm]; exact hab)).2 (List.pairwise_cons.2 ⟨fun a ha => ?_, List.Pairwise.sublist (List.filter_sublist (p := fun g => !smR g h)) hB.2.1⟩)
      have := (List.mem_filter.1 ha).2
      rw [smR_comm]; simpa using this
    refine ⟨strict_of hup hdl, hdl, fun x => ?_⟩
    rw [hmem]
    constructor
    · rintro (rfl | ⟨hx, hs⟩)
      · refine ⟨List.mem_append_right _ (List.mem_singleton.2 rfl), fun y hy hyx => ?_⟩
        rcases List.mem_append.1 hy with hy | hy
        · obtain ⟨b, hb, hbe, hbm⟩ := best_in (e := x) S.length S (Nat.le_refl _) y hy hyx
          have hbL : b ∈ L := (hB.2.2 b).2 ⟨hb, fun z hz hzb => hbm z hz (smR_trans hzb hbe)⟩
          have h1 := hno b hbL hbe
          have h2 := hbm y hy hyx
          rw [ltR_same (smR_trans hyx (by rw [smR_comm]; exact hbe))] at h2
          rw [ltR_same hyx]
          simp at h2 ⊢; omega
        · rw [List.mem_singleton.1 hy]; exact swoR.irrefl _
      · have h1 := (hB.2.2 x).1 hx
        refine ⟨List.mem_append_left _ h1.1, fun y hy hyx => ?_⟩
        rcases List.mem_append.1 hy with hy | hy
        · exact h1.2 y hy hyx
        · rw [List.mem_singleton.1 hy, smR_comm, hs] at hyx; cases hyx
    · rintro ⟨hx, hm⟩
      rcases List.mem_append.1 hx with hx | hx
      · have hxL := (hB.2.2 x).2 ⟨hx, fun y hy => hm y (List.mem_append_left _ hy)⟩
        cases hs : smR x h with
        | false => exact .inr ⟨hxL, rfl⟩
        | true =>
          have h1 := hm h (List.mem_append_right _ (List.mem_singleton.2 rfl)) (by rw [smR_comm]; exact hs)
          rw [ltR_same (by rw [smR_comm]; exact hs)] at h1
          have h2 := hno x hxL hs
          simp at h1; omega
      · exact .inl (List.mem_singleton.1 hx)
  · simp only [if_true]
    obtain ⟨g, hg, hge⟩ := List.any_eq_true.1 ha
    simp only [Bool.and_eq_true, decide_eq_true_eq] at hge
    refine ⟨hB.1, hB.2.1, fun x => ?_⟩
    constructor
    · intro hx
      have h1 := (hB.2.2 x).1 hx
      refine ⟨List.mem_append_left _ h1.1, fun y hy hyx => ?_⟩
      rcases List.mem_append.1 hy with hy | hy
      · exact h1.2 y hy hyx
      · rw [List.mem_singleton.1 hy] at hyx ⊢
        have := one_label hB.2.1 hg hx (smR_trans hge.1 hyx)
        subst this
        rw [ltR_same hyx]; simp; omega
    · rintro ⟨hx, hm⟩
      rcases List.mem_append.1 hx with hx | hx
      · exact (hB.2.2 x).2 ⟨hx, fun y hy => hm y (List.mem_append_left _ hy)⟩
      · rw [List.mem_singleton.1 hx] at hm ⊢
        have h1 := hm g (List.mem_append_left _ ((hB.2.2 g).1 hg).1) hge.1
        have h2 : ltR h g = false := by rw [ltR_same (by rw [smR_comm]; exact hge.1)]; simp; omega
        rw [← ltR_tie h1 h2]; exact hg
theorem fold_best : ∀ (b S L : List DReading), IsBest S L → IsBest (S ++ b) (b.foldl insR L)
  | [], S, L, h => by simpa using h
  | e :: b, S, L, h => by
    have := fold_best b (S ++ [e]) (insR L e) (insR_best h)
    simpa using this
theorem asyR {a b : DReading} (h : ltR a b = true) : ltR b a = false := by
  cases hb : ltR b a with
  | false => rfl
  | true => have := swoR.trans _ _ _ h hb; rw [swoR.irrefl] at this; cases this
theorem insE_last {L : List DReading} (hu : Up ltR L) {r : DReading} (h : ∀ a ∈ L, ltR r a = false) : insE ltR L r = L ++ [r] :=
  up_unique _ _ ((insE_perm ltR L r).trans (List.perm_append_singleton r L).symm) (insE_up swoR hu r) (List.pairwise_append.2 ⟨hu, List.pairwise_singleton _ _, fun a ha b hb => by rw [List.mem_singleton.1 hb]; exact h a ha⟩) fun _ _ _ _ h1 h2 => ltR_tie h1 h2
theorem insE_front {A : List DReading} {b r : DReading} (hu : Up ltR (A ++ [b])) (h : ltR r b = true) : insE ltR (A ++ [b]) r = insE ltR A r ++ [b] := by
  have hA := (List.pairwise_append.1 hu)
  have hp := insE_perm ltR A r
  refine up_unique _ _ ((insE_perm ltR (A ++ [b]) r).trans (by rw [← List.cons_append]; exact (List.Perm.append_right [b] hp).symm)) (insE_up swoR hu r) (List.pairwise_append.2 ⟨insE_up swoR hA.1 r, List.pairwise_singleton _ _, fun a ha c hc => ?_⟩) fun _ _ _ _ h1 h2 => ltR_tie h1 h2
  rw [List.mem_singleton.1 hc]
  rcases List.mem_cons.1 (hp.subset ha) with rfl | h1
  · exact asyR h
  · exact hA.2.2 a h1 b (List.mem_singleton.2 rfl)
theorem insE_take {A B : List DReading} (hu : Up ltR (A ++ B)) (r : DReading) : (insE ltR (A ++ B) r).take A.length = (insE ltR A r).take A.length := by
  have key : ∀ n, n ≤ B.length → (insE ltR (A ++ B.take n) r).take A.length = (insE ltR A r).take A.length := by
    intro n
    induction n with
    | zero => intro _; simp
    | succ n ih =>
      intro hn
      obtain ⟨b, hb⟩ : ∃ b, B[n]? = some b := ⟨_, List.getElem?_eq_getElem (by omega)⟩
      have e : A ++ B.take (n + 1) = (A ++ B.take n) ++ [b] := by rw [List.take_add_one, hb]; simp
      have hu2 : Up ltR (A ++ B.take (n + 1)) := by
        have : (A ++ B.take (n + 1)).Sublist (A ++ B) := List.Sublist.append (List.Sublist.refl A) (List.take_sublist _ _)
        exact List.Pairwise.sublist this hu
      rw [e] at hu2 ⊢
      cases hl : ltR r b with
      | true => rw [insE_front hu2 hl, List.take_append_of_le_length (by rw [insE_len, List.length_append]; omega)]; exact ih (by omega)
      | false =>
        have hall : ∀ a ∈ A ++ B.take n ++ [b], ltR r a = false := by
          intro a ha
          rcases List.mem_append.1 ha with h1 | h1
          · exact swoR.ntrans _ _ _ hl ((List.pairwise_append.1 hu2).2.2 a h1 b (List.mem_singleton.2 rfl))
          · rw [List.mem_singleton.1 h1]; exact hl
        have huA : Up ltR A := List.Pairwise.sublist (by rw [List.append_assoc]; exact List.sublist_append_left _ _) hu2
        rw [insE_last hu2 hall, insE_last huA (fun a ha => hall a (by simp [ha]))]
        simp
  have := key B.length (Nat.le_refl _)
  rwa [List.take_length] at this
/-- inserting one, but at most m stay -/
def insK (m : Nat) (out : List DReading) (h : DReading) : List DReading := if out.any (fun g => smR g h && decide (g.cost ≤ h.cost)) then out else (insE ltR (out.filter fun g => !smR g h) h).take m
theorem filter_sm_id {L : List DReading} {h : DReading} (hno : ∀ g ∈ L, smR g h = false) : (L.filter fun g => !smR g h) = L := by
  rw [List.filter_eq_self]; intro a ha; rw [hno a ha]; rfl
theorem insK_take {S L : List DReading} (hB : IsBest S L) (m : Nat) (h : DReading) : insK m (L.take m) h = (insR L h).take m := by
  obtain ⟨A, hA⟩ : ∃ A, A = L.take m := ⟨_, rfl⟩
  obtain ⟨B, hBd⟩ : ∃ B, B = L.drop m := ⟨_, rfl⟩
  have hL : L = A ++ B := by rw [hA, hBd]; exact (List.take_append_drop m L).symm
  rw [← hA]
  have huL : Up ltR (A ++ B) := hL ▸ up_of hB.1
  have hsL : (A ++ B).Pairwise fun a b => ltR a b = true := hL ▸ hB.1
  have hdL : (A ++ B).Pairwise fun a b => smR a b = false := hL ▸ hB.2.1
  have hAm : B ≠ [] → A.length = m := by
    intro hne
    have : B.length ≠ 0 := by simpa using hne
    rw [hBd, List.length_drop] at this
    rw [hA, List.length_take]; omega
  have hAle : A.length ≤ m := by rw [hA, List.length_take]; omega
  have huA : Up ltR A := List.Pairwise.sublist (List.sublist_append_left _ _) huL
  rw [hL]
  unfold insK insR
  cases ha : A.any (fun g => smR g h && decide (g.cost ≤ h.cost)) with
  | true =>
    rw [List.any_append, ha, Bool.true_or, if_pos rfl, if_pos rfl]
    by_cases hne : B = []
    · subst hne; rw [List.append_nil, List.take_of_length_le hAle]
    · rw [List.take_left' (hAm hne)]
  | false =>
    rw [List.any_append, ha, Bool.false_or]
    simp only [Bool.false_eq_true, if_false]
    have hnoA : ∀ g ∈ A, smR g h = true → h.cost < g.cost := by
      intro g hg hs
      have := List.any_eq_false.1 ha g hg
      simp [hs] at this; omega
    cases hb : B.any (fun g => smR g h && decide (g.cost ≤ h.cost)) with
    | true =>
      obtain ⟨g, hg, hge⟩ := List.any_eq_true.1 hb
      simp only [Bool.and_eq_true, decide_eq_true_eq] at hge
      have hne : B ≠ [] := by intro e; rw [e] at hg; cases hg
      have hns : ∀ a ∈ A, smR a h = false := by
        intro a haA
        cases hs : smR a h with
        | false => rfl
        | true =>
          have h1 := (List.pairwise_append.1 hdL).2.2 a haA g hg
          rw [smR_trans hs (by rw [smR_comm]; exact hge.1)] at h1; cases h1
      have hle : ∀ a ∈ A, ltR h a = false := by
        intro a haA
        have h1 := asyR ((List.pairwise_append.1 hsL).2.2 a haA g hg)
        have h2 : ltR h g = false := by rw [ltR_same (by rw [smR_comm]; exact hge.1)]; simp; omega
        exact swoR.ntrans _ _ _ h2 h1
      rw [if_pos rfl, filter_sm_id hns, insE_last huA hle, List.take_left' (hAm hne), List.take_left' (hAm hne)]
    | false =>
      simp only [Bool.false_eq_true, if_false]
      rw [List.filter_append]
      by_cases hne : B = []
      · subst hne; rw [List.filter_nil, List.append_nil]
      · have hm := hAm hne
        by_cases hex : ∃ g ∈ A, smR g h = true
        · obtain ⟨g, hg, hgs⟩ := hex
          have hnoB : ∀ b ∈ B, smR b h = false := by
            intro b hbB
            cases hs : smR b h with
            | false => rfl
            | true =>
              have h1 := (List.pairwise_append.1 hdL).2.2 g hg b hbB
              rw [smR_trans hgs (by rw [smR_comm]; exact hs)] at h1; cases h1
          rw [filter_sm_id hnoB]
          have hhg : ltR h g = true := by rw [ltR_same (by rw [smR_comm]; exact hgs)]; simpa using hnoA g hg hgs
          obtain ⟨b, B', rfl⟩ : ∃ b B', B = b :: B' := by
            cases B with
            | nil => exact absurd rfl hne
            | cons b B' => exact ⟨b, B', rfl⟩
          have hhb : ltR h b = true := swoR.trans _ _ _ hhg ((List.pairwise_append.1 hsL).2.2 g hg b List.mem_cons_self)
          obtain ⟨F, hF⟩ : ∃ F, F = A.filter fun g => !smR g h := ⟨_, rfl⟩
          have hcnt : F.length + 1 = m := by
            obtain ⟨i, hi, hig⟩ := List.mem_iff_getElem.1 hg
            have hsp : A = A.take i ++ g :: A.drop (i + 1) := by rw [← hig, List.getElem_cons_drop, List.take_append_drop]
            have hdA : A.Pairwise fun a b => smR a b = false := (List.pairwise_append.1 hdL).1
            have hrest : ∀ a, a ∈ A.take i ∨ a ∈ A.drop (i + 1) → smR a h = false := by
              intro a ha'
              cases hs : smR a h with
              | false => rfl
              | true =>
                exfalso
                have hsg : smR a g = true := smR_trans hs (by rw [smR_comm]; exact hgs)
                rw [hsp] at hdA
                rcases ha' with h1 | h1
                · have := (List.pairwise_append.1 hdA).2.2 a h1 g List.mem_cons_self
                  rw [hsg] at this; cases this
                · have := (List.pairwise_cons.1 (List.pairwise_append.1 hdA).2.1).1 a h1
                  rw [smR_comm, hsg] at this; cases this
            have e1 : F = A.take i ++ A.drop (i + 1) := by
              rw [hF]
              conv => lhs; rw [hsp]
              rw [List.filter_append, List.filter_cons_of_neg (by rw [hgs]; simp), filter_sm_id (fun a h1 => hrest a (.inl h1)), filter_sm_id (fun a h1 => hrest a (.inr h1))]
            rw [e1, List.length_append, List.length_take, List.length_drop]; omega
          rw [← hF]
          have huF : Up ltR (F ++ [b] ++ B') := by
            refine List.Pairwise.sublist ?_ huL
            rw [List.append_assoc]
            exact List.Sublist.append (by rw [hF]; exact List.filter_sublist) (List.Sublist.refl _)
          have e2 : F ++ b :: B' = (F ++ [b]) ++ B' := by simp
          rw [e2]
          have h3 := insE_take huF h
          have hl3 : (F ++ [b]).length = m := by simp; exact hcnt
          rw [hl3] at h3
          have huFb : Up ltR (F ++ [b]) := List.Pairwise.sublist (List.sublist_append_left _ _) huF
          rw [h3, insE_front huFb hhb, List.take_append_of_le_length (by rw [insE_len]; omega)]
        · have hns : ∀ a ∈ A, smR a h = false := by
            intro a haA
            cases hs : smR a h with
            | false => rfl
            | true => exact absurd ⟨a, haA, hs⟩ hex
          rw [filter_sm_id hns]
          have huF : Up ltR (A ++ B.filter fun g => !smR g h) := List.Pairwise.sublist (List.Sublist.append (List.Sublist.refl _) List.filter_sublist) huL
          have h3 := insE_take huF h
          rw [hm] at h3
          exact h3.symm
/-- the first m readings of a list -/
def topR (m : Nat) (S : List DReading) : List DReading := S.foldl (insK m) []
theorem isBest_nil : IsBest [] [] := ⟨List.Pairwise.nil, List.Pairwise.nil, fun x => by simp⟩
theorem topR_take_gen (m : Nat) : ∀ (l S L : List DReading), IsBest S L → l.foldl (insK m) (L.take m) = (l.foldl insR L).take m
  | [], _, _, _ => rfl
  | h :: l, S, L, hB => by
    rw [List.foldl_cons, List.foldl_cons, insK_take hB, topR_take_gen m l (S ++ [h]) (insR L h) (insR_best hB)]
theorem topR_take (m : Nat) (S : List DReading) : topR m S = (S.foldl insR []).take m := by
  have := topR_take_gen m S [] [] isBest_nil
  rwa [List.take_nil] at this
theorem top_eq {S Y : List DReading} (m : Nat) (hp : Y.Perm S) (hu : Up ltR Y) : (dedup Y).take m = topR m S := by
  rw [topR_take]
  congr 1
  have h := fold_best S [] [] isBest_nil
  rw [List.nil_append] at h
  exact isBest_uniq (dedup_best hp hu) h
theorem topR_best (S : List DReading) : IsBest S (S.foldl insR []) := by
  have h := fold_best S [] [] isBest_nil
  rwa [List.nil_append] at h
theorem topR_len (m : Nat) (S : List DReading) : (topR m S).length ≤ m := by rw [topR_take, List.length_take]; omega
theorem topR_mem {m : Nat} {S : List DReading} {x : DReading} (h : x ∈ topR m S) : x ∈ S := by
  rw [topR_take] at h
  exact (((topR_best S).2.2 x).1 (List.mem_of_mem_take h)).1
theorem topR_texts (m : Nat) (S : List DReading) : (topR m S).Pairwise fun a b => smR a b = false := by
  rw [topR_take]
  exact List.Pairwise.sublist (List.take_sublist _ _) (topR_best S).2.1
end Go.Proofs.YtcikndmmbfompaaGreatDoor
namespace Go.Proofs.YtcikndmmbfompaaGreatDoor

def extR (r : DReading) (e : DEdge) : DReading := ⟨r.text ++ e.label, IntKind.i64.wrap (r.cost + e.cost)⟩
/-- what an edge makes of the readings at its start -/
def extsR (beg : ByteArray → Bool) (e : DEdge) (L : List DReading) : List DReading := (L.map fun r => extR r e).filter fun r => beg r.text
abbrev SR := Nat → List DReading
def startR (I : List DReading) : SR := fun v => if v = 0 then I else []
def pushR (m : Nat) (beg : ByteArray → Bool) (st : SR) (e : DEdge) : SR := fun v => if v = to e then (extsR beg e (st (fr e))).foldl (insK m) (st v) else st v
def statesR (m : Nat) (beg : ByteArray → Bool) (I : List DReading) (x : List DEdge) : SR := x.foldl (pushR m beg) (startR I)
/-- the readings that arrive at a node -/
def inR (beg : ByteArray → Bool) (x : List DEdge) (D : SR) (v : Nat) : List DReading := (x.filter fun e => decide (to e = v)).flatMap fun e => extsR beg e (D (fr e))

theorem push_fix (m : Nat) (beg : ByteArray → Bool) : ∀ (x : List DEdge) (D : SR), (x.Pairwise fun a b => fr a ≤ fr b) → (∀ e ∈ x, fr e < to e) → ∀ v, (x.foldl (pushR m beg) D) v = (inR beg x (x.foldl (pushR m beg) D) v).foldl (insK m) (D v)
  | [], D, _, _, v => rfl
  | e :: x, D, hr, hl, v => by
    have hr' := List.pairwise_cons.1 hr
    have hle := hl e List.mem_cons_self
    have ih := push_fix m beg x (pushR m beg D e) hr'.2 (fun a ha => hl a (List.mem_cons_of_mem _ ha))
    rw [List.foldl_cons]
    obtain ⟨F, hF⟩ : ∃ F, F = x.foldl (pushR m beg) (pushR m beg D e) := ⟨_, rfl⟩
    rw [← hF] at ih ⊢
    have hfix : F (fr e) = D (fr e) := by
      rw [ih (fr e)]
      have h0 : x.filter (fun a => decide (to a = fr e)) = [] := by
        rw [List.filter_eq_nil_iff]
        intro a ha
        have h1 := hr'.1 a ha
        have h2 := hl a (List.mem_cons_of_mem _ ha)
        simp; omega
      unfold inR
      rw [h0]
      show pushR m beg D e (fr e) = _
      unfold pushR
      rw [if_neg (by omega)]
    rw [ih v]
    unfold inR
    by_cases hv : to e = v
    · rw [List.filter_cons_of_pos (by simpa using hv), List.flatMap_cons, List.foldl_append, hfix]
      congr 1
      unfold pushR
      rw [if_pos hv.symm]
    · rw [List.filter_cons_of_neg (by simpa using hv)]
      congr 1
      unfold pushR
      rw [if_neg (fun h => hv h.symm)]
theorem inR_zero {n : Nat} {x : List DEdge} (hg : Good n x) (beg : ByteArray → Bool) (D : SR) : inR beg x D 0 = [] := by
  unfold inR
  have : x.filter (fun e => decide (to e = 0)) = [] := by
    rw [List.filter_eq_nil_iff]
    intro a ha
    have := hg.lt ha
    simp; omega
  rw [this]; rfl
theorem states_zero {n : Nat} {x : List DEdge} (hg : Good n x) (hr : Rises x) (m : Nat) (beg : ByteArray → Bool) (I : List DReading) : statesR m beg I x 0 = I := by
  unfold statesR
  rw [push_fix m beg x _ hr (fun e he => (hg.lt he).1) 0, inR_zero hg]; rfl
theorem states_pos {n : Nat} {x : List DEdge} (hg : Good n x) (hr : Rises x) (m : Nat) (beg : ByteArray → Bool) (I : List DReading) {v : Nat} (hv : 0 < v) : statesR m beg I x v = topR m (inR beg x (statesR m beg I x) v) := by
  unfold statesR
  rw [push_fix m beg x _ hr (fun e he => (hg.lt he).1) v]
  have : startR I v = [] := by unfold startR; rw [if_neg (by omega)]
  rw [this]; rfl
theorem inR_congr (beg : ByteArray → Bool) {x : List DEdge} (hl : ∀ e ∈ x, fr e < to e) {D D' : SR} {v : Nat} (h : ∀ u, u < v → D u = D' u) : inR beg x D v = inR beg x D' v := by
  unfold inR
  have key : ∀ (l : List DEdge), (∀ e ∈ l, fr e < v) → (l.flatMap fun e => extsR beg e (D (fr e))) = l.flatMap fun e => extsR beg e (D' (fr e)) := by
    intro l
    induction l with
    | nil => intro _; rfl
    | cons a l ih =>
      intro hx
      rw [List.flatMap_cons, List.flatMap_cons, h _ (hx a List.mem_cons_self), ih fun e he => hx e (List.mem_cons_of_mem _ he)]
  refine key _ fun e he => ?_
  obtain ⟨h1, h2⟩ := List.mem_filter.1 he
  have := hl e h1
  simp at h2; omega
/-- node by node: what arrives is gathered, and the first m are kept -/
def pullR (m : Nat) (beg : ByteArray → Bool) (I : List DReading) (x : List DEdge) : Nat → SR
  | 0 => startR I
  | k + 1 => fun v => if v = k + 1 then topR m (inR beg x (pullR m beg I x k) (k + 1)) else pullR m beg I x k v
theorem pull_eq {n : Nat} {x : List DEdge} (hg : Good n x) (hr : Rises x) (m : Nat) (beg : ByteArray → Bool) (I : List DReading) : ∀ k v, v ≤ k → pullR m beg I x k v = statesR m beg I x v
  | 0, v, hv => by
    obtain rfl : v = 0 := by omega
    rw [states_zero hg hr]; rfl
  | k + 1, v, hv => by
    have ih := pull_eq hg hr m beg I k
    show (if v = k + 1 then _ else _) = _
    by_cases h : v = k + 1
    · rw [if_pos h, h, states_pos hg hr m beg I (Nat.succ_pos _)]
      congr 1
      exact inR_congr beg (fun e he => (hg.lt he).1) fun u hu => ih u (by omega)
    · rw [if_neg h]; exact ih v (by omega)
/-- what arrives is laid down, and put in order by G when the node is reached -/
def setR (st : SR) (n : Nat) (L : List DReading) : SR := fun v => if v = n then L else st v
def layR (beg : ByteArray → Bool) (st : SR) (e : DEdge) : SR := setR st (to e) (st (to e) ++ extsR beg e (st (fr e)))
def nodeR (G : List DReading → List DReading) (beg : ByteArray → Bool) (x : List DEdge) (st : SR) (n : Nat) : SR := x.foldl (fun s e => if decide (fr e = n) = true then layR beg s e else s) (setR st n (G (st n)))
def rawR (G : List DReading → List DReading) (beg : ByteArray → Bool) (I : List DReading) (x : List DEdge) (k : Nat) : SR := (List.range k).foldl (nodeR G beg x) (startR I)
theorem rawR_succ (G : List DReading → List DReading) (beg : ByteArray → Bool) (I : List DReading) (x : List DEdge) (k : Nat) : rawR G beg I x (k + 1) = nodeR G beg x (rawR G beg I x k) k := by
  unfold rawR; rw [List.range_succ]; simp
theorem lay_row (beg : ByteArray → Bool) (n : Nat) : ∀ (l : List DEdge) (st : SR), (∀ e ∈ l, fr e = n ∧ n < to e) → ∀ v, (l.foldl (layR beg) st) v = st v ++ (l.filter fun e => decide (to e = v)).flatMap fun e => extsR beg e (st n)
  | [], st, _, v => by simp
  | e :: l, st, h, v => by
    have he := h e List.mem_cons_self
    rw [List.foldl_cons, lay_row beg n l _ (fun a ha => h a (List.mem_cons_of_mem _ ha)) v]
    have hn : layR beg st e n = st n := by unfold layR setR; rw [if_neg (by omega)]
    rw [hn]
    by_cases hv : to e = v
    · rw [List.filter_cons_of_pos (by simpa using hv), List.flatMap_cons, ← List.append_assoc]
      congr 1
      unfold layR setR
      rw [if_pos hv.symm, hv, he.1]
    · rw [List.filter_cons_of_neg (by simpa using hv)]
      congr 1
      unfold layR setR
      rw [if_neg (fun h => hv h.symm)]
theorem raw_eq {N : Nat} {x : List DEdge} (hg : Good N x) (hr : Rises x) (G : List DReading → List DReading) (beg : ByteArray → Bool) (I : List DReading) (D : SR) (h0 : D 0 = I) (hI : G I = I) (hD : ∀ v, 0 < v → v < N → D v = G (inR beg x D v)) :
    ∀ k, k ≤ N → (∀ v, v < k → rawR G beg I x k v = D v) ∧ ∀ v, k ≤ v → rawR G beg I x k v = startR I v ++ ((x.filter fun e => decide (fr e < k)).filter fun e => decide (to e = v)).flatMap fun e => extsR beg e (D (fr e))
  | 0, _ => by
    refine ⟨fun v hv => by omega, fun v _ => ?_⟩
    have : x.filter (fun e => decide (fr e < 0)) = [] := by rw [List.filter_eq_nil_iff]; simp
    rw [this]; simp [rawR]
  | k + 1, hk => by
    obtain ⟨ih1, ih2⟩ := raw_eq hg hr G beg I D h0 hI hD k (by omega)
    have hGk : G (rawR G beg I x k k) = D k := by
      rw [ih2 k (Nat.le_refl _)]
      by_cases hk0 : k = 0
      · subst hk0
        have : x.filter (fun e => decide (fr e < 0)) = [] := by rw [List.filter_eq_nil_iff]; simp
        rw [this, h0]; simp [startR, hI]
      · rw [hD k (by omega) (by omega)]
        congr 1
        have hs : startR I k = [] := by unfold startR; rw [if_neg hk0]
        rw [hs, List.nil_append]
        unfold inR
        congr 1
        rw [List.filter_filter]
        refine List.filter_congr fun e he => ?_
        have := hg.lt he
        by_cases h : to e = k
        · simp [h]; omega
        · simp [h]
    rw [rawR_succ]
    unfold nodeR
    rw [hGk, foldl_guard]
    have hrow : ∀ v, ((x.filter fun e => decide (fr e = k)).foldl (layR beg) (setR (rawR G beg I x k) k (D k))) v = setR (rawR G beg I x k) k (D k) v ++ ((x.filter fun e => decide (fr e = k)).filter fun e => decide (to e = v)).flatMap fun e => extsR beg e (D k) := by
      intro v
      rw [lay_row beg k _ _ (fun e he => ?_) v]
      · congr 2
        funext e
        unfold setR; rw [if_pos rfl]
      · obtain ⟨h1, h2⟩ := List.mem_filter.1 he
        have := hg.lt h1
        simp at h2
        exact ⟨h2, by omega⟩
    refine ⟨fun v hv => ?_, fun v hv => ?_⟩
    · rw [hrow v]
      have hn : (x.filter fun e => decide (fr e = k)).filter (fun e => decide (to e = v)) = [] := by
        rw [List.filter_filter, List.filter_eq_nil_iff]
        intro e he
        have := hg.lt he
        simp; omega
      rw [hn]
      simp only [List.flatMap_nil, List.append_nil]
      unfold setR
      by_cases h : v = k
      · rw [if_pos h, h]
      · rw [if_neg h]; exact ih1 v (by omega)
    · rw [hrow v]
      have e1 : setR (rawR G beg I x k) k (D k) v = rawR G beg I x k v := by unfold setR; rw [if_neg (by omega)]
      rw [e1, ih2 v (by omega), List.append_assoc]
      congr 1
      rw [← rows_step fr k x hr, List.filter_append, List.flatMap_append]
      congr 1
      have key : ∀ (l : List DEdge), (∀ e ∈ l, fr e = k) → (l.flatMap fun e => extsR beg e (D k)) = l.flatMap fun e => extsR beg e (D (fr e)) := by
        intro l
        induction l with
        | nil => intro _; rfl
        | cons a l ih => intro h; rw [List.flatMap_cons, List.flatMap_cons, h a List.mem_cons_self, ih fun e he => h e (List.mem_cons_of_mem _ he)]
      refine key _ fun e he => ?_
      have := (List.mem_filter.1 (List.mem_filter.1 he).1).2
      simpa using this
/-- in a run over the nodes, over all edges of a node: over all edges -/
theorem states_rows {n : Nat} {x : List DEdge} (hg : Good n x) (hr : Rises x) (m : Nat) (beg : ByteArray → Bool) (I : List DReading) :
    (List.range n).foldl (fun a k => x.foldl (fun a e => if decide (fr e = k) = true then pushR m beg a e else a) a) (startR I) = statesR m beg I x :=
  foldl_rows fr (pushR m beg) hr (fun e he => by have := hg.lt he; omega) (startR I)
/-- a text has no more letters than its node's number -/
def okTx (st : SR) : Prop := ∀ v r, r ∈ st v → r.text.size ≤ v
theorem extsR_mem {beg : ByteArray → Bool} {e : DEdge} {L : List DReading} {r : DReading} (h : r ∈ extsR beg e L) : ∃ q ∈ L, r = extR q e ∧ beg r.text = true := by
  obtain ⟨h1, h2⟩ := List.mem_filter.1 h
  obtain ⟨q, hq, rfl⟩ := List.mem_map.1 h1
  exact ⟨q, hq, rfl, h2⟩
theorem insK_mem {m : Nat} {L : List DReading} {h r : DReading} (hr : r ∈ insK m L h) : r = h ∨ r ∈ L := by
  unfold insK at hr
  split at hr
  · exact .inr hr
  · have h1 := (insE_perm ltR (L.filter fun g => !smR g h) h).subset (List.mem_of_mem_take hr)
    rcases List.mem_cons.1 h1 with h2 | h2
    · exact .inl h2
    · exact .inr (List.mem_filter.1 h2).1
theorem foldK_mem {m : Nat} : ∀ (S L : List DReading) {r : DReading}, r ∈ S.foldl (insK m) L → r ∈ S ∨ r ∈ L
  | [], _, _, h => .inr h
  | a :: S, L, r, h => by
    rcases foldK_mem S _ h with h1 | h1
    · exact .inl (List.mem_cons_of_mem _ h1)
    · rcases insK_mem h1 with h2 | h2
      · exact .inl (by rw [h2]; exact List.mem_cons_self)
      · exact .inr h2
end Go.Proofs.YtcikndmmbfompaaGreatDoor
