/- An edge added to a lattice: the order of edges, and the reference's calls. -/
import Derived.Test.YthooeaappnkjgaaLtJoin2
import Derived.Test.YthooeaappnkjgaaSortPl
import Derived.Test.YthooeaappnkjgaaInsEdge
import Derived.Test.YthooeaappnkjgaaCmp
import Derived.Test.YthooeaappnkjgaaReg
namespace Go.Proofs.Ythooeaappnkjgaa
open Go.RowKit Go.Sort
attribute [local go_sem ↓] Go.wp_at_zero Go.wp_at_succ

def ltE (a b : DEdge) : Bool := decide (ordE a b < 0)
theorem cmpI_lt (a b : Int) : decide (cmpI a b < 0) = decide (a < b) := by
  unfold cmpI
  by_cases h1 : a < b
  · rw [if_pos h1]; simp [h1]
  · rw [if_neg h1]
    split
    · simp [h1]
    · simp [h1]
theorem cmpB_lt (a b : ByteArray) : decide (cmpB a b < 0) = ltB a b := by
  unfold cmpB
  cases ltB a b
  · cases eqS a b <;> rfl
  · rfl
theorem ltE_spec (a b : DEdge) : ltE a b = if a.frm = b.frm then (if a.to_ = b.to_ then ltB a.label b.label else decide (a.to_ < b.to_)) else decide (a.frm < b.frm) := by
  unfold ltE ordE
  by_cases h1 : a.frm = b.frm
  · rw [if_pos h1, if_neg (by simpa using h1)]
    by_cases h2 : a.to_ = b.to_
    · rw [if_pos h2, if_neg (by simpa using h2), cmpB_lt]
    · rw [if_neg h2, if_pos h2, cmpI_lt]
  · rw [if_neg h1, if_pos h1, cmpI_lt]
theorem ltB_ntransE {a b c : ByteArray} (h : ltB a b = false) (k : ltB b c = false) : ltB a c = false := by
  unfold ltB at *; rw [bless_eq] at *; simp at *; exact List.le_trans k h
theorem swoE : SWO ltE where
  irrefl a := by rw [ltE_spec]; simp [ltB_irrefl]
  trans a b c h1 h2 := by
    rw [ltE_spec] at *
    split at h1 <;> split at h2 <;> (try split at h1) <;> (try split at h2) <;> (try simp only [decide_eq_true_eq] at h1) <;> (try simp only [decide_eq_true_eq] at h2)
    all_goals (first
      | (rw [if_pos (by omega), if_pos (by omega)]; exact ltB_trans h1 h2)
      | (rw [if_pos (by omega), if_neg (by omega)]; simp; omega)
      | (rw [if_neg (by omega)]; simp; omega))
  ntrans a b c h1 h2 := by
    rw [ltE_spec] at *
    split at h1 <;> split at h2 <;> (try split at h1) <;> (try split at h2) <;> (try simp only [decide_eq_false_iff_not] at h1) <;> (try simp only [decide_eq_false_iff_not] at h2)
    all_goals (first
      | (rw [if_pos (by omega), if_pos (by omega)]; exact ltB_ntransE h1 h2)
      | (rw [if_pos (by omega), if_neg (by omega)]; simp; omega)
      | (rw [if_neg (by omega)]; simp; omega))
theorem cmpI_anti (a b : Int) : (0 < cmpI a b) ↔ (cmpI b a < 0) := by
  unfold cmpI
  by_cases h1 : a < b
  · simp [h1, show ¬ b < a by omega]
  · by_cases h2 : b < a
    · simp [h1, h2]
    · simp [h1, h2]
theorem cmpB_anti (a b : ByteArray) : (0 < cmpB a b) ↔ (cmpB b a < 0) := by
  have h1 := cmpB_lt b a
  unfold cmpB at *
  cases hab : ltB a b
  · cases he : eqS a b
    · have : ltB b a = true := by
        cases hba : ltB b a with
        | true => rfl
        | false => have := ltB_or hab hba; unfold eqS at he; rw [this] at he; simp at he
      simp [this]
    · have hl : ltB b a = false := by
        have e2 : a.toList = b.toList := by unfold eqS at he; exact beq_iff_eq.1 he
        rw [(ltB_congr (c := a) e2.symm).1]
        exact ltB_irrefl a
      have hs : eqS b a = true := by unfold eqS at *; rw [beq_iff_eq] at *; exact he.symm
      simp [hl, hs]
  · have hl : ltB b a = false := by
      cases hba : ltB b a with
      | false => rfl
      | true => have := ltB_trans hab hba; rw [ltB_irrefl] at this; cases this
    simp [hl]
    split <;> omega
theorem ordE_anti (a b : DEdge) : (0 < ordE a b) ↔ (ordE b a < 0) := by
  unfold ordE
  by_cases h1 : a.frm = b.frm
  · simp only [h1, ne_eq, not_true_eq_false, if_false]
    by_cases h2 : a.to_ = b.to_
    · simp only [h2, not_true_eq_false, if_false]; exact cmpB_anti _ _
    · rw [if_pos h2, if_pos (Ne.symm h2)]; exact cmpI_anti _ _
  · rw [if_pos h1, if_pos (Ne.symm h1)]; exact cmpI_anti _ _
def hasE (x : List DEdge) (e : DEdge) : Bool := x.any fun a => ordE a e == 0
def addLt (x : XLattice) (e : DEdge) : XLattice := if validLt x && fitE x.1 e && isLabelB e.label && !hasE x.2 e && decide (x.2.length < 200) then (x.1, insE ltE x.2 e) else (0, [])
def addC (x : XLattice) (e : DEdge) : Int := if validLt x then (if fitE x.1 e then (if isLabelB e.label then (if hasE x.2 e then 4 else if 200 ≤ x.2.length then 5 else 0) else 7) else 2) else 1
theorem okAdd {x : XLattice} {e : DEdge} (h : okLattice x) : okLattice (addLt x e) := by
  unfold addLt okLattice at *
  split
  · rename_i h1
    simp only [Bool.and_eq_true, decide_eq_true_eq] at h1
    show (insE ltE x.2 e).length ≤ _
    rw [insE_len]; omega
  · simp
def UpE (x : List DEdge) : Prop := ∀ (i j : Nat) (a b : DEdge), i < j → x[i]? = some a → x[j]? = some b → ltE a b = true
theorem upE_valid {n : Int} {x : List DEdge} (h : validLt (n, x) = true) : UpE x := by
  have h1 : validEd n x = true := by simp [validLt] at h; exact h.2
  have adj : ∀ k a b, x[k]? = some a → x[k + 1]? = some b → ltE a b = true := by
    intro k a b ha hb
    have h2 := validEd_mem h1 hb
    simp [edOk] at h2
    have h3 := h2.2
    simp [ordAtE, ha] at h3
    unfold ltE; simpa using h3
  intro i j
  induction j with
  | zero => intro a b h; omega
  | succ j ih =>
    intro a b hij ha hb
    have hj := (List.getElem?_eq_some_iff.1 hb).1
    obtain ⟨c, hc⟩ : ∃ c, x[j]? = some c := ⟨_, List.getElem?_eq_getElem (by omega)⟩
    by_cases e : i = j
    · subst e; exact adj i a b ha hb
    · exact swoE.trans _ _ _ (ih a c (by omega) ha hc) (adj j c b hc hb)
/-- the place of an edge: what is ahead of it is less, the rest is not -/
def AtE (x : List DEdge) (e : DEdge) (k : Nat) : Prop := k ≤ x.length ∧ (∀ t a, t < k → x[t]? = some a → ltE a e = true) ∧ ∀ t a, k ≤ t → x[t]? = some a → ltE a e = false
theorem atE_has {x : List DEdge} (hu : UpE x) {e : DEdge} {k : Nat} (h : AtE x e k) : hasE x e = match x[k]? with | some a => ordE a e == 0 | none => false := by
  cases hh : hasE x e with
  | false =>
    cases hk : x[k]? with
    | none => rfl
    | some a =>
      have := List.any_eq_false.1 hh a (List.mem_of_getElem? hk)
      show false = (ordE a e == 0)
      cases hc : (ordE a e == 0) with
      | false => rfl
      | true => exact absurd hc this
  | true =>
    obtain ⟨a, ha, hz⟩ := List.any_eq_true.1 hh
    obtain ⟨i, hi⟩ := List.mem_iff_getElem?.1 ha
    have hz' : ordE a e = 0 := by simpa using hz
    have hla : ltE a e = false := by unfold ltE; rw [hz']; rfl
    have hle : ltE e a = false := by
      unfold ltE
      rw [decide_eq_false_iff_not, ← ordE_anti, hz']; omega
    have hki : k ≤ i := by
      rcases Nat.lt_or_ge i k with h1 | h1
      · have := h.2.1 i a h1 hi; rw [hla] at this; cases this
      · exact h1
    obtain ⟨b, hb⟩ : ∃ b, x[k]? = some b := ⟨_, List.getElem?_eq_getElem (by have := (List.getElem?_eq_some_iff.1 hi).1; omega)⟩
    rw [hb]
    by_cases e1 : k = i
    · subst e1; rw [hi] at hb; cases hb; exact hz.symm
    · have h1 := hu k i b a (by omega) hb hi
      have h2 := h.2.2 k b (Nat.le_refl _) hb
      exfalso
      have h3 : ltE b e = true := by
        cases hbe : ltE b e with
        | true => rfl
        | false => have := swoE.ntrans _ _ _ hbe hle; rw [h1] at this; cases this
      rw [h2] at h3; cases h3
theorem atE_ins {x : List DEdge} (_ : UpE x) {e : DEdge} {k : Nat} (h : AtE x e k) (hn : hasE x e = false) : insE ltE x e = insL x k e := by
  have hpos : posE ltE e x x.length = k := by
    generalize hp : posE ltE e x x.length = p
    have hple : p ≤ x.length := by rw [← hp]; exact posE_le _ _ _ _
    have hne : ∀ a ∈ x, ltE a e = false → ltE e a = true := by
      intro a ha h1
      have h2 := List.any_eq_false.1 hn a ha
      unfold ltE at *
      rw [decide_eq_false_iff_not] at h1
      rw [decide_eq_true_eq, ← ordE_anti]
      have : ordE a e ≠ 0 := by simpa using h2
      omega
    rcases Nat.lt_trichotomy p k with h1 | h1 | h1
    · exfalso
      obtain ⟨a, ha⟩ : ∃ a, x[p]? = some a := ⟨_, List.getElem?_eq_getElem (by have := h.1; omega)⟩
      have h2 := h.2.1 p a h1 ha
      have h3 := posE_above ltE e x x.length (Nat.le_refl _) p a (by omega) (by have := h.1; omega) ha
      have := swoE.trans _ _ _ h2 h3
      rw [swoE.irrefl] at this; cases this
    · exact h1
    · exfalso
      obtain ⟨a, ha⟩ : ∃ a, x[p - 1]? = some a := ⟨_, List.getElem?_eq_getElem (by omega)⟩
      have h2 := posE_stop ltE e x x.length (Nat.le_refl _) a (by omega) (by rw [hp]; exact ha)
      have h3 := h.2.2 (p - 1) a (by omega) ha
      rw [hne a (List.mem_of_getElem? ha) h3] at h2; cases h2
  unfold insE insL
  rw [hpos]
set_option maxHeartbeats 2000000 in
theorem searchEd_any (v : Value) (x : List DEdge) (e : DEdge) (w : World) (h : Arr eEdge w v x) (ok : x.length ≤ 1048576) (hu : UpE x) :
    Calls Try.prog 33 #[v, .agg #[.int .i64 e.frm, .int .i64 e.to_, .string e.label, .int .i64 e.cost], .func (.func 34) #[] #[]] w fun en w' => ∃ k, AtE x e k ∧ en = .returned (.tuple #[.int .i64 k, .bool (hasE x e)]) ∧ Below w.heap.size w w' := by
  obtain ⟨b, off, ao, cap, rfl, hnc, hcm, hao, hc⟩ := h
  unfold maxLen at hcm
  have hbx : Below w.heap.size w (w.alloc (.cells #[.int .i64 e.frm, .int .i64 e.to_, .string e.label, .int .i64 e.cost] 35)) := below_alloc _ _
  have z0 : (w.alloc (.cells #[.int .i64 e.frm, .int .i64 e.to_, .string e.label, .int .i64 e.cost] 35)).cell? ⟨w.heap.size, 0, none⟩ = some (.int .i64 e.frm) := by simp
  have z1 : (w.alloc (.cells #[.int .i64 e.frm, .int .i64 e.to_, .string e.label, .int .i64 e.cost] 35)).cell? ⟨w.heap.size, 1, none⟩ = some (.int .i64 e.to_) := by simp
  have z2 : (w.alloc (.cells #[.int .i64 e.frm, .int .i64 e.to_, .string e.label, .int .i64 e.cost] 35)).cell? ⟨w.heap.size, 2, none⟩ = some (.string e.label) := by simp
  have z3 : (w.alloc (.cells #[.int .i64 e.frm, .int .i64 e.to_, .string e.label, .int .i64 e.cost] 35)).cell? ⟨w.heap.size, 3, none⟩ = some (.int .i64 e.cost) := by simp
  obtain ⟨W, hW⟩ : ∃ W, W = w.alloc (.cells #[.int .i64 e.frm, .int .i64 e.to_, .string e.label, .int .i64 e.cost] 35) := ⟨_, rfl⟩
  rw [← hW] at hbx z0 z1 z2 z3
  obtain ⟨p, hp⟩ : ∃ p, p = w.heap.size := ⟨_, rfl⟩
  rw [← hp] at z0 z1 z2 z3
  have HW := hid hW
  have HP := hid hp
  clear hW hp
  go_enter Try.func33, Try.ntmps33
  go_wp2_with fail
  rw [← HW.out, ← HP.out]
  have hpl := cell_lt z0
  go_loopw [9, 10] (fun i j wr => ∃ k l : Nat, i = .int .i64 k ∧ j = .int .i64 l ∧ k ≤ l ∧ l ≤ x.length ∧ Below W.heap.size W wr ∧ Hid ((∀ t a, t < k → x[t]? = some a → ltE a e = true) ∧ ∀ t a, l ≤ t → x[t]? = some a → ltE a e = false)) (fun i j _ => (intOf j).toNat - (intOf i).toNat)
  case atStart => exact ⟨0, x.length, rfl, rfl, Nat.zero_le _, Nat.le_refl _, Below.refl _ _, ⟨fun t e h => by omega, fun t e h1 h2 => by have := (List.getElem?_eq_some_iff.1 h2).1; omega⟩⟩
  case round =>
    obtain ⟨k, l, rfl, rfl, hkl, hln, hb, HI⟩ := hrel
    have y0 := cell_later hb z0
    have y1 := cell_later hb z1
    have y2 := cell_later hb z2
    have y3 := cell_later hb z3
    have hbw2 := hbx.trans (hb.mono hbx.size)
    by_cases hlt : k < l
    · obtain ⟨hao', hbw⟩ := hao (by omega)
      subst hao'
      obtain ⟨a, ha⟩ : ∃ a, x[(k + l) / 2]? = some a := ⟨_, List.getElem?_eq_getElem (by omega)⟩
      obtain ⟨c0, c1, c2, c3⟩ := eEdge_cells (hc.below hbw2 hbw) ha
      have hml : ((k : Int) + (l : Int)) / 2 < (x.length : Int) := by omega
      have hm0 : (0 : Int) ≤ ((k : Int) + (l : Int)) / 2 := by omega
      have HE := hid ha
      have CM := fun w' => compareEdges_any a e w'
      clear ha hao
      cases hq : ltE a e
      · have hcmp : (0 : Int) ≤ ordE a e := by unfold ltE at hq; rw [decide_eq_false_iff_not] at hq; omega
        have hcd : decide (ordE a e < 0) = false := hq
        have HQ := hid hq
        clear hq
        go_wp2
        have x_c0 := ext_cell c0
        have x_c1 := ext_cell c1
        have x_c2 := ext_cell c2
        have x_c3 := ext_cell c3
        have x_y0 := ext_cell y0
        have x_y1 := ext_cell y1
        have x_y2 := ext_cell y2
        have x_y3 := ext_cell y3
        refine wp_region_ext (by kernel_rfl) (by kernel_rfl) ?_
        repeat (go_big_quiet_step ((go_at_call 34; exact ret_ext (CM _))))
        refine wpQuiet_nil ?_
        intro _ hw'
        obtain ⟨nq, hw''⟩ := hw'
        subst hw''
        replace c0 := x_c0 nq
        replace c1 := x_c1 nq
        replace c2 := x_c2 nq
        replace c3 := x_c3 nq
        replace y0 := x_y0 nq
        replace y1 := x_y1 nq
        replace y2 := x_y2 nq
        replace y3 := x_y3 nq
        clear x_c0 x_c1 x_c2 x_c3 x_y0 x_y1 x_y2 x_y3
        replace hb := hb.trans ((ext_below _ nq).mono hb.size)
        go_wp2
        go_roundw
        case rel =>
          refine ⟨k, (k + l) / 2, rfl, by go_num, by omega, by omega, hb, ⟨HI.out.1, fun t b h1 h2 => ?_⟩⟩
          by_cases e1 : t = (k + l) / 2
          · subst e1; rw [HE.out] at h2; obtain rfl := Option.some.inj h2; exact HQ.out
          · have h3 := hu _ _ a b (by omega) HE.out h2
            cases h4 : ltE b e with
            | false => rfl
            | true => have := swoE.trans _ _ _ h3 h4; rw [HQ.out] at this; cases this
        case measure => simp [intOf]; omega
      · have hcmp : ordE a e < 0 := by unfold ltE at hq; simpa using hq
        have HQ := hid hq
        clear hq
        go_wp2
        have x_c0 := ext_cell c0
        have x_c1 := ext_cell c1
        have x_c2 := ext_cell c2
        have x_c3 := ext_cell c3
        have x_y0 := ext_cell y0
        have x_y1 := ext_cell y1
        have x_y2 := ext_cell y2
        have x_y3 := ext_cell y3
        refine wp_region_ext (by kernel_rfl) (by kernel_rfl) ?_
        repeat (go_big_quiet_step ((go_at_call 34; exact ret_ext (CM _))))
        refine wpQuiet_nil ?_
        intro _ hw'
        obtain ⟨nq, hw''⟩ := hw'
        subst hw''
        replace c0 := x_c0 nq
        replace c1 := x_c1 nq
        replace c2 := x_c2 nq
        replace c3 := x_c3 nq
        replace y0 := x_y0 nq
        replace y1 := x_y1 nq
        replace y2 := x_y2 nq
        replace y3 := x_y3 nq
        clear x_c0 x_c1 x_c2 x_c3 x_y0 x_y1 x_y2 x_y3
        replace hb := hb.trans ((ext_below _ nq).mono hb.size)
        go_wp2
        go_roundw
        case rel =>
          refine ⟨(k + l) / 2 + 1, l, by go_num, rfl, by omega, by omega, hb, ⟨fun t b h1 h2 => ?_, HI.out.2⟩⟩
          by_cases e1 : t = (k + l) / 2
          · subst e1; rw [HE.out] at h2; obtain rfl := Option.some.inj h2; exact HQ.out
          · exact swoE.trans _ _ _ (hu _ _ b a (by omega) h2 HE.out) HQ.out
        case measure => simp [intOf]; omega
    · obtain rfl : k = l := by omega
      have hat : AtE x e k := ⟨hln, HI.out.1, HI.out.2⟩
      have HAT := hid hat
      have HV := hid (atE_has hu hat)
      have hkd : ¬ ((k : Int) < (k : Int)) := by omega
      clear hat
      by_cases hkn : k < x.length
      · obtain ⟨hao', hbw⟩ := hao (by omega)
        subst hao'
        obtain ⟨a, ha⟩ : ∃ a, x[k]? = some a := ⟨_, List.getElem?_eq_getElem hkn⟩
        obtain ⟨c0, c1, c2, c3⟩ := eEdge_cells (hc.below hbw2 hbw) ha
        have hki : (k : Int) < (x.length : Int) := by omega
        have CM := fun w' => compareEdges_any a e w'
        have HV' : Hid (hasE x e = (ordE a e == 0)) := hid (by rw [HV.out, ha])
        clear ha hao
        go_wp2
        have x_c0 := ext_cell c0
        have x_c1 := ext_cell c1
        have x_c2 := ext_cell c2
        have x_c3 := ext_cell c3
        have x_y0 := ext_cell y0
        have x_y1 := ext_cell y1
        have x_y2 := ext_cell y2
        have x_y3 := ext_cell y3
        refine wp_region_ext (by kernel_rfl) (by kernel_rfl) ?_
        repeat (go_big_quiet_step ((go_at_call 34; exact ret_ext (CM _))))
        refine wpQuiet_nil ?_
        intro _ hw'
        obtain ⟨nq, hw''⟩ := hw'
        subst hw''
        replace c0 := x_c0 nq
        replace c1 := x_c1 nq
        replace c2 := x_c2 nq
        replace c3 := x_c3 nq
        replace y0 := x_y0 nq
        replace y1 := x_y1 nq
        replace y2 := x_y2 nq
        replace y3 := x_y3 nq
        clear x_c0 x_c1 x_c2 x_c3 x_y0 x_y1 x_y2 x_y3
        replace hb := hb.trans ((ext_below _ nq).mono hb.size)
        go_wp2
        go_ret2
        exact ⟨k, HAT.out, by first | (rw [HV'.out]; done) | (rw [HV'.out]; rfl), hbx.trans (hb.mono hbx.size)⟩
      · have hki : ¬ ((k : Int) < (x.length : Int)) := by omega
        have hkid : decide ((k : Int) < (x.length : Int)) = false := decide_eq_false hki
        have HV' : Hid (hasE x e = false) := hid (by rw [HV.out, List.getElem?_eq_none (by omega)])
        go_wp2
        have x_y0 := ext_cell y0
        have x_y1 := ext_cell y1
        have x_y2 := ext_cell y2
        have x_y3 := ext_cell y3
        refine wp_region_ext (by kernel_rfl) (by kernel_rfl) ?_
        repeat (go_big_quiet_step ((go_at_call 34; fail)))
        refine wpQuiet_nil ?_
        intro _ hw'
        obtain ⟨nq, hw''⟩ := hw'
        subst hw''
        replace y0 := x_y0 nq
        replace y1 := x_y1 nq
        replace y2 := x_y2 nq
        replace y3 := x_y3 nq
        clear x_y0 x_y1 x_y2 x_y3
        replace hb := hb.trans ((ext_below _ nq).mono hb.size)
        go_wp2
        go_ret2
        exact ⟨k, HAT.out, by first | (rw [HV'.out]; done) | (rw [HV'.out]; rfl), hbx.trans (hb.mono hbx.size)⟩
theorem arrA_take {α : Type} {E : Enc α} {w : World} {ao : Option Addr} {n m c : Nat} {xs : List α} (h : Arr E w (.slice ao n c) xs) (hm : m ≤ n) : Arr E w (.slice ao m c) (xs.take m) := by
  obtain ⟨b, off, ao', cap, hv, h1, h2, h3, h4⟩ := h
  simp only [Value.slice.injEq] at hv
  obtain ⟨rfl, rfl, rfl⟩ := hv
  have hl : (xs.take m).length = m := by rw [List.length_take]; omega
  refine ⟨b, off, ao, c, by rw [hl], by omega, h2, fun h0 => h3 (by omega), fun k x hx j u hu => ?_⟩
  have hk : k < m := by have := (List.getElem?_eq_some_iff.1 hx).1; omega
  rw [List.getElem?_take_of_lt hk] at hx
  exact h4 k x hx j u hu
end Go.Proofs.Ythooeaappnkjgaa
