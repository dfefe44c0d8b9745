/- What good hypotheses are, and the calls that tell it. -/
import Derived.Test.YtlnoelbeaolikaaGreatWrHypS
import Derived.Test.YtlnoelbeaolikaaGreatStr
import Derived.Test.YtlnoelbeaolikaaGreatCmp
import Derived.Deep.RegionHeld3
import Derived.Test.YtlnoelbeaolikaaGreatBase
import Derived.Sort.Statements
import Derived.Test.YtlnoelbeaolikaaGreatApp
import Derived.Shelf.SlSortCmp.NoneTotal
import Derived.Test.YtlnoelbeaolikaaGreatHfMat
import Derived.IntWalk
import Derived.Deep.AppendLies
import Derived.Deep.DrawnRows
namespace Go.Proofs.YtlnoelbeaolikaaGreat
open Go.RowKit

def ordH (a b : DHyp) : Int := if a.cost ≠ b.cost then cmpI a.cost b.cost else cmpB a.label b.label
theorem ordH_or (a b : DHyp) : orL [cmpI a.cost b.cost, cmpB a.label b.label] = ordH a b := by
  unfold ordH
  by_cases h1 : a.cost = b.cost
  · rw [if_neg (by simpa using h1), h1, orL, if_pos (cmpI_self _), orL]
    split
    · rename_i h; rw [h]; rfl
    · rfl
  · rw [if_pos h1, orL, if_neg (cmpI_ne h1)]
def ordAtH (x : List DHyp) (k : Nat) (e : DHyp) : Bool := match k, x[k-1]? with
  | 0, _ => true
  | _, none => true
  | _, some p => decide (ordH p e < 0)
def newAt (x : List DHyp) (k : Nat) (e : DHyp) : Bool := (x.take k).all fun g => !eqS g.label e.label
def hyOk (x : List DHyp) (k : Nat) (e : DHyp) : Bool := isLabelB e.label && inB e.cost 0 1000000 && ordAtH x k e && newAt x k e
def allHy (x : List DHyp) : Bool := (List.range x.length).all (fun k => match x[k]? with | some e => hyOk x k e | none => true)
def validHy (x : List DHyp) : Bool := allHy x && decide (x.length ≤ 8)
theorem allHy_at {x : List DHyp} {k : Nat} {e : DHyp} (h : x[k]? = some e) (hb : hyOk x k e = false) : validHy x = false := by
  rw [validHy, Bool.and_eq_false_iff]
  exact .inl (List.all_eq_false.2 ⟨k, by simp; exact (List.getElem?_eq_some_iff.1 h).1, by rw [h]; simp [hb]⟩)
theorem allHy_all {x : List DHyp} (h : ∀ k e, k < x.length → x[k]? = some e → hyOk x k e = true) : validHy x = decide (x.length ≤ 8) := by
  have : allHy x = true := by
    rw [allHy, List.all_eq_true]
    intro k hk
    have hk : k < x.length := by simpa using hk
    cases hx : x[k]? with
    | none => rfl
    | some e => exact h k e hk hx
  rw [validHy, this, Bool.true_and]
theorem newAt_hit {x : List DHyp} {k j : Nat} {e g : DHyp} (hj : j < k) (hg : x[j]? = some g) (h : eqS g.label e.label = true) : newAt x k e = false := by
  rw [newAt, List.all_eq_false]
  refine ⟨g, ?_, by simp [h]⟩
  refine List.mem_of_getElem? (i := j) ?_
  rw [List.getElem?_take, if_pos hj]; exact hg
theorem newAt_none {x : List DHyp} {k : Nat} {e : DHyp} (h : ∀ j g, j < k → x[j]? = some g → eqS g.label e.label = false) : newAt x k e = true := by
  rw [newAt, List.all_eq_true]
  intro g hg
  obtain ⟨j, hj⟩ := List.mem_iff_getElem?.1 hg
  rw [List.getElem?_take] at hj
  split at hj
  · rename_i hjk; simp [h j g hjk hj]
  · cases hj
theorem ordH_zero {a b : DHyp} (h : ordH a b = 0) : eqS a.label b.label = true := by
  unfold ordH at h
  split at h
  · rename_i hn; exact absurd h (cmpI_ne hn)
  · unfold cmpB at h
    split at h
    · omega
    · split at h
      · assumption
      · omega
theorem goodHy {x : XHypS} (g : goodHypS x) {k : Nat} {e : DHyp} (h : x[k]? = some e) : e.label.size ≤ 9223372036854775807 := (g e (List.mem_of_getElem? h)).1

set_option maxHeartbeats 1000000 in
theorem l13Before_any (a b : DHyp) (w : World) :
    Calls Tryz.prog 97 #[.agg #[.string a.label, .int .i64 a.cost], .agg #[.string b.label, .int .i64 b.cost]] w (Ret (.bool (decide (ordH a b < 0))) w) := by
  have hb0 : Below w.heap.size w ((w.alloc (.cells #[.string a.label, .int .i64 a.cost] 76)).alloc (.cells #[.string b.label, .int .i64 b.cost] 76)) := (below_alloc _ _).trans ((below_alloc _ _).mono (by simp))
  by_cases h1 : a.cost < b.cost
  · have HV : Hid (decide (ordH a b < 0) = true) := by show _ = true; simp [ordH, cmpI, h1]; omega
    have g1 : decide (a.cost < b.cost) = true := by simpa using h1
    go_enter Tryz.func97, Tryz.ntmps97
    go_wp2
    go_ret
    exact ret_bool HV.out.symm hb0
  have g1 : decide (a.cost < b.cost) = false := by simpa using h1
  by_cases h2 : a.cost = b.cost
  · have g2 : (a.cost == b.cost) = true := by rw [beq_iff_eq]; exact h2
    have HV : Hid (decide (ordH a b < 0) = ltB a.label b.label) := by
      show _ = _
      rw [ordH, if_neg (by simpa using h2)]
      unfold cmpB
      cases ltB a.label b.label <;> simp
      split <;> omega
    clear h2 h1
    cases h3 : Op.bytesLess a.label.toList b.label.toList
    all_goals
      go_enter Tryz.func97, Tryz.ntmps97
      go_wp2
      go_ret
      exact ret_bool (by rw [HV.out]; exact h3.symm) hb0
  · have g2 : (a.cost == b.cost) = false := by rw [beq_eq_false_iff_ne]; exact h2
    have HV : Hid (decide (ordH a b < 0) = false) := by
      show _ = false
      rw [ordH, if_pos h2, decide_eq_false_iff_not]
      unfold cmpI
      rw [if_neg h1]
      split <;> omega
    clear h2 h1
    go_enter Tryz.func97, Tryz.ntmps97
    go_wp2
    go_ret
    exact ret_bool HV.out.symm hb0
set_option maxHeartbeats 2000000 in
theorem compareHyps_any (a b : DHyp) (w : World) :
    Calls Tryz.prog 111 #[.agg #[.string a.label, .int .i64 a.cost], .agg #[.string b.label, .int .i64 b.cost]] w (Ret (.int .i64 (ordH a b)) w) := by
  rw [← ordH_or]
  go_enter Tryz.func111, Tryz.ntmps111
  go_wp2
  obtain ⟨w1, hw1⟩ : ∃ w1, w1 = ((w.alloc (.cells #[.string a.label, .int .i64 a.cost] 76)).alloc (.cells #[.string b.label, .int .i64 b.cost] 76)) := ⟨_, rfl⟩
  have hb1 : Below w.heap.size w w1 := by rw [hw1]; exact (below_alloc _ _).trans ((below_alloc _ _).mono (by simp))
  have c0 : w1.cell? ⟨w.heap.size, 0, none⟩ = some (.string a.label) := by rw [hw1]; simp
  have c1 : w1.cell? ⟨w.heap.size, 1, none⟩ = some (.int .i64 a.cost) := by rw [hw1]; simp
  have d0 : w1.cell? ⟨w.heap.size + 1, 0, none⟩ = some (.string b.label) := by rw [hw1]; simp
  have d1 : w1.cell? ⟨w.heap.size + 1, 1, none⟩ = some (.int .i64 b.cost) := by rw [hw1]; simp
  rw [← hw1]
  clear hw1
  generalize w.heap.size = n0 at c0 c1 d0 d1 ⊢
  go_region_held3 (fun w' => w'.cell? ⟨n0, 0, none⟩ = some (.string a.label) ∧ w'.cell? ⟨n0, 1, none⟩ = some (.int .i64 a.cost) ∧ w'.cell? ⟨n0 + 1, 0, none⟩ = some (.string b.label) ∧ w'.cell? ⟨n0 + 1, 1, none⟩ = some (.int .i64 b.cost)) (go_keep)
    (first | (go_at_call 85; refine (cmpInt_any _ _ _).mono ?_; rintro e w' ⟨rfl, rfl⟩) | (go_at_call 86; refine (cmpStr_any _ _ _).mono ?_; rintro e w' ⟨rfl, rfl⟩) | (go_at_call 84; refine (cmpOr_any _ [cmpI a.cost b.cost, cmpB a.label b.label] _ (Arr.drew (arr_new _ _ rfl rfl (maxLen_ge (Nat.le_of_ble_eq_true rfl))))).mono ?_; rintro e w' ⟨rfl, rfl⟩))
  go_wp2
  go_ret
  exact ret_int rfl (hb1.alloc hb1.size _).drew
theorem before_is {a b : DHyp} {c : Bool} (h : decide (ordH a b < 0) = c) (w : World) : Calls Tryz.prog 97 #[.agg #[.string a.label, .int .i64 a.cost], .agg #[.string b.label, .int .i64 b.cost]] w (Ret (.bool c) w) := by
  subst h; exact l13Before_any _ _ _
end Go.Proofs.YtlnoelbeaolikaaGreat
namespace Go.Proofs.YtlnoelbeaolikaaGreat
open Go.Sort

/-- where an element belongs, looked for from the place k down -/
def posE {α : Type} (lt : α → α → Bool) (f : α) (out : List α) : Nat → Nat
  | 0 => 0
  | k + 1 => match out[k]? with
    | some a => if lt f a then posE lt f out k else k + 1
    | none => k + 1
def insE {α : Type} (lt : α → α → Bool) (out : List α) (f : α) : List α := out.take (posE lt f out out.length) ++ f :: out.drop (posE lt f out out.length)
theorem posE_le {α : Type} (lt : α → α → Bool) (f : α) (out : List α) : ∀ k, posE lt f out k ≤ k
  | 0 => Nat.le_refl _
  | k + 1 => by
    unfold posE
    split
    · split
      · have := posE_le lt f out k; omega
      · exact Nat.le_refl _
    · exact Nat.le_refl _
theorem posE_above {α : Type} (lt : α → α → Bool) (f : α) (out : List α) : ∀ k, k ≤ out.length → ∀ i a, posE lt f out k ≤ i → i < k → out[i]? = some a → lt f a = true
  | 0, _, i, a, _, h, _ => by omega
  | k + 1, hk, i, a, h1, h2, ha => by
    unfold posE at h1
    obtain ⟨b, hb⟩ : ∃ b, out[k]? = some b := ⟨_, List.getElem?_eq_getElem (by omega)⟩
    simp only [hb] at h1
    by_cases hl : lt f b = true
    · rw [if_pos hl] at h1
      by_cases e : i = k
      · subst e; rw [hb] at ha; cases ha; exact hl
      · exact posE_above lt f out k (by omega) i a h1 (by omega) ha
    · rw [if_neg hl] at h1; omega
theorem posE_stop {α : Type} (lt : α → α → Bool) (f : α) (out : List α) : ∀ k, k ≤ out.length → ∀ a, 0 < posE lt f out k → out[posE lt f out k - 1]? = some a → lt f a = false
  | 0, _, a, h, _ => by simp [posE] at h
  | k + 1, hk, a, h, ha => by
    obtain ⟨b, hb⟩ : ∃ b, out[k]? = some b := ⟨_, List.getElem?_eq_getElem (by omega)⟩
    by_cases hl : lt f b = true
    · have e : posE lt f out (k + 1) = posE lt f out k := by rw [posE]; simp only [hb]; rw [if_pos hl]
      rw [e] at h ha
      exact posE_stop lt f out k (by omega) a h ha
    · have e : posE lt f out (k + 1) = k + 1 := by rw [posE]; simp only [hb]; rw [if_neg hl]
      rw [e, Nat.add_sub_cancel, hb] at ha
      cases ha
      simpa using hl
/-- no later one is less than an earlier one -/
def Up {α : Type} (lt : α → α → Bool) (l : List α) : Prop := l.Pairwise fun a b => lt b a = false
theorem insE_perm {α : Type} (lt : α → α → Bool) (out : List α) (f : α) : (insE lt out f).Perm (f :: out) := by
  unfold insE
  refine List.perm_middle.trans (List.Perm.cons f ?_)
  rw [List.take_append_drop]
theorem insE_len {α : Type} (lt : α → α → Bool) (out : List α) (f : α) : (insE lt out f).length = out.length + 1 := by
  rw [(insE_perm lt out f).length_eq]; rfl
theorem insE_up {α : Type} {lt : α → α → Bool} (hO : SWO lt) {out : List α} (h : Up lt out) (f : α) : Up lt (insE lt out f) := by
  unfold insE
  generalize hp : posE lt f out out.length = p
  have hple : p ≤ out.length := by rw [← hp]; exact posE_le _ _ _ _
  have habove : ∀ a ∈ out.drop p, lt f a = true := by
    intro a ha
    obtain ⟨i, hi⟩ := List.mem_iff_getElem?.1 ha
    rw [List.getElem?_drop] at hi
    exact posE_above lt f out out.length (Nat.le_refl _) (p + i) a (by omega) (List.getElem?_eq_some_iff.1 hi).1 hi
  have hasy : ∀ a, lt f a = true → lt a f = false := by
    intro a ha
    cases hb : lt a f with
    | false => rfl
    | true => have := hO.trans _ _ _ ha hb; rw [hO.irrefl] at this; cases this
  have hbelow : ∀ a ∈ out.take p, lt f a = false := by
    intro a ha
    obtain ⟨i, hi⟩ := List.mem_iff_getElem?.1 ha
    rw [List.getElem?_take] at hi
    split at hi
    · rename_i hip
      obtain ⟨b, hb⟩ : ∃ b, out[p - 1]? = some b := ⟨_, List.getElem?_eq_getElem (by omega)⟩
      have hs := posE_stop lt f out out.length (Nat.le_refl _) b (by omega) (by rw [hp]; exact hb)
      by_cases e : i = p - 1
      · subst e; rw [hb] at hi; cases hi; exact hs
      · obtain ⟨i1, r1⟩ := List.getElem?_eq_some_iff.1 hi
        obtain ⟨i2, r2⟩ := List.getElem?_eq_some_iff.1 hb
        subst r1; subst r2
        have hu := List.pairwise_iff_getElem.1 h i (p - 1) i1 i2 (by omega)
        exact hO.ntrans _ _ _ hs hu
    · cases hi
  have h0 : Up lt (out.take p ++ out.drop p) := by rw [List.take_append_drop]; exact h
  obtain ⟨h1, h2, h3⟩ := List.pairwise_append.1 h0
  refine List.pairwise_append.2 ⟨h1, List.pairwise_cons.2 ⟨fun a ha => hasy a (habove a ha), h2⟩, fun a ha b hb => ?_⟩
  rcases List.mem_cons.1 hb with rfl | hb
  · exact hbelow a ha
  · exact h3 a ha b hb
theorem fold_ins {α : Type} {lt : α → α → Bool} (hO : SWO lt) : ∀ (l out : List α), Up lt out → Up lt (l.foldl (insE lt) out) ∧ (l.foldl (insE lt) out).Perm (l ++ out)
  | [], out, h => ⟨h, List.Perm.refl _⟩
  | f :: l, out, h => by
    have ih := fold_ins hO l _ (insE_up hO h f)
    refine ⟨ih.1, ih.2.trans ?_⟩
    refine (List.Perm.append_left l (insE_perm lt out f)).trans ?_
    exact List.perm_middle
/-- there is one sorted list -/
theorem up_unique {α : Type} {lt : α → α → Bool} : ∀ (l m : List α), l.Perm m → Up lt l → Up lt m → (∀ a ∈ l, ∀ b ∈ l, lt a b = false → lt b a = false → a = b) → l = m
  | [], m, hp, _, _, _ => by rw [List.nil_perm] at hp; exact hp.symm
  | a :: l, m, hp, h1, h2, hd => by
    cases m with
    | nil => exact absurd hp.length_eq (by simp)
    | cons b m =>
      have ha : a ∈ b :: m := hp.subset List.mem_cons_self
      have hb : b ∈ a :: l := hp.symm.subset List.mem_cons_self
      have e : a = b := by
        rcases List.mem_cons.1 ha with e | ha'
        · exact e
        · rcases List.mem_cons.1 hb with e | hb'
          · exact e.symm
          · exact hd a List.mem_cons_self b (List.mem_cons_of_mem _ hb') ((List.pairwise_cons.1 h2).1 a ha') ((List.pairwise_cons.1 h1).1 b hb')
      subst e
      rw [up_unique l m (List.Perm.cons_inv hp) (List.pairwise_cons.1 h1).2 (List.pairwise_cons.1 h2).2 (fun x hx y hy => hd x (List.mem_cons_of_mem _ hx) y (List.mem_cons_of_mem _ hy))]
end Go.Proofs.YtlnoelbeaolikaaGreat
namespace Go.Proofs.YtlnoelbeaolikaaGreat
open Go.RowKit Go.Sort

theorem flatK_flat {α : Type} [Inhabited α] (E : Enc α) (d : Array α) : (flatK E.row E.sz d).toList = E.flat d.toList := by
  apply List.ext_getElem?
  intro t
  rw [Enc.flat_get']
  by_cases ht : t < d.size * E.sz
  · have hpos : 0 < E.sz := E.pos
    have hlt : t / E.sz < d.size := by rw [Nat.div_lt_iff_lt_mul hpos]; exact ht
    have e1 : (flatK E.row E.sz d).toList[t]? = some (flatK E.row E.sz d)[t]! := by
      have hz : t < (flatK E.row E.sz d).size := by rw [size_flatK]; exact ht
      rw [Array.getElem?_toList, Array.getElem?_eq_getElem hz, getElem!_pos (flatK E.row E.sz d) t hz]
    rw [e1, get_flatK _ _ _ t ht]
    have e2 : d.toList[t / E.sz]? = some d[t / E.sz]! := by
      rw [Array.getElem?_toList, Array.getElem?_eq_getElem hlt, getElem!_pos d (t / E.sz) hlt]
    rw [e2]
    have hm : t % E.sz < (E.row d[t / E.sz]!).length := by rw [E.len]; exact Nat.mod_lt _ hpos
    simp [List.getElem?_eq_getElem hm]
  · have e1 : (flatK E.row E.sz d).toList[t]? = none := by
      rw [Array.getElem?_toList, Array.getElem?_eq_none (by rw [size_flatK]; omega)]
    rw [e1]
    rcases Nat.eq_zero_or_pos E.sz with h | h
    · have := E.pos; omega
    · have : d.size ≤ t / E.sz := by rw [Nat.le_div_iff_mul_le h]; omega
      rw [List.getElem?_eq_none (by simpa using this)]; rfl
theorem heap_sortK {w : World} {g n : Nat} {os : Array Obj} {cur : Array Value} {e : TypeId} {fr : Nat × Nat} (F : Array Value) (hb : w.heap[g]? = some (.cells cur e fr)) :
    (grow (putRow id (Sort.ahead w n) g 0 F) os).heap[g]? = some (.cells (putCells id 0 F cur) e fr) := by
  have hg : g < w.heap.size := (Array.getElem?_eq_some_iff.1 hb).1
  rw [heap_grow_old _ _ (by simpa using hg)]
  simp [putRow, mapBlock, Sort.ahead, Array.getElem?_modify, hb, onCells]
theorem grownBy_sortK {w : World} {g n : Nat} {os : Array Obj} (F : Array Value) : w.grownBy (grow (putRow id (Sort.ahead w n) g 0 F) os) (some g) := by
  refine ⟨rfl, rfl, rfl, by simp, fun k hk hne => ?_⟩
  rw [heap_grow_old _ _ (by simpa using hk)]
  have : g ≠ k := fun e => hne (by rw [e])
  simp [putRow, mapBlock, Sort.ahead, Array.getElem?_modify, this]
theorem take_putCellsK (cur F : Array Value) (h : F.size ≤ cur.size) : (putCells id 0 F cur).toList.take F.size = F.toList := by
  apply List.ext_getElem?
  intro j
  by_cases hj : j < F.size
  · rw [List.getElem?_take_of_lt hj, Array.getElem?_toList]
    simp [putCells, hj, show j < cur.size by omega]
  · rw [List.getElem?_take_eq_none (by omega), List.getElem?_eq_none (by simp; omega)]
theorem own_holds {α : Type} [Inhabited α] {E : Enc α} {e : TypeId} {B g cap n : Nat} {w : World} {X : List α} (h : Own E e B w (.slice (some ⟨g, 0, none⟩) n cap) X) (hn : n = X.length) : HoldsK E.row E.sz w g 0 X.toArray := by
  subst hn
  intro j hj
  have hj' : j < X.length * E.sz := by simpa using hj
  refine ⟨?_, ?_⟩
  · rw [Nat.zero_add, World.ownsRow.cellAt h _ hj']
    have e1 := flatK_flat E X.toArray
    have : (flatK E.row E.sz X.toArray)[j]! = (flatK E.row E.sz X.toArray)[j] := getElem!_pos _ j (by simpa using hj')
    rw [this]
    have e2 : (E.flat X)[j]? = some ((flatK E.row E.sz X.toArray)[j]'(by simpa using hj')) := by
      rw [← (show (flatK E.row E.sz X.toArray).toList = E.flat X from e1), Array.getElem?_toList, Array.getElem?_eq_getElem]
    rw [e2]; rfl
  · rw [Nat.zero_add]; exact h.free rfl _
theorem own_sorted {α : Type} [Inhabited α] {E : Enc α} {e : TypeId} {B g cap k n : Nat} {w : World} {X Y : List α} {os : Array Obj} (h : Own E e B w (.slice (some ⟨g, 0, none⟩) k cap) X) (hk : k = X.length) (hl : Y.length = X.length) :
    Own E e B (sortWorldK E.row E.sz w g 0 n Y.toArray os) (.slice (some ⟨g, 0, none⟩) k cap) Y ∧ w.grownBy (sortWorldK E.row E.sz w g 0 n Y.toArray os) (some g) := by
  subst hk
  obtain ⟨h1, h2⟩ := h
  refine ⟨?_, grownBy_sortK _⟩
  rcases h2 with ⟨h0, _⟩ | ⟨g', cap', cur, hv, hg, hb, hn, hc, hs, ht⟩
  · cases h0
  cases hv
  have e1 : (flatK E.row E.sz Y.toArray).toList = E.flat Y := flatK_flat E Y.toArray
  have hF : (flatK E.row E.sz Y.toArray).size = X.length * E.sz := by simp [hl]
  have hle : (flatK E.row E.sz Y.toArray).size ≤ cur.size := by rw [hF, hs]; exact Nat.mul_le_mul_right _ hn
  refine ⟨by rw [E.flat_len, hl], .inr ⟨g, cap, _, by rw [hl], hg, heap_sortK _ hb, by rw [hl]; exact hn, hc, by simp [putCells, hs], ?_⟩⟩
  have := take_putCellsK cur _ hle
  rw [hF, ← hl] at this
  rw [this, e1]
end Go.Proofs.YtlnoelbeaolikaaGreat
namespace Go.Proofs.YtlnoelbeaolikaaGreat
open Go.Sort

def ltH (a b : DHyp) : Bool := decide (ordH a b < 0)
def smH (a b : DHyp) : Bool := eqS a.label b.label
theorem smH_iff {a b : DHyp} : smH a b = true ↔ a.label.toList = b.label.toList := by unfold smH eqS; exact beq_iff_eq
theorem ltH_spec (a b : DHyp) : ltH a b = if a.cost = b.cost then ltB a.label b.label else decide (a.cost < b.cost) := by
  unfold ltH ordH
  by_cases h : a.cost = b.cost
  · rw [if_pos h, if_neg (by simpa using h)]
    unfold cmpB
    cases h3 : ltB a.label b.label
    · cases h4 : eqS a.label b.label <;> simp
    · simp
  · rw [if_neg h, if_pos h]
    unfold cmpI
    by_cases h4 : a.cost < b.cost
    · simp [h4]
    · have : b.cost < a.cost := by omega
      simp [h4, this]
theorem ltB_ntransH {a b c : ByteArray} (h : ltB a b = false) (k : ltB b c = false) : ltB a c = false := by
  unfold ltB at *; rw [bless_eq] at *; simp at *; exact List.le_trans k h
theorem swoH : SWO ltH where
  irrefl a := by rw [ltH_spec]; simp [ltB_irrefl]
  trans a b c h1 h2 := by
    rw [ltH_spec] at *
    split at h1 <;> split at h2 <;> (try simp only [decide_eq_true_eq] at h1) <;> (try simp only [decide_eq_true_eq] at h2)
    all_goals (first
      | (rw [if_pos (by omega)]; exact ltB_trans h1 h2)
      | (rw [if_neg (by omega)]; simp; omega))
  ntrans a b c h1 h2 := by
    rw [ltH_spec] at *
    split at h1 <;> split at h2 <;> (try simp only [decide_eq_false_iff_not] at h1) <;> (try simp only [decide_eq_false_iff_not] at h2)
    all_goals (first
      | (rw [if_pos (by omega)]; exact ltB_ntransH h1 h2)
      | (rw [if_neg (by omega)]; simp; omega))
theorem ltH_tie {a b : DHyp} (h1 : ltH a b = false) (h2 : ltH b a = false) : a = b := by
  rw [ltH_spec] at *
  by_cases h3 : a.cost = b.cost
  · rw [if_pos h3] at h1
    rw [if_pos h3.symm] at h2
    have h4 := ltB_or h1 h2
    obtain ⟨la, ca⟩ := a
    obtain ⟨lb, cb⟩ := b
    simp only at h3 h4
    subst h3
    have : la = lb := by
      cases la; cases lb
      rw [ByteArray.mk.injEq]
      rw [ByteArray.toList_eq, ByteArray.toList_eq] at h4
      exact Array.toList_inj.1 h4
    rw [this]
  · rw [if_neg h3] at h1
    rw [if_neg (Ne.symm h3)] at h2
    simp at h1 h2; omega
theorem ltH_same {a b : DHyp} (h : smH a b = true) : ltH a b = decide (a.cost < b.cost) := by
  rw [ltH_spec]
  split
  · rename_i h1
    rw [(ltB_congr (smH_iff.1 h)).1, ltB_irrefl]
    simp; omega
  · rfl

theorem best_in {e : DHyp} : ∀ (n : Nat) (l : List DHyp), l.length ≤ n → ∀ z ∈ l, smH z e = true → ∃ b ∈ l, smH b e = true ∧ ∀ y ∈ l, smH y e = true → ltH y b = false := by
  intro n
  induction n with
  | zero =>
    intro l hl z hz
    cases l with
    | nil => cases hz
    | cons a t => simp at hl
  | succ n ih =>
    intro l hl z hz hze
    cases l with
    | nil => cases hz
    | cons a t =>
      by_cases hex : ∃ y ∈ t, smH y e = true
      · obtain ⟨y, hy, hye⟩ := hex
        obtain ⟨b, hb, hbe, hbm⟩ := ih t (by simp at hl; omega) y hy hye
        by_cases hab : smH a e = true ∧ ltH a b = true
        · refine ⟨a, List.mem_cons_self, hab.1, fun y hy hye => ?_⟩
          rcases List.mem_cons.1 hy with rfl | hy
          · exact swoH.irrefl _
          · cases hya : ltH y a with
            | false => rfl
            | true => have h1 := swoH.trans _ _ _ hya hab.2; rw [hbm y hy hye] at h1; cases h1
        · refine ⟨b, List.mem_cons_of_mem _ hb, hbe, fun y hy hye => ?_⟩
          rcases List.mem_cons.1 hy with rfl | hy
          · cases hyb : ltH y b with
            | false => rfl
            | true => exact absurd ⟨hye, hyb⟩ hab
          · exact hbm y hy hye
      · rcases List.mem_cons.1 hz with rfl | hz'
        · refine ⟨z, List.mem_cons_self, hze, fun y hy hye => ?_⟩
          rcases List.mem_cons.1 hy with rfl | hy
          · exact swoH.irrefl _
          · exact absurd ⟨y, hy, hye⟩ hex
        · exact absurd ⟨z, hz', hze⟩ hex
/-- the best of S, in order -/
def IsBest (S L : List DHyp) : Prop := L.Pairwise (fun a b => ltH a b = true) ∧ L.Pairwise (fun a b => smH a b = false) ∧ ∀ x, x ∈ L ↔ x ∈ S ∧ ∀ y ∈ S, smH y x = true → ltH y x = false
theorem isBest_uniq {S L M : List DHyp} (h : IsBest S L) (k : IsBest S M) : L = M := by
  have nd : ∀ {L : List DHyp}, L.Pairwise (fun a b => ltH a b = true) → L.Nodup := by
    intro L hL
    refine hL.imp fun {a b} h e => ?_
    subst e; rw [swoH.irrefl] at h; cases h
  have asy : ∀ {a b : DHyp}, ltH a b = true → ltH b a = false := by
    intro a b h
    cases hb : ltH b a with
    | false => rfl
    | true => have := swoH.trans _ _ _ h hb; rw [swoH.irrefl] at this; cases this
  refine up_unique L M ((List.perm_ext_iff_of_nodup (nd h.1) (nd k.1)).2 fun x => ?_) (h.1.imp asy) (k.1.imp asy) (fun a _ b _ h1 h2 => ltH_tie h1 h2)
  rw [h.2.2, k.2.2]
def stepD (out : List DHyp) (h : DHyp) : List DHyp := if out.any (fun g => smH g h) then out else out ++ [h]
def dedup (l : List DHyp) : List DHyp := l.foldl stepD []
theorem dedup_inv : ∀ (l done out : List DHyp) (_ : (done ++ l).Pairwise (fun a b => ltH b a = false)), IsBest done out → IsBest (done ++ l) (l.foldl stepD out)
  | [], done, out, _, h => by simpa using h
  | e :: l, done, out, hp, h => by
    have hp' : ((done ++ [e]) ++ l).Pairwise (fun a b => ltH b a = false) := by simpa using hp
    have hle : ∀ x ∈ done, ltH e x = false := fun x hx => (List.pairwise_append.1 hp).2.2 x hx e List.mem_cons_self
    have hn : IsBest (done ++ [e]) (stepD out e) := by
      unfold stepD
      cases ha : out.any (fun g => smH g e)
      · -- a new label
        have hno : ∀ x ∈ done, smH x e = false := by
          intro x hx
          cases hs : smH x e with
          | false => rfl
          | true =>
            exfalso
            obtain ⟨b, hb, hbe, hbm⟩ := best_in (e := e) done.length done (Nat.le_refl _) x hx hs
            have hin : b ∈ out := (h.2.2 b).2 ⟨hb, fun y hy hyb => hbm y hy (by rw [smH_iff] at *; rw [hyb, hbe])⟩
            rw [List.any_eq_false] at ha
            exact ha b hin hbe
        simp only [Bool.false_eq_true, if_false]
        have hoe : ∀ x ∈ out, ltH x e = true := by
          intro x hx
          have hxd := ((h.2.2 x).1 hx).1
          cases hl : ltH x e with
          | true => rfl
          | false =>
            have := ltH_tie hl (hle x hxd)
            subst this
            have := hno x hxd
            rw [smH_iff.2 rfl] at this; cases this
        refine ⟨List.pairwise_append.2 ⟨h.1, List.pairwise_singleton _ _, fun a ha b hb => by rw [List.mem_singleton.1 hb]; exact hoe a ha⟩, List.pairwise_append.2 ⟨h.2.1, List.pairwise_singleton _ _, fun a ha b hb => by rw [List.mem_singleton.1 hb]; exact hno a ((h.2.2 a).1 ha).1⟩, fun x => ?_⟩
        constructor
        · intro hx
          rcases List.mem_append.1 hx with hx | hx
          · have h1 := (h.2.2 x).1 hx
            refine ⟨List.mem_append_left _ h1.1, fun y hy hyx => ?_⟩
            rcases List.mem_append.1 hy with hy | hy
            · exact h1.2 y hy hyx
            · rw [List.mem_singleton.1 hy]; exact hle x h1.1
          · rw [List.mem_singleton.1 hx]
            refine ⟨List.mem_append_right _ (List.mem_singleton.2 rfl), fun y hy hyx => ?_⟩
            rcases List.mem_append.1 hy with hy | hy
            · rw [hno y hy] at hyx; cases hyx
            · rw [List.mem_singleton.1 hy]; exact swoH.irrefl _
        · rintro ⟨hx, hm⟩
          rcases List.mem_append.1 hx with hx | hx
          · exact List.mem_append_left _ ((h.2.2 x).2 ⟨hx, fun y hy => hm y (List.mem_append_left _ hy)⟩)
          · exact List.mem_append_right _ hx
      · -- a known label
        simp only [if_true]
        obtain ⟨g, hg, hge⟩ := List.any_eq_true.1 ha
        have hgd := (h.2.2 g).1 hg
        refine ⟨h.1, h.2.1, fun x => ?_⟩
        rw [h.2.2 x]
        constructor
        · rintro ⟨h1, h2⟩
          refine ⟨List.mem_append_left _ h1, fun y hy hyx => ?_⟩
          rcases List.mem_append.1 hy with hy | hy
          · exact h2 y hy hyx
          · rw [List.mem_singleton.1 hy]; exact hle x h1
        · rintro ⟨h1, h2⟩
          rcases List.mem_append.1 h1 with h1 | h1
          · exact ⟨h1, fun y hy => h2 y (List.mem_append_left _ hy)⟩
          · rw [List.mem_singleton.1 h1] at h2 ⊢
            have h3 := h2 g (List.mem_append_left _ hgd.1) hge
            have h4 := ltH_tie h3 (hle g hgd.1)
            rw [← h4]; exact hgd
    have := dedup_inv l (done ++ [e]) (stepD out e) hp' hn
    simpa using this
theorem dedup_best {S l : List DHyp} (hp : l.Perm S) (hu : Up ltH l) : IsBest S (dedup l) := by
  have h := dedup_inv l [] [] (show Up ltH ([] ++ l) by rw [List.nil_append]; exact hu) ⟨List.Pairwise.nil, List.Pairwise.nil, fun x => by simp⟩
  rw [List.nil_append] at h
  exact ⟨h.1, h.2.1, fun x => (h.2.2 x).trans (by rw [hp.mem_iff]; exact and_congr Iff.rfl (forall_congr' fun y => by rw [hp.mem_iff]))⟩
def stepM (m : Nat) (out : List DHyp) (h : DHyp) : List DHyp := if decide (out.length < m) && !out.any (fun g => smH g h) then out ++ [h] else out
theorem fold_take_m (m : Nat) : ∀ (l out : List DHyp), l.foldl (stepM m) (out.take m) = (l.foldl stepD out).take m
  | [], _ => rfl
  | h :: l, out => by
    rw [List.foldl_cons, List.foldl_cons]
    have e : stepM m (out.take m) h = (stepD out h).take m := by
      unfold stepM stepD
      by_cases hl : out.length < m
      · rw [List.take_of_length_le (by omega)]
        simp only [hl, decide_true, Bool.true_and]
        cases ha : out.any (fun g => smH g h)
        · simp only [Bool.not_false, if_true, Bool.false_eq_true, if_false]
          rw [List.take_of_length_le (by simp; omega)]
        · simp only [Bool.not_true, Bool.false_eq_true, if_false, if_true]
          rw [List.take_of_length_le (by omega)]
      · have h1 : ¬ (out.take m).length < m := by rw [List.length_take]; omega
        simp only [h1, decide_false, Bool.false_and, Bool.false_eq_true, if_false]
        split
        · rfl
        · rw [List.take_append_of_le_length (by omega)]
    rw [e, fold_take_m m l]
/-- inserting one, unless there is a better one with its label -/
def insH (out : List DHyp) (h : DHyp) : List DHyp := if out.any (fun g => smH g h && decide (g.cost ≤ h.cost)) then out else insE ltH (out.filter fun g => !smH g h) h
theorem smH_comm (a b : DHyp) : smH a b = smH b a := by
  cases h : smH a b
  · cases k : smH b a
    · rfl
    · rw [smH_iff] at k; rw [smH_iff.2 k.symm] at h; cases h
  · rw [smH_iff] at h; exact (smH_iff.2 h.symm).symm
theorem smH_trans {a b c : DHyp} (h : smH a b = true) (k : smH b c = true) : smH a c = true := smH_iff.2 ((smH_iff.1 h).trans (smH_iff.1 k))
theorem one_label {L : List DHyp} (h : L.Pairwise fun a b => smH a b = false) {x y : DHyp} (hx : x ∈ L) (hy : y ∈ L) (hs : smH x y = true) : x = y := by
  obtain ⟨i, hi, rfl⟩ := List.mem_iff_getElem.1 hx
  obtain ⟨j, hj, rfl⟩ := List.mem_iff_getElem.1 hy
  rcases Nat.lt_trichotomy i j with hl | hl | hl
  · have := List.pairwise_iff_getElem.1 h i j hi hj hl; rw [hs] at this; cases this
  · subst hl; rfl
  · have := List.pairwise_iff_getElem.1 h j i hj hi hl; rw [smH_comm, hs] at this; cases this
theorem strict_of {L : List DHyp} (hu : Up ltH L) (hs : L.Pairwise fun a b => smH a b = false) : L.Pairwise fun a b => ltH a b = true := by
  refine (hu.and hs).imp fun {a b} h => ?_
  cases hl : ltH a b with
  | true => rfl
  | false =>
    have := ltH_tie hl h.1
    subst this
    rw [smH_iff.2 rfl] at h; cases h.2
theorem up_of {L : List DHyp} (h : L.Pairwise fun a b => ltH a b = true) : Up ltH L := h.imp fun {a b} h => by
  cases hb : ltH b a with
  | false => rfl
  | true => have := swoH.trans _ _ _ h hb; rw [swoH.irrefl] at this; cases this
theorem insH_best {S L : List DHyp} {h : DHyp} (hB : IsBest S L) : IsBest (S ++ [h]) (insH L h) := by
  unfold insH
  cases ha : L.any (fun g => smH g h && decide (g.cost ≤ h.cost))
  · simp only [Bool.false_eq_true, if_false]
    have hno : ∀ g ∈ L, smH g h = true → h.cost < g.cost := by
      intro g hg hs
      have := List.any_eq_false.1 ha g hg
      simp [hs] at this; omega
    have hper := insE_perm ltH (L.filter fun g => !smH g h) h
    have hmem : ∀ x, x ∈ insE ltH (L.filter fun g => !smH g h) h ↔ x = h ∨ (x ∈ L ∧ smH x h = false) := by
      intro x
      rw [hper.mem_iff, List.mem_cons, List.mem_filter]
      simp
    have hup : Up ltH (insE ltH (L.filter fun g => !smH g h) h) := insE_up swoH (List.Pairwise.sublist (List.filter_sublist (p := fun g => !smH g h)) (up_of hB.1)) h
    have hdl : (insE ltH (L.filter fun g => !smH g h) h).Pairwise fun a b => smH a b = false := by
      refine (hper.pairwise_iff (fun {a b} hab => by rw [smH_comm]; exact hab)).2 (List.pairwise_cons.2 ⟨fun a ha => ?_, List.Pairwise.sublist (List.filter_sublist (p := fun g => !smH g h)) hB.2.1⟩)
      have := (List.mem_filter.1 ha).2
      rw [smH_comm]; simpa using this
    refine ⟨strict_of hup hdl, hdl, fun x => ?_⟩
    rw [hmem]
    constructor
    · rintro (rfl | ⟨hx, hs⟩)
      · refine ⟨List.mem_append_right _ (List.mem_singleton.2 rfl), fun y hy hyx => ?_⟩
        rcases List.mem_append.1 hy with hy | hy
        · obtain ⟨b, hb, hbe, hbm⟩ := best_in (e := x) S.length S (Nat.le_refl _) y hy hyx
          have hbL : b ∈ L := (hB.2.2 b).2 ⟨hb, fun z hz hzb => hbm z hz (smH_trans hzb hbe)⟩
          have h1 := hno b hbL hbe
          have h2 := hbm y hy hyx
          rw [ltH_same (smH_trans hyx (by rw [smH_comm]; exact hbe))] at h2
          rw [ltH_same hyx]
          simp at h2 ⊢; omega
        · rw [List.mem_singleton.1 hy]; exact swoH.irrefl _
      · have h1 := (hB.2.2 x).1 hx
        refine ⟨List.mem_append_left _ h1.1, fun y hy hyx => ?_⟩
        rcases List.mem_append.1 hy with hy | hy
        · exact h1.2 y hy hyx
        · rw [List.mem_singleton.1 hy, smH_comm, hs] at hyx; cases hyx
    · rintro ⟨hx, hm⟩
      rcases List.mem_append.1 hx with hx | hx
      · have hxL := (hB.2.2 x).2 ⟨hx, fun y hy => hm y (List.mem_append_left _ hy)⟩
        cases hs : smH x h with
        | false => exact .inr ⟨hxL, rfl⟩
        | true =>
          have h1 := hm h (List.mem_append_right _ (List.mem_singleton.2 rfl)) (by rw [smH_comm]; exact hs)
          rw [ltH_same (by rw [smH_comm]; exact hs)] at h1
          have h2 := hno x hxL hs
          simp at h1; omega
      · exact .inl (List.mem_singleton.1 hx)
  · simp only [if_true]
    obtain ⟨g, hg, hge⟩ := List.any_eq_true.1 ha
    simp only [Bool.and_eq_true, decide_eq_true_eq] at hge
    refine ⟨hB.1, hB.2.1, fun x => ?_⟩
    constructor
    · intro hx
      have h1 := (hB.2.2 x).1 hx
      refine ⟨List.mem_append_left _ h1.1, fun y hy hyx => ?_⟩
      rcases List.mem_append.1 hy with hy | hy
      · exact h1.2 y hy hyx
      · rw [List.mem_singleton.1 hy] at hyx ⊢
        have := one_label hB.2.1 hg hx (smH_trans hge.1 hyx)
        subst this
        rw [ltH_same hyx]; simp; omega
    · rintro ⟨hx, hm⟩
      rcases List.mem_append.1 hx with hx | hx
      · exact (hB.2.2 x).2 ⟨hx, fun y hy => hm y (List.mem_append_left _ hy)⟩
      · rw [List.mem_singleton.1 hx] at hm ⊢
        have h1 := hm g (List.mem_append_left _ ((hB.2.2 g).1 hg).1) hge.1
        have h2 : ltH h g = false := by rw [ltH_same (by rw [smH_comm]; exact hge.1)]; simp; omega
        rw [← ltH_tie h1 h2]; exact hg
theorem fold_best : ∀ (b S L : List DHyp), IsBest S L → IsBest (S ++ b) (b.foldl insH L)
  | [], S, L, h => by simpa using h
  | e :: b, S, L, h => by
    have := fold_best b (S ++ [e]) (insH L e) (insH_best h)
    simpa using this
end Go.Proofs.YtlnoelbeaolikaaGreat
namespace Go.Proofs.YtlnoelbeaolikaaGreat
open Go.RowKit

set_option maxHeartbeats 1000000 in
theorem indexHy_any (c : FuncId) (cap0 : Value) (q : DHyp → Bool) (v : Value) (x : List DHyp) (w : World) (h : Arr eHyp w v x) (ok : x.length ≤ 2000000) (hen : Enters c)
    (hf : ∀ (a : DHyp) (w' : World), Below w.heap.size w w' → Calls Tryz.prog c #[.agg #[.string a.label, .int .i64 a.cost], cap0] w' (Ret (.bool (q a)) w')) :
    Calls Tryz.prog 159 #[v, .func (.func c) #[] #[cap0]] w (Ret (.int .i64 (posOf (x.findIdx? q))) w) := by
  obtain ⟨b, off, ao, cap, rfl, hnc, hcm, hao, hc⟩ := h
  unfold maxLen at hcm
  go_enter Tryz.func159, Tryz.ntmps159
  go_wp2
  go_loopw [5, 8] (fun _ i wr => ∃ k : Nat, k ≤ x.length ∧ i = .int .i64 k ∧ Below w.heap.size w wr ∧ ∀ j a, j < k → x[j]? = some a → q a = false) (fun _ i _ => x.length - (intOf i).toNat)
  case atStart => exact ⟨0, Nat.zero_le _, rfl, Below.refl _ _, fun j e h => by omega⟩
  case round =>
    obtain ⟨k, hk, rfl, hb, hall⟩ := hrel
    have HA := hid hall
    clear hall
    by_cases hlt : k < x.length
    · obtain ⟨hao', hbw⟩ := hao (by omega)
      subst hao'
      obtain ⟨e, he⟩ : ∃ e, x[k]? = some e := ⟨_, List.getElem?_eq_getElem hlt⟩
      obtain ⟨c0, c1⟩ := eHyp_cells (hc.below hb hbw) he
      have hli : (k : Int) < (x.length : Int) := by omega
      have HE := hid he
      have HF := hid (hf e)
      clear he hao hf
      have hcf : ∀ (args : Array Value) (w : World), (callFunc c args).run Tryz.prog w = .ok (.enter c args) w := hen
      cases hq : q e
      · go_wp2_with fail
        refine (HF.out _ hb).mono ?_
        rintro e2 w2 ⟨rfl, hb2⟩
        rw [hq]
        go_wp2
        go_roundw
        case rel =>
          refine ⟨k + 1, by omega, by go_num, hb.trans (hb2.mono hb.size), fun j a hj ha => ?_⟩
          by_cases ej : j = k
          · subst ej; rw [HE.out] at ha; obtain rfl := Option.some.inj ha; exact hq
          · exact HA.out j a (by omega) ha
        case measure => simp [intOf]; omega
      · go_wp2_with fail
        refine (HF.out _ hb).mono ?_
        rintro e2 w2 ⟨rfl, hb2⟩
        rw [hq]
        go_wp2
        go_ret
        exact ret_int (by rw [find_some HE.out hq HA.out]; rfl) (hb.trans (hb2.mono hb.size))
    · have HV := hid (find_none (x := x) (q := q) fun j a hj => HA.out j a (by omega))
      clear hao hf
      go_wp2
      go_ret
      exact ret_int (by rw [HV.out]; rfl) hb
set_option maxHeartbeats 400000 in
theorem containsHy_any (c : FuncId) (cap0 : Value) (q : DHyp → Bool) (v : Value) (x : List DHyp) (w : World) (h : Arr eHyp w v x) (ok : x.length ≤ 2000000) (hen : Enters c)
    (hf : ∀ (a : DHyp) (w' : World), Below w.heap.size w w' → Calls Tryz.prog c #[.agg #[.string a.label, .int .i64 a.cost], cap0] w' (Ret (.bool (q a)) w')) :
    Calls Tryz.prog 112 #[v, .func (.func c) #[] #[cap0]] w (Ret (.bool (x.any q)) w) := by
  have HF := hid hf
  have HN := hid hen
  clear hf hen
  rw [← pos_any]
  go_enter Tryz.func112, Tryz.ntmps112
  go_wp2_with (go_at_call 159; refine (indexHy_any _ _ _ _ _ _ h ok HN.out HF.out).mono ?_; rintro e w' ⟨rfl, hb⟩)
  go_ret
  exact ret_bool rfl hb
end Go.Proofs.YtlnoelbeaolikaaGreat
namespace Go.Proofs.YtlnoelbeaolikaaGreat
open Go.RowKit

def hy0 : DHyp := ⟨ByteArray.empty, 0⟩
def bestHy (x : List DHyp) : DHyp := if validHy x then x.headD hy0 else hy0
def bestC (x : List DHyp) : Int := if validHy x then (if x.length = 0 then 3 else 0) else 1
def marginHy (x : List DHyp) : Int := if validHy x then (match x with | a :: b :: _ => b.cost - a.cost | _ => 0) else 0
def marginC (x : List DHyp) : Int := if validHy x then (if x.length < 2 then 6 else 0) else 1
def isLab (s : ByteArray) (e : DHyp) : Bool := eqS e.label s
def costHy (x : List DHyp) (s : ByteArray) : Int := if validHy x then (match x.findIdx? (isLab s) with | none => 0 | some k => (x.getD k hy0).cost) else 0
def costC (x : List DHyp) (s : ByteArray) : Int := if validHy x then (match x.findIdx? (isLab s) with | none => 3 | some _ => 0) else 1
theorem find_get {α : Type} {x : List α} {q : α → Bool} {k : Nat} (h : x.findIdx? q = some k) : ∃ e, x[k]? = some e := by
  rw [List.findIdx?_eq_some_iff_getElem] at h
  obtain ⟨hk, _, _⟩ := h
  exact ⟨x[k], List.getElem?_eq_getElem hk⟩
theorem hy_bd {x : List DHyp} (h : validHy x = true) {k : Nat} {e : DHyp} (he : x[k]? = some e) : 0 ≤ e.cost ∧ e.cost ≤ 1000000 := by
  cases hi : inB e.cost 0 1000000 with
  | true => exact inB_true.1 hi
  | false => rw [allHy_at he (by simp [hyOk, hi])] at h; cases h

end Go.Proofs.YtlnoelbeaolikaaGreat
namespace Go.Proofs.YtlnoelbeaolikaaGreat
open Go.RowKit
attribute [local go_sem ↓] Go.wp_at_zero Go.wp_at_succ

theorem infHyp : (Tryz.prog.info? 76).map (fun i => (i.zero, i.size, i.bytes)) = some (some (.agg #[.string ByteArray.empty, .int .i64 0]), eHyp.sz, 24) := by kernel_rfl

def raiseE (d : Int) (e : DHyp) : DHyp := ⟨e.label, e.cost + d⟩
def raiseOk (x : List DHyp) (d : Int) : Bool := x.all fun e => decide (e.cost + d ≤ 1000000)
def raiseHy (x : List DHyp) (d : Int) : List DHyp := if validHy x && inB d 0 1000000 && raiseOk x d then x.map (raiseE d) else []
def raiseC (x : List DHyp) (d : Int) : Int := if validHy x then (if inB d 0 1000000 && raiseOk x d then 0 else 2) else 1
theorem okRaise {x : List DHyp} {d : Int} (h : okHypS x) : okHypS (raiseHy x d) := by
  unfold okHypS at *
  unfold raiseHy
  split
  · simpa using h
  · simp
theorem cmpI_add (a b d : Int) : cmpI (a + d) (b + d) = cmpI a b := by
  unfold cmpI
  by_cases h1 : a < b
  · rw [if_pos h1, if_pos (by omega)]
  · rw [if_neg h1, if_neg (by omega)]
    by_cases h2 : b < a
    · rw [if_pos h2, if_pos (by omega)]
    · rw [if_neg h2, if_neg (by omega)]
theorem ordH_raise (a b : DHyp) (d : Int) : ordH (raiseE d a) (raiseE d b) = ordH a b := by
  unfold ordH raiseE
  simp only
  rw [cmpI_add]
  by_cases h : a.cost = b.cost
  · rw [if_neg (by simp [h]), if_neg (by simp [h])]
  · rw [if_pos (by omega), if_pos h]
theorem newAt_raise (x : List DHyp) (k : Nat) (e : DHyp) (d : Int) : newAt (x.map (raiseE d)) k (raiseE d e) = newAt x k e := by
  unfold newAt
  rw [← List.map_take, List.all_map]
  rfl
theorem ordAt_raise (x : List DHyp) (k : Nat) (e : DHyp) (d : Int) : ordAtH (x.map (raiseE d)) k (raiseE d e) = ordAtH x k e := by
  unfold ordAtH
  cases k with
  | zero => rfl
  | succ k =>
    rw [List.getElem?_map]
    cases h : x[k + 1 - 1]? with
    | none => simp
    | some p => simp [ordH_raise]
theorem valid_raise {x : List DHyp} (hv : validHy x = true) {d : Int} (hd : 0 ≤ d) : validHy (x.map (raiseE d)) = raiseOk x d := by
  have hl : x.length ≤ 8 := by simp [validHy] at hv; exact hv.2
  cases ho : raiseOk x d with
  | true =>
    rw [allHy_all]
    · simpa using hl
    · intro k e' hk he'
      rw [List.getElem?_map] at he'
      obtain ⟨e, he, rfl⟩ := Option.map_eq_some_iff.1 he'
      have h1 : hyOk x k e = true := by
        cases h : hyOk x k e with
        | true => rfl
        | false => rw [allHy_at he h] at hv; cases hv
      have h2 : decide (e.cost + d ≤ 1000000) = true := by
        rw [raiseOk, List.all_eq_true] at ho
        exact ho e (List.mem_of_getElem? he)
      simp only [hyOk, Bool.and_eq_true] at h1 ⊢
      rw [newAt_raise, ordAt_raise]
      have hb := inB_true.1 h1.1.1.2
      refine ⟨⟨⟨h1.1.1.1, inB_true.2 ⟨?_, by simpa [raiseE] using h2⟩⟩, h1.1.2⟩, h1.2⟩
      show 0 ≤ e.cost + d
      omega
  | false =>
    rw [raiseOk, List.all_eq_false] at ho
    obtain ⟨e, he, hf⟩ := ho
    obtain ⟨k, hk⟩ := List.mem_iff_getElem?.1 he
    refine allHy_at (k := k) (e := raiseE d e) (by rw [List.getElem?_map, hk]; rfl) ?_
    have : inB (e.cost + d) 0 1000000 = false := inB_false.2 (.inr (by simpa using hf))
    simp [hyOk, raiseE, this]
theorem raise_at {x : List DHyp} {d : Int} {k : Nat} {e : DHyp} (h : x[k]? = some e) (hf : 1000000 < e.cost + d) : raiseOk x d = false := by
  rw [raiseOk, List.all_eq_false]
  exact ⟨e, List.mem_of_getElem? h, by simp; omega⟩
theorem raise_all {x : List DHyp} {d : Int} (h : ∀ j a, j < x.length → x[j]? = some a → a.cost + d ≤ 1000000) : raiseOk x d = true := by
  rw [raiseOk, List.all_eq_true]
  intro a ha
  obtain ⟨j, hj⟩ := List.mem_iff_getElem?.1 ha
  simpa using h j a (List.getElem?_eq_some_iff.1 hj).1 hj
theorem take_raise {x : List DHyp} {d : Int} {k : Nat} {e : DHyp} (h : x[k]? = some e) : (x.take (k + 1)).map (raiseE d) = (x.take k).map (raiseE d) ++ [raiseE d e] := by
  rw [List.take_add_one, h]; simp
theorem wf_small {n : Int} (h0 : -9000000000000000000 ≤ n) (h1 : n ≤ 9000000000000000000) : (Lit.int .i64 n).wf = true := by
  have e1 : IntKind.i64.min = -9223372036854775808 := by decide
  have e2 : IntKind.i64.max = 9223372036854775807 := by decide
  rw [Lit.wf, Bool.and_eq_true, decide_eq_true_iff, decide_eq_true_iff, e1, e2]
  omega

end Go.Proofs.YtlnoelbeaolikaaGreat
