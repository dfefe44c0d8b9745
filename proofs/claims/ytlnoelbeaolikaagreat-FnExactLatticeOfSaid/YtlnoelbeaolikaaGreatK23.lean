/- An edge added to a lattice: the order of edges, and the reference's calls. -/
import Derived.Test.YtlnoelbeaolikaaGreatK22
import Derived.Test.YtlnoelbeaolikaaGreatK20
import Derived.Test.YtlnoelbeaolikaaGreatK06
import Derived.Test.YtlnoelbeaolikaaGreatK01
import Derived.Test.YtlnoelbeaolikaaGreatK12
import Derived.Test.YtlnoelbeaolikaaGreatK08
import Derived.Test.YtlnoelbeaolikaaGreatK09
namespace Go.Proofs.YtlnoelbeaolikaaGreat
open Go.RowKit Go.Sort
attribute [local go_sem ↓] Go.wp_at_zero Go.wp_at_succ
def ltE (a b : DEdge) : Bool := decide (ordE a b < 0)
theorem cmpI_lt (a b : Int) : decide (cmpI a b < 0) = decide (a < b) := by
 unfold cmpI
 by_cases h1 : a < b
 ·rw [if_pos h1]; simp [h1]
 ·rw [if_neg h1]
  split
  ·simp [h1]
  ·simp [h1]
theorem cmpB_lt (a b : ByteArray) : decide (cmpB a b < 0) = ltB a b := by
 unfold cmpB
 cases ltB a b
 ·cases eqS a b <;> rfl
 ·rfl
theorem ltE_spec (a b : DEdge) : ltE a b = if a.frm = b.frm then (if a.to_ = b.to_ then ltB a.label b.label else decide (a.to_ < b.to_)) else decide (a.frm < b.frm) := by
 unfold ltE ordE
 by_cases h1 : a.frm = b.frm
 ·rw [if_pos h1, if_neg (by simpa using h1)]
  by_cases h2 : a.to_ = b.to_
  ·rw [if_pos h2, if_neg (by simpa using h2), cmpB_lt]
  ·rw [if_neg h2, if_pos h2, cmpI_lt]
 ·rw [if_neg h1, if_pos h1, cmpI_lt]
theorem ltB_ntransE {a b c : ByteArray} (h : ltB a b = false) (k : ltB b c = false) : ltB a c = false := by
 unfold ltB at *; rw [bless_eq] at *; simp at *; exact List.le_trans k h
theorem swoE : SWO ltE where
 irrefl a := by rw [ltE_spec]; simp [ltB_irrefl]
 trans a b c h1 h2 := by
  rw [ltE_spec] at *
  split at h1 <;> split at h2 <;> (try split at h1) <;> (try split at h2) <;> (try simp only [decide_eq_true_eq] at h1) <;> (try simp only [decide_eq_true_eq] at h2)
  all_goals (first
   | (rw [if_pos (by omega), if_pos (by omega)]; exact ltB_trans h1 h2)
   | (rw [if_pos (by omega), if_neg (by omega)]; simp; omega)
   | (rw [if_neg (by omega)]; simp; omega))
 ntrans a b c h1 h2 := by
  rw [ltE_spec] at *
  split at h1 <;> split at h2 <;> (try split at h1) <;> (try split at h2) <;> (try simp only [decide_eq_false_iff_not] at h1) <;> (try simp only [decide_eq_false_iff_not] at h2)
  all_goals (first
   | (rw [if_pos (by omega), if_pos (by omega)]; exact ltB_ntransE h1 h2)
   | (rw [if_pos (by omega), if_neg (by omega)]; simp; omega)
   | (rw [if_neg (by omega)]; simp; omega))
theorem cmpI_anti (a b : Int) : (0 < cmpI a b) ↔ (cmpI b a < 0) := by
 unfold cmpI
 by_cases h1 : a < b
 ·simp [h1, show ¬ b < a by omega]
 ·by_cases h2 : b < a
  ·simp [h1, h2]
  ·simp [h1, h2]
theorem cmpB_anti (a b : ByteArray) : (0 < cmpB a b) ↔ (cmpB b a < 0) := by
 have h1 := cmpB_lt b a
 unfold cmpB at *
 cases hab : ltB a b
 ·cases he : eqS a b
  ·have : ltB b a = true := by
    cases hba : ltB b a with
    | true => rfl
    | false => have := ltB_or hab hba; unfold eqS at he; rw [this] at he; simp at he
   simp [this]
  ·have hl : ltB b a = false := by
    have e2 : a.toList = b.toList := by unfold eqS at he; exact beq_iff_eq.1 he
    rw [(ltB_congr (c := a) e2.symm).1]
    exact ltB_irrefl a
   have hs : eqS b a = true := by unfold eqS at *; rw [beq_iff_eq] at *; exact he.symm
   simp [hl, hs]
 ·have hl : ltB b a = false := by
   cases hba : ltB b a with
   | false => rfl
   | true => have := ltB_trans hab hba; rw [ltB_irrefl] at this; cases this
  simp [hl]
  split <;> omega
theorem ordE_anti (a b : DEdge) : (0 < ordE a b) ↔ (ordE b a < 0) := by
 unfold ordE
 by_cases h1 : a.frm = b.frm
 ·simp only [h1, ne_eq, not_true_eq_false, if_false]
  by_cases h2 : a.to_ = b.to_
  ·simp only [h2, not_true_eq_false, if_false]; exact cmpB_anti _ _
  ·rw [if_pos h2, if_pos (Ne.symm h2)]; exact cmpI_anti _ _
 ·rw [if_pos h1, if_pos (Ne.symm h1)]; exact cmpI_anti _ _
theorem arrA_take {α : Type} {E : Enc α} {w : World} {ao : Option Addr} {n m c : Nat} {xs : List α} (h : Arr E w (.slice ao n c) xs) (hm : m ≤ n) : Arr E w (.slice ao m c) (xs.take m) := by
 obtain ⟨b, off, ao', cap, hv, h1, h2, h3, h4⟩ := h
 simp only [Value.slice.injEq] at hv
 obtain ⟨rfl, rfl, rfl⟩ := hv
 have hl : (xs.take m).length = m := by rw [List.length_take]; omega
 refine ⟨b, off, ao, c, by rw [hl], by omega, h2, fun h0 => h3 (by omega), fun k x hx j u hu => ?_⟩
 have hk : k < m := by have := (List.getElem?_eq_some_iff.1 hx).1; omega
 rw [List.getElem?_take_of_lt hk] at hx
 exact h4 k x hx j u hu
end Go.Proofs.YtlnoelbeaolikaaGreat
namespace Go.Proofs.YtlnoelbeaolikaaGreat
open Go.RowKit Go.Sort
attribute [local go_sem ↓] Go.wp_at_zero Go.wp_at_succ
theorem arrS_drop {α : Type} {E : Enc α} {w : World} {ao : Option Addr} {n m c : Nat} {xs : List α} (h : Arr E w (.slice ao n c) xs) (hm : m ≤ n) :
  Arr E w (.slice (if c = m then ao else ao.map (·.add (m * E.sz))) (n - m) (c - m)) (xs.drop m) := by
 obtain ⟨b, off, ao', cap, hv, h1, h2, h3, h4⟩ := h
 simp only [Value.slice.injEq] at hv
 obtain ⟨rfl, rfl, rfl⟩ := hv
 by_cases hc : c = m
 ·refine ⟨b, off, _, c - m, by rw [List.length_drop], by rw [List.length_drop]; omega, by omega, fun h0 => by rw [List.length_drop] at h0; omega, fun k x hx => ?_⟩
  have := (List.getElem?_eq_some_iff.1 hx).1
  rw [List.length_drop] at this; omega
 ·refine ⟨b, off + m * E.sz, _, c - m, by rw [List.length_drop], by rw [List.length_drop]; omega, by omega, fun h0 => ?_, fun k x hx j u hu => ?_⟩
  ·rw [List.length_drop] at h0
   have h5 := h3 (by omega)
   rw [if_neg hc, h5.1]
   exact ⟨by rw [Option.map_some, Addr.add_lit], h5.2⟩
  ·rw [List.getElem?_drop] at hx
   have h5 := h4 (m + k) x hx j u hu
   rw [show off + (m + k) * E.sz + j = off + m * E.sz + k * E.sz + j by rw [Nat.add_mul]; omega] at h5
   exact h5
theorem arrT_drop {w : World} {b off n c k : Nat} {xs : List DEdge} (h : Arr eEdge w (.slice (some ⟨b, off, none⟩) n c) xs) (hm : k ≤ n) :
  Arr eEdge w (.slice (if c = k then some ⟨b, off, none⟩ else some ⟨b, off + k * 4, none⟩) (n - k) (c - k)) (xs.drop k) := by
 have h1 := arrS_drop h hm
 rw [Option.map_some, Addr.add_lit] at h1
 exact h1
theorem arr_any {α : Type} {E : Enc α} {w : World} {A : Option Addr} {n c : Nat} {xs : List α} (hn : n = xs.length) (h0 : n = 0) (hc : n ≤ c) (hm : c ≤ maxLen) : Arr E w (.slice A n c) xs := by
 subst h0
 have hx : xs = [] := List.length_eq_zero_iff.1 hn.symm
 subst hx
 exact ⟨0, 0, A, c, rfl, hc, hm, fun h => by simp at h, fun k x hx => by simp at hx⟩
set_option maxHeartbeats 8000000 in
set_option maxRecDepth 100000 in
theorem l15Put_any (v : Value) (x : List DEdge) (e : DEdge) (w : World) (h : Arr eEdge w v x) (ok : x.length ≤ 1000) :
  Calls Tryz.prog 78 #[v, .agg #[.int .i64 e.frm, .int .i64 e.to_, .string e.label, .int .i64 e.cost]] w fun en w' => ∃ u, en = .returned u ∧ Own eEdge 89 w.heap.size w' u (insE ltE x e) ∧ Below w.heap.size w w' := by
 have hA0 := h
 obtain ⟨b, off, ao, cap, rfl, hnc, hcm, hao, hc⟩ := h
 unfold maxLen at hcm
 obtain ⟨fe, te, la, co⟩ := e
 obtain ⟨W, hW⟩ : ∃ W, W = w.alloc (.cells #[.int .i64 fe, .int .i64 te, .string la, .int .i64 co] 89) := ⟨_, rfl⟩
 have hbx : Below w.heap.size w W := by rw [hW]; exact below_alloc _ _
 obtain ⟨p, hp⟩ : ∃ p, p = w.heap.size := ⟨_, rfl⟩
 have z0 : W.cell? ⟨p, 0, none⟩ = some (.int .i64 fe) := by rw [hW, hp]; simp
 have z1 : W.cell? ⟨p, 1, none⟩ = some (.int .i64 te) := by rw [hW, hp]; simp
 have z2 : W.cell? ⟨p, 2, none⟩ = some (.string la) := by rw [hW, hp]; simp
 have z3 : W.cell? ⟨p, 3, none⟩ = some (.int .i64 co) := by rw [hW, hp]; simp
 have HW := hid hW
 have HP := hid hp
 clear hW hp
 go_enter Tryz.func78, Tryz.ntmps78
 go_wp2_with fail
 rw [← HW.out, ← HP.out]
 go_loopw [5] (fun i wr => ∃ k : Nat, k ≤ x.length ∧ i = .int .i64 k ∧ Below W.heap.size W wr ∧ Hid (posE ltE ⟨fe, te, la, co⟩ x x.length = posE ltE ⟨fe, te, la, co⟩ x k)) (fun i _ => (intOf i).toNat)
 case atStart => exact ⟨x.length, Nat.le_refl _, rfl, Below.refl _ _, hid rfl⟩
 case round =>
  obtain ⟨k, hk, rfl, hb, HPP⟩ := hrel
  have y0 := cell_later hb z0
  have y1 := cell_later hb z1
  have y2 := cell_later hb z2
  have y3 := cell_later hb z3
  have hbw2 := hbx.trans (hb.mono hbx.size)
  by_cases hk0 : 0 < k
  ·have hki : (0 : Int) < (k : Int) := by omega
   have hk1 : (0 : Int) ≤ (k : Int) - 1 := by omega
   have hk2 : (k : Int) - 1 < (x.length : Int) := by omega
   have et : ((k : Int) - 1).toNat = k - 1 := by omega
   obtain ⟨hao', hbw⟩ := hao (by omega)
   subst hao'
   obtain ⟨a, ha⟩ : ∃ a, x[k - 1]? = some a := ⟨_, List.getElem?_eq_getElem (by omega)⟩
   obtain ⟨c0, c1, c2, c3⟩ := eEdge_cells (hc.below hbw2 hbw) ha
   have HST : Hid (posE ltE ⟨fe, te, la, co⟩ x k = if ltE ⟨fe, te, la, co⟩ a = true then posE ltE ⟨fe, te, la, co⟩ x (k - 1) else k) := hid (by
    obtain ⟨k', rfl⟩ : ∃ k', k = k' + 1 := ⟨k - 1, by omega⟩
    rw [Nat.add_sub_cancel] at ha ⊢
    rw [posE, ha])
   clear ha hao
   have CM := l15Order_any b (off + (k - 1) * 4) p 0 a ⟨fe, te, la, co⟩
   cases hl : ltE ⟨fe, te, la, co⟩ a
   ·have hoi : ordE a ⟨fe, te, la, co⟩ ≤ 0 := by
     unfold ltE at hl
     rw [decide_eq_false_iff_not, ← ordE_anti] at hl; omega
    have hod : decide (0 < ordE a ⟨fe, te, la, co⟩) = false := by simp; omega
    have HPOS : Hid (posE ltE ⟨fe, te, la, co⟩ x x.length = k) := hid (by rw [HPP.out, HST.out, hl]; rfl)
    clear hl
    go_wp2_with fail
    refine (CM wr c0 c1 c2 y0 y1 y2).mono ?_
    rintro en WN ⟨rfl, hb5⟩
    replace hb := hb.trans (hb5.mono hb.size)
    have HB := hb
    have hA1 := (hA0.below hbx).below HB
    have HINS : Hid (insE ltE x ⟨fe, te, la, co⟩ = x.take k ++ ⟨fe, te, la, co⟩ :: x.drop k) := hid (by unfold insE; rw [HPOS.out])
    have F0 := cell_later HB z0
    have F1 := cell_later HB z1
    have F2 := cell_later HB z2
    have F3 := cell_later HB z3
    clear HPOS HPP hb c0 c1 c2 y0 y1 y2 y3
    have hbN : Below w.heap.size w WN := hbx.trans (HB.mono hbx.size)
    have hsN := hbN.size
    have hpl := cell_lt F0
    go_wp2_with (at_builtin; refine wpList_appA rfl _ _ 52 rfl WN.heap.size 89 _ 40 infEdge Tryz.underlying52 rfl _ [] (by rfl) (Own.empty _ _ (Nat.le_refl _)) _ (x.take k) (by rfl) ((arrA_take hA1 hk).below (below_alloc _ _)) (by unfold maxLen; simp <;> omega) (by simp <;> omega) (by simp) ?_)
    intro v1 w1 ho1 hb1 _
    have HB1 : Below WN.heap.size WN w1 := (below_alloc _ _).trans hb1
    have G0 := cell_later HB1 F0
    have G1 := cell_later HB1 F1
    have G2 := cell_later HB1 F2
    have G3 := cell_later HB1 F3
    have z1 := HB1.size
    go_wp2_with (at_builtin; refine wpList_appA rfl _ _ 52 rfl WN.heap.size 89 _ 40 infEdge Tryz.underlying52 rfl _ (x.take k) (by rfl) (ho1.alloc _) _ [(⟨fe, te, la, co⟩ : DEdge)] (by rfl) (arr_block (E := eEdge) (n := 1) [(⟨fe, te, la, co⟩ : DEdge)] #[.int .i64 fe, .int .i64 te, .string la, .int .i64 co] rfl rfl (maxLen_ge (Nat.le_of_ble_eq_true rfl))) (by unfold maxLen; simp <;> omega) (by simp <;> omega) (by simp <;> omega) ?_)
    intro v2 w2 ho2 hb2 _
    have HB2 : Below WN.heap.size WN w2 := (HB1.alloc z1 _).trans hb2
    have hA2 := hA1.below HB2
    have z2 := HB2.size
    go_wp2_with (at_builtin; refine wpList_appA rfl _ _ 52 rfl WN.heap.size 89 _ 40 infEdge Tryz.underlying52 rfl _ (x.take k ++ [(⟨fe, te, la, co⟩ : DEdge)]) (by rfl) ho2 _ (x.drop k) (by rfl) (by first | exact arrT_drop hA2 hk | exact arrS_drop hA2 hk | (have hD := arrS_drop hA2 hk; rw [if_pos rfl] at hD; exact hD) | (have hD := arrS_drop hA2 hk; rw [if_neg (by assumption)] at hD; exact hD) | (have hD := arrS_drop hA2 hk; simpa using hD)) (by unfold maxLen; simp <;> omega) (by simp <;> omega) (by omega) ?_)
    all_goals intro v3 w3 ho3 hb3 _
    all_goals go_wp2_with fail
    all_goals go_ret
    all_goals exact ⟨_, rfl, by rw [HINS.out]; exact ho3.mono hsN, hbN.trans ((HB2.trans hb3).mono hsN)⟩
   ·have hoi : 0 < ordE a ⟨fe, te, la, co⟩ := by
     rw [ordE_anti]; unfold ltE at hl; simpa using hl
    have HPO : Hid (posE ltE ⟨fe, te, la, co⟩ x x.length = posE ltE ⟨fe, te, la, co⟩ x (k - 1)) := hid (by rw [HPP.out, HST.out, hl]; rfl)
    clear hl
    go_wp2_with fail
    refine (CM wr c0 c1 c2 y0 y1 y2).mono ?_
    rintro en WN ⟨rfl, hb5⟩
    replace hb := hb.trans (hb5.mono hb.size)
    go_wp2_with fail
    go_roundw
    case rel => exact ⟨k - 1, by omega, by go_num, hb, HPO⟩
    case measure => simp [intOf]; omega
  ·obtain rfl : k = 0 := by omega
   have hki : ¬ ((0 : Int) < ((0 : Nat) : Int)) := by omega
   have HPOS : Hid (posE ltE ⟨fe, te, la, co⟩ x x.length = 0) := hid (by rw [HPP.out]; rfl)
   obtain ⟨WN, hWN⟩ : ∃ WN, WN = wr := ⟨_, rfl⟩
   subst hWN
   by_cases hx0 : x.length = 0
   ·have HB := hb
    have hA1 := (hA0.below hbx).below HB
    have HINS : Hid (insE ltE x ⟨fe, te, la, co⟩ = x.take 0 ++ ⟨fe, te, la, co⟩ :: x.drop 0) := hid (by unfold insE; rw [HPOS.out])
    have F0 := cell_later HB z0
    have F1 := cell_later HB z1
    have F2 := cell_later HB z2
    have F3 := cell_later HB z3
    clear HPOS HPP hb y0 y1 y2 y3
    have hbN : Below w.heap.size w WN := hbx.trans (HB.mono hbx.size)
    have hsN := hbN.size
    have hpl := cell_lt F0
    go_wp2_with (at_builtin; refine wpList_appA rfl _ _ 52 rfl WN.heap.size 89 _ 40 infEdge Tryz.underlying52 rfl _ [] (by rfl) (Own.empty _ _ (Nat.le_refl _)) _ (x.take 0) (by rfl) ((arrA_take hA1 (Nat.zero_le _)).below (below_alloc _ _)) (by unfold maxLen; simp <;> omega) (by simp <;> omega) (by simp) ?_)
    intro v1 w1 ho1 hb1 _
    have HB1 : Below WN.heap.size WN w1 := (below_alloc _ _).trans hb1
    have G0 := cell_later HB1 F0
    have G1 := cell_later HB1 F1
    have G2 := cell_later HB1 F2
    have G3 := cell_later HB1 F3
    have z1 := HB1.size
    go_wp2_with (at_builtin; refine wpList_appA rfl _ _ 52 rfl WN.heap.size 89 _ 40 infEdge Tryz.underlying52 rfl _ (x.take 0) (by rfl) (ho1.alloc _) _ [(⟨fe, te, la, co⟩ : DEdge)] (by rfl) (arr_block (E := eEdge) (n := 1) [(⟨fe, te, la, co⟩ : DEdge)] #[.int .i64 fe, .int .i64 te, .string la, .int .i64 co] rfl rfl (maxLen_ge (Nat.le_of_ble_eq_true rfl))) (by unfold maxLen; simp <;> omega) (by simp <;> omega) (by simp <;> omega) ?_)
    intro v2 w2 ho2 hb2 _
    have HB2 : Below WN.heap.size WN w2 := (HB1.alloc z1 _).trans hb2
    have hA2 := hA1.below HB2
    have z2 := HB2.size
    go_wp2_with (at_builtin; refine wpList_appA rfl _ _ 52 rfl WN.heap.size 89 _ 40 infEdge Tryz.underlying52 rfl _ (x.take 0 ++ [(⟨fe, te, la, co⟩ : DEdge)]) (by rfl) ho2 _ (x.drop 0) (by rfl) (by first | exact arr_any (by rw [List.length_drop]; omega) (by omega) (by omega) (by unfold maxLen; omega) | (refine arr_any ?_ ?_ ?_ ?_ <;> first | omega | (rw [List.length_drop]; omega) | (unfold maxLen; omega))) (by unfold maxLen; simp <;> omega) (by simp <;> omega) (by omega) ?_)
    all_goals intro v3 w3 ho3 hb3 _
    all_goals go_wp2_with fail
    all_goals go_ret
    all_goals exact ⟨_, rfl, by rw [HINS.out]; exact ho3.mono hsN, hbN.trans ((HB2.trans hb3).mono hsN)⟩
   ·obtain ⟨hao', hbw⟩ := hao (by omega)
    subst hao'
    have HB := hb
    have hA1 := (hA0.below hbx).below HB
    have HINS : Hid (insE ltE x ⟨fe, te, la, co⟩ = x.take 0 ++ ⟨fe, te, la, co⟩ :: x.drop 0) := hid (by unfold insE; rw [HPOS.out])
    have F0 := cell_later HB z0
    have F1 := cell_later HB z1
    have F2 := cell_later HB z2
    have F3 := cell_later HB z3
    clear HPOS HPP hb y0 y1 y2 y3
    have hbN : Below w.heap.size w WN := hbx.trans (HB.mono hbx.size)
    have hsN := hbN.size
    have hpl := cell_lt F0
    go_wp2_with (at_builtin; refine wpList_appA rfl _ _ 52 rfl WN.heap.size 89 _ 40 infEdge Tryz.underlying52 rfl _ [] (by rfl) (Own.empty _ _ (Nat.le_refl _)) _ (x.take 0) (by rfl) ((arrA_take hA1 (Nat.zero_le _)).below (below_alloc _ _)) (by unfold maxLen; simp <;> omega) (by simp <;> omega) (by simp) ?_)
    intro v1 w1 ho1 hb1 _
    have HB1 : Below WN.heap.size WN w1 := (below_alloc _ _).trans hb1
    have G0 := cell_later HB1 F0
    have G1 := cell_later HB1 F1
    have G2 := cell_later HB1 F2
    have G3 := cell_later HB1 F3
    have z1 := HB1.size
    go_wp2_with (at_builtin; refine wpList_appA rfl _ _ 52 rfl WN.heap.size 89 _ 40 infEdge Tryz.underlying52 rfl _ (x.take 0) (by rfl) (ho1.alloc _) _ [(⟨fe, te, la, co⟩ : DEdge)] (by rfl) (arr_block (E := eEdge) (n := 1) [(⟨fe, te, la, co⟩ : DEdge)] #[.int .i64 fe, .int .i64 te, .string la, .int .i64 co] rfl rfl (maxLen_ge (Nat.le_of_ble_eq_true rfl))) (by unfold maxLen; simp <;> omega) (by simp <;> omega) (by simp <;> omega) ?_)
    intro v2 w2 ho2 hb2 _
    have HB2 : Below WN.heap.size WN w2 := (HB1.alloc z1 _).trans hb2
    have hA2 := hA1.below HB2
    have z2 := HB2.size
    go_wp2_with (at_builtin; refine wpList_appA rfl _ _ 52 rfl WN.heap.size 89 _ 40 infEdge Tryz.underlying52 rfl _ (x.take 0 ++ [(⟨fe, te, la, co⟩ : DEdge)]) (by rfl) ho2 _ (x.drop 0) (by rfl) (by first | exact hA2 | exact arrT_drop hA2 (Nat.zero_le _) | (rw [List.drop_zero]; exact hA2)) (by unfold maxLen; simp <;> omega) (by simp <;> omega) (by omega) ?_)
    all_goals intro v3 w3 ho3 hb3 _
    all_goals go_wp2_with fail
    all_goals go_ret
    all_goals exact ⟨_, rfl, by rw [HINS.out]; exact ho3.mono hsN, hbN.trans ((HB2.trans hb3).mono hsN)⟩
end Go.Proofs.YtlnoelbeaolikaaGreat
namespace Go.Proofs.YtlnoelbeaolikaaGreat
open Go.RowKit Go.Sort
noncomputable def hypsG (x : XStore) (X : XInk) (q most : Nat) (pen : Int) (g : DGroup) : List DHyp := if (g.to_ - g.frm) * ((q : Int) + 1) ≤ 72 then hypsI x (inkG X g.frm.toNat g.to_.toNat) q pen most else []
theorem hypsG_t {x : XStore} {X : XInk} {q most : Nat} {pen : Int} {f t : Nat} (h : ((t : Int) - (f : Int)) * ((q : Int) + 1) ≤ 72) : hypsG x X q most pen ⟨f, t⟩ = hypsI x (inkG X f t) q pen most := by
 unfold hypsG
 rw [if_pos h, Int.toNat_natCast, Int.toNat_natCast]
theorem hypsG_f {x : XStore} {X : XInk} {q most : Nat} {pen : Int} {f t : Nat} (h : ¬ ((t : Int) - (f : Int)) * ((q : Int) + 1) ≤ 72) : hypsG x X q most pen ⟨f, t⟩ = [] := by
 unfold hypsG
 rw [if_neg h]
def edgeOf (g : DGroup) (h : DHyp) : DEdge := ⟨g.frm, g.to_, h.label, h.cost⟩
noncomputable def edgesTo (x : XStore) (X : XInk) (q most : Nat) (pen : Int) (k : Nat) : List DEdge := ((grpTo X.length X.length).take k).flatMap fun g => (hypsG x X q most pen g).map (edgeOf g)
theorem edgesTo_succ {x : XStore} {X : XInk} {q most : Nat} {pen : Int} {k : Nat} {g : DGroup} (hg : (grpTo X.length X.length)[k]? = some g) : edgesTo x X q most pen (k + 1) = edgesTo x X q most pen k ++ (hypsG x X q most pen g).map (edgeOf g) := by
 unfold edgesTo
 rw [List.take_add_one, hg, List.flatMap_append]
 simp
def edgesAt (L : List DEdge) (g : DGroup) (H : List DHyp) (j : Nat) : List DEdge := L ++ (H.take j).map (edgeOf g)
theorem edgesAt_zero (L : List DEdge) (g : DGroup) (H : List DHyp) : edgesAt L g H 0 = L := by simp [edgesAt]
theorem edgesAt_all (L : List DEdge) (g : DGroup) (H : List DHyp) : edgesAt L g H H.length = L ++ H.map (edgeOf g) := by simp [edgesAt]
theorem edgesAt_push {L : List DEdge} {g : DGroup} {H : List DHyp} {j : Nat} {e : DHyp} (h : H[j]? = some e) : edgesAt L g H j ++ [edgeOf g e] = edgesAt L g H (j + 1) := by
 unfold edgesAt
 rw [List.take_add_one, h, List.map_append, List.append_assoc]; rfl
theorem edgesAt_len {L : List DEdge} {g : DGroup} {H : List DHyp} {j : Nat} (h : j ≤ H.length) : (edgesAt L g H j).length = L.length + j := by
 unfold edgesAt
 rw [List.length_append, List.length_map, List.length_take]; omega
def putTo (L : List DEdge) : List DEdge := L.foldl (insE ltE) []
theorem putTo_push (L : List DEdge) (e : DEdge) : insE ltE (putTo L) e = putTo (L ++ [e]) := by simp [putTo]
theorem putTo_fact (L : List DEdge) : Up ltE (putTo L) ∧ (putTo L).Perm L := by
 have h := fold_ins swoE L [] List.Pairwise.nil
 rw [List.append_nil] at h
 exact h
theorem putTo_len (L : List DEdge) : (putTo L).length = L.length := (putTo_fact L).2.length_eq
theorem hypsI_len (x : XStore) (X : XInk) (q : Nat) (pen : Int) (most : Nat) : (hypsI x X q pen most).length ≤ most := by unfold hypsI; rw [List.length_take]; omega
theorem hypsI_labels (x : XStore) (X : XInk) (q : Nat) (pen : Int) (most : Nat) : (hypsI x X q pen most).Pairwise fun a b => smH a b = false := by
 unfold hypsI insTo
 have h0 : IsBest [] [] := ⟨List.Pairwise.nil, List.Pairwise.nil, fun x => ⟨fun h => by simp at h, fun h => by simp at h⟩⟩
 exact List.Pairwise.sublist (List.take_sublist _ _) (fold_best _ [] [] h0).2.1
theorem hypsG_len {x : XStore} {X : XInk} {q most : Nat} {pen : Int} (hm : most ≤ 8) (g : DGroup) : (hypsG x X q most pen g).length ≤ 8 := by
 unfold hypsG
 split
 ·exact Nat.le_trans (hypsI_len _ _ _ _ _) hm
 ·simp
theorem hypsG_labels (x : XStore) (X : XInk) (q most : Nat) (pen : Int) (g : DGroup) : (hypsG x X q most pen g).Pairwise fun a b => smH a b = false := by
 unfold hypsG
 split
 ·exact hypsI_labels _ _ _ _ _
 ·exact List.Pairwise.nil
theorem edgesTo_len {x : XStore} {X : XInk} {q most : Nat} {pen : Int} (hm : most ≤ 8) : ∀ k, k ≤ (grpTo X.length X.length).length → (edgesTo x X q most pen k).length ≤ 8 * k
 | 0, _ => by simp [edgesTo]
 | k + 1, hk => by
  have ih := edgesTo_len (x := x) (X := X) (q := q) (pen := pen) hm k (by omega)
  rw [edgesTo_succ (List.getElem?_eq_getElem (by omega : k < (grpTo X.length X.length).length)), List.length_append, List.length_map]
  have := hypsG_len (x := x) (X := X) (q := q) (pen := pen) hm ((grpTo X.length X.length)[k])
  omega
theorem grpRow_at {f m : Nat} {g : DGroup} (h : g ∈ grpRow f m) : ∃ j : Nat, j < m ∧ g = ⟨f, f + 1 + j⟩ := by
 unfold grpRow at h
 obtain ⟨j, hj, rfl⟩ := List.mem_map.1 h
 exact ⟨j, List.mem_range.1 hj, rfl⟩
theorem grpTo_at {n m : Nat} {g : DGroup} (_ : m ≤ n) (h : g ∈ grpTo n m) : ∃ f t : Nat, g = ⟨f, t⟩ ∧ f < t ∧ t ≤ n := by
 unfold grpTo at h
 obtain ⟨i, hi, hg⟩ := List.mem_flatMap.1 h
 obtain ⟨j, hj, rfl⟩ := grpRow_at hg
 have := List.mem_range.1 hi
 unfold grpN at hj
 exact ⟨i, i + 1 + j, by simp, by omega, by omega⟩
theorem grpTo_pw (n m : Nat) : (grpTo n m).Pairwise fun a b => a.frm ≠ b.frm ∨ a.to_ ≠ b.to_ := by
 unfold grpTo
 rw [List.pairwise_flatMap]
 refine ⟨fun i _ => ?_, ?_⟩
 ·unfold grpRow
  rw [List.pairwise_map]
  exact (List.pairwise_lt_range (n := grpN n i)).imp fun {a b} h => .inr (by simp; omega)
 ·refine (List.pairwise_lt_range (n := m)).imp fun {a b} h x hx y hy => ?_
  obtain ⟨j, _, rfl⟩ := grpRow_at hx
  obtain ⟨k, _, rfl⟩ := grpRow_at hy
  exact .inl (by simp; omega)
theorem ltE_key {a b : DEdge} (h1 : ltE a b = false) (h2 : ltE b a = false) : a.frm = b.frm ∧ a.to_ = b.to_ ∧ a.label.toList = b.label.toList := by
 rw [ltE_spec] at h1 h2
 by_cases hf : a.frm = b.frm
 ·rw [if_pos hf] at h1
  rw [if_pos hf.symm] at h2
  by_cases ht : a.to_ = b.to_
  ·rw [if_pos ht] at h1
   rw [if_pos ht.symm] at h2
   exact ⟨hf, ht, ltB_or h1 h2⟩
  ·rw [if_neg ht] at h1
   rw [if_neg (fun e => ht e.symm)] at h2
   simp at h1 h2
   omega
 ·rw [if_neg hf] at h1
  rw [if_neg (fun e => hf e.symm)] at h2
  simp at h1 h2
  omega
def DiffE (a b : DEdge) : Prop := ltE a b = false → ltE b a = false → False
theorem edgesTo_pw (x : XStore) (X : XInk) (q most : Nat) (pen : Int) (k : Nat) : (edgesTo x X q most pen k).Pairwise DiffE := by
 unfold edgesTo
 rw [List.pairwise_flatMap]
 refine ⟨fun g _ => ?_, ?_⟩
 ·rw [List.pairwise_map]
  refine (hypsG_labels x X q most pen g).imp fun {a b} h h1 h2 => ?_
  have h3 := (ltE_key h1 h2).2.2
  have h4 : smH a b = true := smH_iff.2 h3
  rw [h] at h4; cases h4
 ·refine (List.Pairwise.sublist (List.take_sublist _ _) (grpTo_pw X.length X.length)).imp fun {a b} h u hu v hv h1 h2 => ?_
  obtain ⟨_, _, rfl⟩ := List.mem_map.1 hu
  obtain ⟨_, _, rfl⟩ := List.mem_map.1 hv
  have h3 := ltE_key h1 h2
  simp only [edgeOf] at h3
  omega
theorem sort_put {L Y : List DEdge} (hp : Y.Perm L) (hu : Up ltE Y) (hd : L.Pairwise DiffE) : Y = putTo L := by
 refine up_unique Y (putTo L) (hp.trans (putTo_fact L).2.symm) hu (putTo_fact L).1 fun a ha b hb h1 h2 => ?_
 obtain ⟨i, hi, rfl⟩ := List.mem_iff_getElem.1 (hp.subset ha)
 obtain ⟨j, hj, rfl⟩ := List.mem_iff_getElem.1 (hp.subset hb)
 rcases Nat.lt_trichotomy i j with hl | hl | hl
 ·exact (List.pairwise_iff_getElem.1 hd i j hi hj hl h1 h2).elim
 ·subst hl; rfl
 ·exact (List.pairwise_iff_getElem.1 hd j i hj hi hl h2 h1).elim
noncomputable def allEd (x : XStore) (X : XInk) (t : DSetting) : List DEdge := edgesTo x X (t.points - 1).toNat t.most.toNat t.pen (grpTo X.length X.length).length
def latB (x : XStore) (X : XInk) (t : DSetting) : Bool := validStore x && validInk X && validSet t
noncomputable def latOfX (x : XStore) (X : XInk) (t : DSetting) : XLattice := if latB x X t = true ∧ (allEd x X t).length ≤ 200 then ((X.length : Int) + 1, putTo (allEd x X t)) else (0, [])
noncomputable def latOfC (x : XStore) (X : XInk) (t : DSetting) : Int := if latB x X t = true then if (allEd x X t).length ≤ 200 then 0 else 5 else 1
theorem okLatOf {x : XStore} {X : XInk} {t : DSetting} : okLattice (latOfX x X t) := by
 unfold latOfX
 split
 ·rename_i h
  unfold okLattice
  rw [putTo_len]
  have := h.2
  show (allEd x X t).length ≤ 1048576
  omega
 ·simp [okLattice]
end Go.Proofs.YtlnoelbeaolikaaGreat
namespace Go.Proofs.YtlnoelbeaolikaaGreat
open Go.RowKit Go.Sort
/-- a lattice in a box of its own: its edges lie behind it, and nothing but the box has changed -/
def LtSt (N : Int) (q : Nat) (U : World) (L : List DEdge) (w : World) : Prop := ∃ u, Box w q #[.int .i64 N, u] 54 ∧ Own eEdge 89 (q + 1) w u L ∧ Chg q (q + 1) U w
theorem LtSt.below {N : Int} {q : Nat} {U : World} {L : List DEdge} {w w' : World} (h : LtSt N q U L w) (hb : Below w.heap.size w w') : LtSt N q U L w' := by
 obtain ⟨u, h1, h2, h3⟩ := h
 exact ⟨u, h1.later hb, h2.below hb, h3.trans (Chg.of_below hb)⟩
theorem LtSt.here {N : Int} {q : Nat} {U : World} {L : List DEdge} {w : World} (h : LtSt N q U L w) : LtSt N q w L w := by
 obtain ⟨u, h1, h2, _⟩ := h
 exact ⟨u, h1, h2, Chg.refl _ _ _⟩
theorem strokes_nest {lo hi : Nat} {w : World} {uo : Value} {vs : List SV} {Y : XInk} (h : NestG lo hi uo vs Y w) : Strokes w uo Y := strokes_at (rStrokeS.own_at h.own)
set_option maxRecDepth 100000 in
set_option maxHeartbeats 8000000 in
theorem l15Of_any (ps pi pt : Nat) (vs vi : Value) (x : XStore) (X : XInk) (q most : Nat) (pen : Int) (w : World) (s0 : w.cell? ⟨ps, 0, none⟩ = some (.int .i64 x.1)) (s1 : w.cell? ⟨ps, 1, none⟩ = some vs) (i0 : w.cell? ⟨pi, 0, none⟩ = some vi)
  (t0 : w.cell? ⟨pt, 0, none⟩ = some (.int .i64 (q + 1))) (t1 : w.cell? ⟨pt, 1, none⟩ = some (.int .i64 most)) (t2 : w.cell? ⟨pt, 2, none⟩ = some (.int .i64 pen))
  (hs : Tmps w vs x.2) (hi : Strokes w vi X) (ok : okInk X) (hvs : validStore x = true) (hvi : validInk X = true) (hq : 1 ≤ q) (hq2 : q ≤ 23) (hm : most ≤ 8) (hp0 : 0 ≤ pen) (hp1 : pen ≤ 1000) :
  Calls Tryz.prog 42 #[.pointer (some ⟨ps, 0, none⟩), .pointer (some ⟨pi, 0, none⟩), .pointer (some ⟨pt, 0, none⟩)] w (fun e w' => ∃ u, e = .returned (.agg #[.int .i64 ((X.length : Int) + 1), u]) ∧ Own eEdge 89 w.heap.size w' u (putTo (edgesTo x X q most pen (grpTo X.length X.length).length)) ∧ Below w.heap.size w w') := by
 have hX16 := validInk_len hvi
 obtain ⟨ia, ic, rfl⟩ := nest_sl hi
 have hGl : (grpTo X.length X.length).length ≤ 48 := by have := grpTo_len X.length X.length; omega
 have hGa : ∀ k g, (grpTo X.length X.length)[k]? = some g → ∃ f t : Nat, g = (⟨f, t⟩ : DGroup) ∧ f < t ∧ t ≤ X.length := fun k g h => grpTo_at (Nat.le_refl _) (List.mem_of_getElem? h)
 have hES := fun k g (h : (grpTo X.length X.length)[k]? = some g) => edgesTo_succ (x := x) (q := q) (most := most) (pen := pen) h
 have hEL := fun k (h : k ≤ (grpTo X.length X.length).length) => edgesTo_len (x := x) (X := X) (q := q) (pen := pen) hm k h
 have CG := fun w' => l14Groups_any X.length w' (by omega)
 obtain ⟨G, hG⟩ : ∃ G, G = grpTo X.length X.length := ⟨_, rfl⟩
 rw [← hG] at hGl hGa hES hEL CG ⊢
 have HGA := hid hGa
 have HES := hid hES
 have HEL := hid hEL
 have HG := hid hG
 obtain ⟨N, hN⟩ : ∃ N : Int, N = (X.length : Int) + 1 := ⟨_, rfl⟩
 have wN : IntKind.i64.wrap ((X.length : Int) + 1) = N := by rw [hN]; exact IntWalk.i64_in _ (by omega)
 rw [← hN]
 have HN := hid hN
 clear hGa hES hEL hG hN
 go_enter Tryz.func42, Tryz.ntmps42
 go_upto_region 1 with fail
 obtain ⟨w1, hw1⟩ : ∃ u, u = w.alloc (.cells #[.int .i64 0, .slice none 0 0] 54) := ⟨_, rfl⟩
 rw [← hw1]
 have hb1 : Below w.heap.size w w1 := by rw [hw1]; exact below_alloc _ _
 have b6 : Box w1 w.heap.size #[.int .i64 0, .slice none 0 0] 54 := by rw [hw1]; exact Box.new _ _ _
 have h61 := b6.lt
 clear hw1
 have i1 := cell_later hb1 i0
 go_upto_region 2 with fail
 obtain ⟨w2, hw2⟩ : ∃ u, u = w1.alloc (.cells #[.int .i64 N, .slice none 0 0] 54) := ⟨_, rfl⟩
 obtain ⟨r, hr⟩ : ∃ r, r = w1.heap.size := ⟨_, rfl⟩
 rw [← hw2, ← hr]
 have hb2 : Below w1.heap.size w1 w2 := by rw [hw2]; exact below_alloc _ _
 have b7 : Box w2 r #[.int .i64 N, .slice none 0 0] 54 := by rw [hw2, hr]; exact Box.new _ _ _
 have h72 := b7.lt
 have hwr : w.heap.size < r := by omega
 have hb12 := hb1.trans (hb2.mono (by omega))
 have h12s := hb2.size
 rw [← hr] at h12s
 clear hw2 hr h61
 have i2 := cell_later hb2 i1
 go_wp2_with fail
 refine (CG w2).mono ?_
 rintro e w3 ⟨ug, rfl, hoG, hb3⟩
 obtain ⟨ga, gc, hug⟩ := hoG.isSlice
 subst hug
 have hb13 := hb12.trans (hb3.mono hb12.size)
 have hL0 : LtSt N r w3 (putTo (edgesTo x X q most pen 0)) w3 := ⟨_, b7.later hb3, Own.nil _ _ _, Chg.refl _ _ _⟩
 have b63 := (b6.later hb2).later hb3
 have hGI := hoG.in_
 clear hoG CG b6 b7 i1 i2 hb1 hb2 hb3 hb12
 go_wp2_with fail
 go_loopw [9] (fun i wr => ∃ k : Nat, k ≤ G.length ∧ i = .int .i64 k ∧ LtSt N r w3 (putTo (edgesTo x X q most pen k)) wr) (fun i _ => G.length - (intOf i).toNat)
 case atStart => exact ⟨0, Nat.zero_le _, rfl, hL0⟩
 case round =>
  clear hL0
  obtain ⟨k, hk, rfl, hst⟩ := hrel
  have hst0 := hst
  obtain ⟨uE, hbx, hoE, hcg⟩ := hst
  have hbW : Below w.heap.size w wr := below_chg hb13 hcg (by omega)
  have hrl := hbx.lt
  by_cases hlt : k < G.length
  ·have hli : (k : Int) < (G.length : Int) := by omega
   obtain ⟨g, hg⟩ : ∃ g, G[k]? = some g := ⟨_, List.getElem?_eq_getElem hlt⟩
   obtain ⟨f, t, rfl, hft, htX⟩ := HGA.out k g hg
   have HE := hid (HES.out k _ hg)
   have hll := HEL.out k hk
   have hGr : Arr eGroup wr (.slice ga G.length gc) G := (hGI.chg hcg (.inl (by omega))).1.arr
   obtain ⟨gb, goff, gao, gcap, hgv, hgn, hgm, hga, hgc⟩ := hGr
   simp only [Value.slice.injEq] at hgv
   obtain ⟨rfl, _, rfl⟩ := hgv
   obtain ⟨hga', hgw⟩ := hga (by omega)
   subst hga'
   obtain ⟨d0, d1⟩ := eGroup_cells hgc hg
   simp only at d0 d1
   have c0 := cell_later hbW t0
   have hbz := Below.refl wr.heap.size wr
   have wA : IntKind.i64.wrap ((t : Int) - (f : Int)) = (t : Int) - f := IntWalk.i64_in _ (by omega)
   obtain ⟨P, hP⟩ : ∃ P, P = ((t : Int) - f) * ((q : Int) + 1) := ⟨_, rfl⟩
   have hPm : ((t : Int) - f) * ((q : Int) + 1) ≤ 16 * 24 := Int.mul_le_mul (by omega) (by omega) (by omega) (by omega)
   have hPn : 0 ≤ ((t : Int) - f) * ((q : Int) + 1) := Int.mul_nonneg (by omega) (by omega)
   have wB : IntKind.i64.wrap (((t : Int) - f) * ((q : Int) + 1)) = P := by rw [hP]; exact IntWalk.i64_in _ (by omega)
   have HP := hid hP
   clear hP hPm hPn hg hgc hga
   go_upto_region 7 with fail
   obtain ⟨w5, hw5⟩ : ∃ u, u = wr.alloc (.cells #[.int .i64 f, .int .i64 t] 86) := ⟨_, rfl⟩
   obtain ⟨pg, hpg⟩ : ∃ p, p = wr.heap.size := ⟨_, rfl⟩
   rw [← hw5, ← hpg]
   have hb5 : Below wr.heap.size wr w5 := by rw [hw5]; exact below_alloc _ _
   have bg : Box w5 pg #[.int .i64 f, .int .i64 t] 86 := by rw [hw5, hpg]; exact Box.new _ _ _
   have e0 := bg.cell (j := 0) rfl
   have e1 := bg.cell (j := 1) rfl
   have c5 := cell_later hb5 c0
   have hpr : r < pg := by omega
   have hb55 := Below.refl w5.heap.size w5
   clear hw5 hpg
   have x_e0 := ext_cell e0
   have x_e1 := ext_cell e1
   have x_c5 := ext_cell c5
   refine wp_region_ext (by kernel_rfl) (by kernel_rfl) ?_
   repeat (go_big_quiet_step (fail))
   refine wpQuiet_nil ?_
   intro _ hw'
   obtain ⟨nq, hw''⟩ := hw'
   subst hw''
   replace e0 := x_e0 nq
   replace e1 := x_e1 nq
   replace c5 := x_c5 nq
   clear x_e0 x_e1 x_c5
   replace hb55 := hb55.trans ((ext_below _ nq).mono hb55.size)
   obtain ⟨w6, hw6⟩ : ∃ u, u = ext w5 nq := ⟨_, rfl⟩
   rw [← hw6] at hb55 e0 e1 c5 ⊢
   clear hw6
   have hb6 := hb5.trans (hb55.mono hb5.size)
   have hst6 := hst0.below hb6
   have hbW6 := hbW.trans (hb6.mono hbW.size)
   have bg6 := bg.later hb55
   by_cases hP : P ≤ 72
   ·have hP2 : ¬ (72 < P) := by omega
    have hH : hypsG x X q most pen ⟨f, t⟩ = hypsI x (inkG X f t) q pen most := hypsG_t (by rw [← HP.out]; exact hP)
    rw [hH] at HE
    have hIl : (inkG X f t).length = t - f := inkG_len hft htX
    have hIv : validInk (inkG X f t) = true := validInk_sub hvi (inkG_sub X f t)
    have hIf : (inkG X f t).length * (q + 1) ≤ 72 := by
     rw [hIl]
     have h1 : (((t - f) * (q + 1) : Nat) : Int) = P := by rw [HP.out, Int.natCast_mul]; congr 1; omega
     omega
    have CI := l14Ink_any pi 0 _ X f t w6 (cell_later hbW6 i0) (hi.below hbW6) ok hvi hft htX
    obtain ⟨Y, hY⟩ : ∃ Y, Y = inkG X f t := ⟨_, rfl⟩
    have hYo : okInk Y := by rw [hY]; exact okInk_inkG ok
    unfold InkPost at CI
    rw [← hY] at CI HE hIl hIv hIf
    clear hH hY
    go_wp2_with fail
    refine CI.mono ?_
    rintro e w7 ⟨uo, vn, rfl, hn7, hb7⟩
    obtain ⟨oa, oc, huo⟩ := hn7.outer.1.isSlice
    have hlv : vn.length = Y.length := hn7.len
    rw [hlv] at huo
    subst huo
    have hSt7 := strokes_nest hn7
    have hY0 : 0 < Y.length := by omega
    clear CI hn7 hlv hIl
    go_upto_region 9 with fail
    obtain ⟨w8, hw8⟩ : ∃ u, u = w7.alloc (.cells #[.slice oa Y.length oc] 41) := ⟨_, rfl⟩
    obtain ⟨pk, hpk⟩ : ∃ p, p = w7.heap.size := ⟨_, rfl⟩
    rw [← hw8, ← hpk]
    have hb8 : Below w7.heap.size w7 w8 := by rw [hw8]; exact below_alloc _ _
    have bk : Box w8 pk #[.slice oa Y.length oc] 41 := by rw [hw8, hpk]; exact Box.new _ _ _
    clear hw8 hpk
    have hb68 := hb7.trans (hb8.mono hb7.size)
    have hbW8 := hbW6.trans (hb68.mono hbW6.size)
    have CH := l13Of_any ps pk pt vs _ x Y q most pen w8 (cell_later hbW8 s0) (cell_later hbW8 s1) (bk.cell (j := 0) rfl) (cell_later hbW8 t0) (cell_later hbW8 t1) (cell_later hbW8 t2) (hs.below hbW8) (hSt7.below hb8) hYo hvs hIv (by omega) hq hq2 hm hp0 hp1 hIf
    obtain ⟨H, hH⟩ : ∃ H, H = hypsI x Y q pen most := ⟨_, rfl⟩
    have hHl : H.length ≤ 8 := by rw [hH]; exact Nat.le_trans (hypsI_len _ _ _ _ _) hm
    rw [← hH] at CH HE
    clear hH bk
    go_wp2_with fail
    refine CH.mono ?_
    rintro e w9 ⟨uh, rfl, hoH, hb9⟩
    obtain ⟨ha, hc, huh⟩ := hoH.isSlice
    subst huh
    have hb69 := hb68.trans (hb9.mono hb68.size)
    have hst9 := (hst6.below hb69).here
    have bg9 := bg6.later hb69
    have hc39 : Chg r (r + 1) w3 w9 := hcg.trans ((Chg.of_below hb6).trans (Chg.of_below hb69))
    obtain ⟨LE, hLE⟩ : ∃ L, L = edgesTo x X q most pen k := ⟨_, rfl⟩
    rw [← hLE] at hst9 HE hll
    have hHI := hoH.in_
    have h98 : r + 1 ≤ w8.heap.size := by have := hb68.size; have := hb6.size; omega
    clear CH hLE hst0 hst6 hoH
    go_wp2_with fail
    go_loopw [13] (fun i wq => ∃ j : Nat, j ≤ H.length ∧ i = .int .i64 j ∧ LtSt N r w9 (putTo (edgesAt LE ⟨f, t⟩ H j)) wq) (fun i _ => H.length - (intOf i).toNat)
    case atStart => exact ⟨0, Nat.zero_le _, rfl, by rw [edgesAt_zero]; exact hst9⟩
    case round =>
     clear hst9
     obtain ⟨wq, rfl⟩ : ∃ u, u = wr := ⟨wr, rfl⟩
     obtain ⟨j, hj, rfl, uL, hbx, hoL, hcL⟩ := hrel
     by_cases hjl : j < H.length
     ·have hji : (j : Int) < (H.length : Int) := by omega
      obtain ⟨h, hh⟩ : ∃ h, H[j]? = some h := ⟨_, List.getElem?_eq_getElem hjl⟩
      have HT := hid (show insE ltE (putTo (edgesAt LE ⟨f, t⟩ H j)) (edgeOf ⟨f, t⟩ h) = putTo (edgesAt LE ⟨f, t⟩ H (j + 1)) by rw [putTo_push, edgesAt_push hh])
      have hlen : (putTo (edgesAt LE ⟨f, t⟩ H j)).length ≤ 1000 := by rw [putTo_len, edgesAt_len hj]; omega
      obtain ⟨la, co⟩ := h
      simp only [edgeOf] at HT
      have hHr : Arr eHyp wq (.slice ha H.length hc) H := (hHI.chg hcL (.inl h98)).1.arr
      obtain ⟨hb_, hoff, hao, hcap, hhv, hhn, hhm, hha, hhc⟩ := hHr
      simp only [Value.slice.injEq] at hhv
      obtain ⟨rfl, _, rfl⟩ := hhv
      obtain ⟨hha', hhw⟩ := hha (by omega)
      subst hha'
      obtain ⟨d0, d1⟩ := eHyp_cells hhc hh
      simp only at d0 d1
      have e0 := chg_cell hcL (bg9.cell (j := 0) rfl) (.inr (by omega))
      have e1 := chg_cell hcL (bg9.cell (j := 1) rfl) (.inr (by omega))
      obtain ⟨L, hL⟩ : ∃ L, L = putTo (edgesAt LE ⟨f, t⟩ H j) := ⟨_, rfl⟩
      rw [← hL] at hoL hlen HT
      obtain ⟨oa, oc, hu⟩ := hoL.isSlice
      subst hu
      obtain ⟨n, hn⟩ : ∃ n, n = L.length := ⟨_, rfl⟩
      have CP := fun w' (hb : Below wq.heap.size wq w') => l15Put_any _ L ⟨f, t, la, co⟩ w' (hoL.below hb).arr hlen
      rw [← hn] at hbx CP
      have HNL := hid (show (insE ltE L ⟨f, t, la, co⟩).length = n + 1 by rw [insE_len, hn])
      have a1 := hbx.cell (j := 1) rfl
      have hlq := hbx.lt
      clear hL hn hhc hha hh hoL hlen
      go_upto_region 13 with fail
      refine wp_region_stg 17 19 (fun c w' => match c with | 0 => Below wq.heap.size wq w' | 1 => (Box w' r #[.int .i64 N, .slice oa n oc] 54 ∧ Chg r (r + 1) wq w') | _ => LtSt N r w9 (insE ltE L ⟨f, t, la, co⟩) w') (fun c i v w' => match i with
            | 0 => v = .pointer (some ⟨r, 1, none⟩)
            | 1 => v = .slice oa n oc
            | 2 => v = .pointer (some ⟨pg, 0, none⟩)
            | 3 => v = .int .i64 f
            | 4 => v = .pointer (some ⟨pg, 1, none⟩)
            | 5 => v = .int .i64 t
            | 6 => v = .slice (some ⟨hb_, hoff, none⟩) H.length hc
            | 7 => v = .int .i64 j
            | 8 => v = .pointer (some ⟨hb_, hoff + j * 2, none⟩)
            | 9 => v = .pointer (some ⟨hb_, hoff + j * 2, none⟩)
            | 10 => v = .string la
            | 11 => v = .slice (some ⟨hb_, hoff, none⟩) H.length hc
            | 12 => v = .int .i64 j
            | 13 => v = .pointer (some ⟨hb_, hoff + j * 2, none⟩)
            | 14 => v = .pointer (some ⟨hb_, hoff + j * 2 + 1, none⟩)
            | 15 => v = .int .i64 co
            | 16 => v = .agg #[.int .i64 f, .int .i64 t, .string la, .int .i64 co]
            | 17 => (match c with | 0 => True | 1 => (Own eEdge 89 (r + 1) w' v (insE ltE L ⟨f, t, la, co⟩)) | _ => True)
            | 18 => v = .pointer (some ⟨r, 1, none⟩)
            | 19 => (match c with | 0 => True | 1 => True | _ => True)
            | _ => True) (by kernel_rfl) (by kernel_rfl) (by kernel_rfl) (by kernel_rfl) (by kernel_rfl) ?_ ?_ ?_ ?_ ?_ ?_ (by decide) ?_
      ·exact (Below.refl _ wq).drew
      ·intro c w w' h hb
       match c, h with
       | 0, h => exact Below.trans (B := wq.heap.size) h (hb.mono (Below.size h))
       | 1, h => exact ⟨h.1.later hb, h.2.trans (Chg.of_below hb)⟩
       | (k + 2), h => exact (LtSt.below h hb)
      ·intro c i v w w' h hb
       match i, h with
       | 0, h => exact h
       | 1, h => exact h
       | 2, h => exact h
       | 3, h => exact h
       | 4, h => exact h
       | 5, h => exact h
       | 6, h => exact h
       | 7, h => exact h
       | 8, h => exact h
       | 9, h => exact h
       | 10, h => exact h
       | 11, h => exact h
       | 12, h => exact h
       | 13, h => exact h
       | 14, h => exact h
       | 15, h => exact h
       | 16, h => exact h
       | 17, h =>
        match c, h with
        | 0, h => exact trivial
        | 1, h => exact h.below hb
        | (k + 2), h => exact trivial
       | 18, h => exact h
       | 19, h =>
        match c, h with
        | 0, h => exact trivial
        | 1, h => exact trivial
        | (k + 2), h => exact trivial
       | (k + 20), h => exact h
      ·refine ⟨?_, ?_, ?_, ?_, ?_, ?_, ?_, ?_, ?_, ?_, ?_, ?_, ?_, ?_, ?_, ?_, ?_, ?_, ?_, ?_, trivial⟩
       ·refine .inr (.inr ⟨fun _ => ?_, can_no (by kernel_rfl), can_no (by kernel_rfl)⟩)
        ·intro ρ w' hbw ht hcs hfn hgl hdep G hG
         replace hbw : Below wq.heap.size wq w' := hbw
         refine ⟨fun _ => ?_, fun h => by cases h⟩
         have s7 : ρ (.tmp 7) = .pointer (some ⟨r, 0, none⟩) := ht 7 rfl
         clear ht hdep hgl
         go_simp
         exact hG _ _ (Below.refl _ _) rfl
       ·refine .inr (.inr ⟨fun _ => ?_, can_no (by kernel_rfl), can_no (by kernel_rfl)⟩)
        ·intro ρ w' hbw ht hcs hfn hgl hdep G hG
         replace hbw : Below wq.heap.size wq w' := hbw
         refine ⟨fun _ => ?_, fun h => by cases h⟩
         have s60 : ρ (.tmp 60) = .pointer (some ⟨r, 1, none⟩) := hdep ⟨0, .data⟩ (by simp) rfl 60 rfl
         have a1 := cell_later hbw a1
         have e0 := cell_later hbw e0
         have e1 := cell_later hbw e1
         have d0 := cell_later hbw d0
         have d1 := cell_later hbw d1
         clear ht hdep hgl
         go_simp
         exact hG _ _ (Below.refl _ _) rfl
       ·refine .inr (.inr ⟨fun _ => ?_, can_no (by kernel_rfl), can_no (by kernel_rfl)⟩)
        ·intro ρ w' hbw ht hcs hfn hgl hdep G hG
         replace hbw : Below wq.heap.size wq w' := hbw
         refine ⟨fun _ => ?_, fun h => by cases h⟩
         have s10 : ρ (.tmp 10) = .pointer (some ⟨pg, 0, none⟩) := ht 10 rfl
         clear ht hdep hgl
         go_simp
         exact hG _ _ (Below.refl _ _) rfl
       ·refine .inr (.inr ⟨fun _ => ?_, can_no (by kernel_rfl), can_no (by kernel_rfl)⟩)
        ·intro ρ w' hbw ht hcs hfn hgl hdep G hG
         replace hbw : Below wq.heap.size wq w' := hbw
         refine ⟨fun _ => ?_, fun h => by cases h⟩
         have s62 : ρ (.tmp 62) = .pointer (some ⟨pg, 0, none⟩) := hdep ⟨2, .data⟩ (by simp) rfl 62 rfl
         have a1 := cell_later hbw a1
         have e0 := cell_later hbw e0
         have e1 := cell_later hbw e1
         have d0 := cell_later hbw d0
         have d1 := cell_later hbw d1
         clear ht hdep hgl
         go_simp
         exact hG _ _ (Below.refl _ _) rfl
       ·refine .inr (.inr ⟨fun _ => ?_, can_no (by kernel_rfl), can_no (by kernel_rfl)⟩)
        ·intro ρ w' hbw ht hcs hfn hgl hdep G hG
         replace hbw : Below wq.heap.size wq w' := hbw
         refine ⟨fun _ => ?_, fun h => by cases h⟩
         have s10 : ρ (.tmp 10) = .pointer (some ⟨pg, 0, none⟩) := ht 10 rfl
         clear ht hdep hgl
         go_simp
         exact hG _ _ (Below.refl _ _) rfl
       ·refine .inr (.inr ⟨fun _ => ?_, can_no (by kernel_rfl), can_no (by kernel_rfl)⟩)
        ·intro ρ w' hbw ht hcs hfn hgl hdep G hG
         replace hbw : Below wq.heap.size wq w' := hbw
         refine ⟨fun _ => ?_, fun h => by cases h⟩
         have s64 : ρ (.tmp 64) = .pointer (some ⟨pg, 1, none⟩) := hdep ⟨4, .data⟩ (by simp) rfl 64 rfl
         have a1 := cell_later hbw a1
         have e0 := cell_later hbw e0
         have e1 := cell_later hbw e1
         have d0 := cell_later hbw d0
         have d1 := cell_later hbw d1
         clear ht hdep hgl
         go_simp
         exact hG _ _ (Below.refl _ _) rfl
       ·refine .inr (.inr ⟨fun _ => ?_, can_no (by kernel_rfl), can_no (by kernel_rfl)⟩)
        ·intro ρ w' hbw ht hcs hfn hgl hdep G hG
         replace hbw : Below wq.heap.size wq w' := hbw
         refine ⟨fun _ => ?_, fun h => by cases h⟩
         have s12 : ρ (.tmp 12) = .slice (some ⟨hb_, hoff, none⟩) H.length hc := ht 12 rfl
         clear ht hdep hgl
         go_simp
         exact hG _ _ (Below.refl _ _) rfl
       ·refine .inr (.inr ⟨fun _ => ?_, can_no (by kernel_rfl), can_no (by kernel_rfl)⟩)
        ·intro ρ w' hbw ht hcs hfn hgl hdep G hG
         replace hbw : Below wq.heap.size wq w' := hbw
         refine ⟨fun _ => ?_, fun h => by cases h⟩
         have s13 : ρ (.tmp 13) = .int .i64 j := ht 13 rfl
         clear ht hdep hgl
         go_simp
         exact hG _ _ (Below.refl _ _) rfl
       ·refine .inr (.inr ⟨fun _ => ?_, can_no (by kernel_rfl), can_no (by kernel_rfl)⟩)
        ·intro ρ w' hbw ht hcs hfn hgl hdep G hG
         replace hbw : Below wq.heap.size wq w' := hbw
         refine ⟨fun _ => ?_, fun h => by cases h⟩
         have s66 : ρ (.tmp 66) = .slice (some ⟨hb_, hoff, none⟩) H.length hc := hdep ⟨6, .data⟩ (by simp) rfl 66 rfl
         have s67 : ρ (.tmp 67) = .int .i64 j := hdep ⟨7, .data⟩ (by simp) rfl 67 rfl
         clear ht hdep hgl
         go_simp
         exact hG _ _ (Below.refl _ _) rfl
       ·refine .inr (.inr ⟨fun _ => ?_, can_no (by kernel_rfl), can_no (by kernel_rfl)⟩)
        ·intro ρ w' hbw ht hcs hfn hgl hdep G hG
         replace hbw : Below wq.heap.size wq w' := hbw
         refine ⟨fun _ => ?_, fun h => by cases h⟩
         have s68 : ρ (.tmp 68) = .pointer (some ⟨hb_, hoff + j * 2, none⟩) := hdep ⟨8, .data⟩ (by simp) rfl 68 rfl
         clear ht hdep hgl
         go_simp
         exact hG _ _ (Below.refl _ _) rfl
       ·refine .inr (.inr ⟨fun _ => ?_, can_no (by kernel_rfl), can_no (by kernel_rfl)⟩)
        ·intro ρ w' hbw ht hcs hfn hgl hdep G hG
         replace hbw : Below wq.heap.size wq w' := hbw
         refine ⟨fun _ => ?_, fun h => by cases h⟩
         have s69 : ρ (.tmp 69) = .pointer (some ⟨hb_, hoff + j * 2, none⟩) := hdep ⟨9, .data⟩ (by simp) rfl 69 rfl
         have a1 := cell_later hbw a1
         have e0 := cell_later hbw e0
         have e1 := cell_later hbw e1
         have d0 := cell_later hbw d0
         have d1 := cell_later hbw d1
         clear ht hdep hgl
         go_simp
         exact hG _ _ (Below.refl _ _) rfl
       ·refine .inr (.inr ⟨fun _ => ?_, can_no (by kernel_rfl), can_no (by kernel_rfl)⟩)
        ·intro ρ w' hbw ht hcs hfn hgl hdep G hG
         replace hbw : Below wq.heap.size wq w' := hbw
         refine ⟨fun _ => ?_, fun h => by cases h⟩
         have s12 : ρ (.tmp 12) = .slice (some ⟨hb_, hoff, none⟩) H.length hc := ht 12 rfl
         clear ht hdep hgl
         go_simp
         exact hG _ _ (Below.refl _ _) rfl
       ·refine .inr (.inr ⟨fun _ => ?_, can_no (by kernel_rfl), can_no (by kernel_rfl)⟩)
        ·intro ρ w' hbw ht hcs hfn hgl hdep G hG
         replace hbw : Below wq.heap.size wq w' := hbw
         refine ⟨fun _ => ?_, fun h => by cases h⟩
         have s13 : ρ (.tmp 13) = .int .i64 j := ht 13 rfl
         clear ht hdep hgl
         go_simp
         exact hG _ _ (Below.refl _ _) rfl
       ·refine .inr (.inr ⟨fun _ => ?_, can_no (by kernel_rfl), can_no (by kernel_rfl)⟩)
        ·intro ρ w' hbw ht hcs hfn hgl hdep G hG
         replace hbw : Below wq.heap.size wq w' := hbw
         refine ⟨fun _ => ?_, fun h => by cases h⟩
         have s71 : ρ (.tmp 71) = .slice (some ⟨hb_, hoff, none⟩) H.length hc := hdep ⟨11, .data⟩ (by simp) rfl 71 rfl
         have s72 : ρ (.tmp 72) = .int .i64 j := hdep ⟨12, .data⟩ (by simp) rfl 72 rfl
         clear ht hdep hgl
         go_simp
         exact hG _ _ (Below.refl _ _) rfl
       ·refine .inr (.inr ⟨fun _ => ?_, can_no (by kernel_rfl), can_no (by kernel_rfl)⟩)
        ·intro ρ w' hbw ht hcs hfn hgl hdep G hG
         replace hbw : Below wq.heap.size wq w' := hbw
         refine ⟨fun _ => ?_, fun h => by cases h⟩
         have s73 : ρ (.tmp 73) = .pointer (some ⟨hb_, hoff + j * 2, none⟩) := hdep ⟨13, .data⟩ (by simp) rfl 73 rfl
         clear ht hdep hgl
         go_simp
         exact hG _ _ (Below.refl _ _) rfl
       ·refine .inr (.inr ⟨fun _ => ?_, can_no (by kernel_rfl), can_no (by kernel_rfl)⟩)
        ·intro ρ w' hbw ht hcs hfn hgl hdep G hG
         replace hbw : Below wq.heap.size wq w' := hbw
         refine ⟨fun _ => ?_, fun h => by cases h⟩
         have s74 : ρ (.tmp 74) = .pointer (some ⟨hb_, hoff + j * 2 + 1, none⟩) := hdep ⟨14, .data⟩ (by simp) rfl 74 rfl
         have a1 := cell_later hbw a1
         have e0 := cell_later hbw e0
         have e1 := cell_later hbw e1
         have d0 := cell_later hbw d0
         have d1 := cell_later hbw d1
         clear ht hdep hgl
         go_simp
         exact hG _ _ (Below.refl _ _) rfl
       ·refine .inr (.inr ⟨fun _ => ?_, can_no (by kernel_rfl), can_no (by kernel_rfl)⟩)
        ·intro ρ w' hbw ht hcs hfn hgl hdep G hG
         replace hbw : Below wq.heap.size wq w' := hbw
         refine ⟨fun _ => ?_, fun h => by cases h⟩
         have s63 : ρ (.tmp 63) = .int .i64 f := hdep ⟨3, .data⟩ (by simp) rfl 63 rfl
         have s65 : ρ (.tmp 65) = .int .i64 t := hdep ⟨5, .data⟩ (by simp) rfl 65 rfl
         have s70 : ρ (.tmp 70) = .string la := hdep ⟨10, .data⟩ (by simp) rfl 70 rfl
         have s75 : ρ (.tmp 75) = .int .i64 co := hdep ⟨15, .data⟩ (by simp) rfl 75 rfl
         clear ht hdep hgl
         go_simp
         exact hG _ _ (Below.refl _ _) rfl
       ·exact .inl rfl
       ·refine .inr (.inr ⟨fun _ => ?_, fun _ => ?_, can_no (by kernel_rfl)⟩)
        ·intro ρ w' hbw ht hcs hfn hgl hdep G hG
         replace hbw : Below wq.heap.size wq w' := hbw
         refine ⟨fun _ => ?_, fun h => by cases h⟩
         have s7 : ρ (.tmp 7) = .pointer (some ⟨r, 0, none⟩) := ht 7 rfl
         clear ht hdep hgl
         go_simp
         exact hG _ _ (Below.refl _ _) rfl
        ·intro ρ w' hbw ht hcs hfn hgl hdep G hG
         replace hbw : (Box w' r #[.int .i64 N, .slice oa n oc] 54 ∧ Chg r (r + 1) wq w') := hbw
         refine ⟨fun _ => ?_, fun h => by cases h⟩
         have s7 : ρ (.tmp 7) = .pointer (some ⟨r, 0, none⟩) := ht 7 rfl
         clear ht hdep hgl
         go_simp
         exact hG _ _ (Below.refl _ _) rfl
       ·exact .inr (.inl rfl)
      ·intro o ho
       obtain rfl := Option.some.inj ho
       intro ρ w' hbw ht hcs hfn hgl hdep G hG
       replace hbw : Below wq.heap.size wq w' := hbw
       refine ⟨fun _ => ?_, fun h => by cases h⟩
       have s61 : ρ (.tmp 61) = .slice oa n oc := hdep ⟨1, .data⟩ (by simp) rfl 61 rfl
       have s76 : ρ (.tmp 76) = .agg #[.int .i64 f, .int .i64 t, .string la, .int .i64 co] := hdep ⟨16, .data⟩ (by simp) rfl 76 rfl
       clear ht hdep hgl
       go_simp
       refine (CP w' hbw).mono fun e w'' ⟨u, he, ho, hb⟩ => ⟨_, he, hG _ _ ⟨hbx.later (hbw.trans (hb.mono hbw.size)), Chg.of_below (hbw.trans (hb.mono hbw.size))⟩ (ho.mono (by have := hbw.size; omega)) ?_⟩
       intro j u hj hne h
       match j, h with
       | 0, h => exact h
       | 1, h => exact h
       | 2, h => exact h
       | 3, h => exact h
       | 4, h => exact h
       | 5, h => exact h
       | 6, h => exact h
       | 7, h => exact h
       | 8, h => exact h
       | 9, h => exact h
       | 10, h => exact h
       | 11, h => exact h
       | 12, h => exact h
       | 13, h => exact h
       | 14, h => exact h
       | 15, h => exact h
       | 16, h => exact h
       | 17, h => exact absurd rfl hne
       | 18, h => exact h
       | 19, h => exact trivial
       | (k + 20), h => exact h
      ·intro o ho
       obtain rfl := Option.some.inj ho
       intro ρ w' hbw ht hcs hfn hgl hdep G hG
       replace hbw : (Box w' r #[.int .i64 N, .slice oa n oc] 54 ∧ Chg r (r + 1) wq w') := hbw
       refine ⟨fun _ => ?_, fun h => by cases h⟩
       have s78 : ρ (.tmp 78) = .pointer (some ⟨r, 1, none⟩) := hdep ⟨18, .data⟩ (by simp) rfl 78 rfl
       have d77 := hdep ⟨17, .data⟩ (by simp) rfl 77 rfl
       clear ht hdep hgl
       have f0 := hbw.1.cell (j := 1) rfl
       have ff := hbw.1.free
       obtain ⟨ua, uc, hu⟩ := d77.isSlice
       rw [HNL.out] at hu
       rw [hu] at d77
       have hx := hid (show LtSt N r w9 (insE ltE L ⟨f, t, la, co⟩) (w'.setCell ⟨r, 1, none⟩ (.slice ua (n + 1) uc)) from ⟨_, hbw.1.set 1 _, d77.setBelow (a := ⟨r, 1, none⟩) (Nat.lt_succ_self r) _, (hcL.trans hbw.2).trans (chg_set w' r 1 _)⟩)
       clear d77
       go_simp
       refine hG _ _ hx.out trivial ?_
       intro j u hj hne h
       match j, h with
       | 0, h => exact h
       | 1, h => exact h
       | 2, h => exact h
       | 3, h => exact h
       | 4, h => exact h
       | 5, h => exact h
       | 6, h => exact h
       | 7, h => exact h
       | 8, h => exact h
       | 9, h => exact h
       | 10, h => exact h
       | 11, h => exact h
       | 12, h => exact h
       | 13, h => exact h
       | 14, h => exact h
       | 15, h => exact h
       | 16, h => exact h
       | 17, h => exact trivial
       | 18, h => exact h
       | 19, h => exact trivial
       | (k + 20), h => exact h
      intro xx w6 hF hx
      clear hx
      simp only [putAll, Act.put, List.setIfInBounds_toArray, List.set_cons_succ, List.set_cons_zero, Nat.zero_add, Nat.reduceAdd]
      go_wp2_with fail
      go_roundw
      case rel => exact ⟨j + 1, by omega, by go_num, by rw [← HT.out]; exact hF⟩
      case measure => simp [intOf]; omega
     ·have hji : ¬ ((j : Int) < (H.length : Int)) := by omega
      obtain rfl : j = H.length := by omega
      have hend : LtSt N r w3 (putTo (edgesTo x X q most pen (k + 1))) wq := by
       rw [HE.out, ← edgesAt_all]
       exact ⟨uL, hbx, hoL, hc39.trans hcL⟩
      clear hoL hbx
      go_wp2_with fail
      go_roundw
      case rel => exact ⟨k + 1, by omega, by go_num, hend⟩
      case measure => simp [intOf]; omega
   ·have hP2 : 72 < P := by omega
    have hH : hypsG x X q most pen ⟨f, t⟩ = [] := hypsG_f (by rw [← HP.out]; exact hP)
    have hend : LtSt N r w3 (putTo (edgesTo x X q most pen (k + 1))) w6 := by
     rw [HE.out, hH, List.map_nil, List.append_nil]
     exact hst6
    clear hst6 hst0
    go_wp2_with fail
    go_roundw
    case rel => exact ⟨k + 1, by omega, by go_num, hend⟩
    case measure => simp [intOf]; omega
  ·have hli : ¬ ((k : Int) < (G.length : Int)) := by omega
   obtain rfl : k = G.length := by omega
   obtain ⟨L, hL⟩ : ∃ L, L = putTo (edgesTo x X q most pen G.length) := ⟨_, rfl⟩
   rw [← hL] at hoE
   have HL := hid hL
   obtain ⟨oa, oc, hu⟩ := hoE.isSlice
   subst hu
   have a0 := hbx.cell (j := 0) rfl
   have a1 := hbx.cell (j := 1) rfl
   have b6r : Box wr w.heap.size #[.int .i64 0, .slice none 0 0] 54 := (hcg.block _ b63.lt (.inl hwr)).trans b63
   have z0 := b6r.cell (j := 0) rfl
   have z1 := b6r.cell (j := 1) rfl
   have bf := b6r.free
   clear hL hst0
   go_wp2_with fail
   refine bodyPost_ret (v := .agg #[.int .i64 N, .slice oa L.length oc]) (by simp [results, Tryz.results42, go_sem, z0, z1]) rfl ⟨_, rfl, ?_, ?_⟩
   ·rw [← HL.out]
    exact ((hoE.setBelow (a := ⟨w.heap.size, 0, none⟩) (by show w.heap.size < r + 1; omega) _).setBelow (a := ⟨w.heap.size, 1, none⟩) (by show w.heap.size < r + 1; omega) _).mono (by omega)
   ·exact (hbW.setCell (Nat.le_refl _) _).setCell (Nat.le_refl _) _
end Go.Proofs.YtlnoelbeaolikaaGreat
