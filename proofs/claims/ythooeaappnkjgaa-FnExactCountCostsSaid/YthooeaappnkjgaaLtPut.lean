/- The reference's insertion of an edge. -/
import Derived.Test.YthooeaappnkjgaaLtAdd
namespace Go.Proofs.Ythooeaappnkjgaa
open Go.RowKit Go.Sort
attribute [local go_sem ↓] Go.wp_at_zero Go.wp_at_succ
theorem arrS_drop {α : Type} {E : Enc α} {w : World} {ao : Option Addr} {n m c : Nat} {xs : List α} (h : Arr E w (.slice ao n c) xs) (hm : m ≤ n) :
    Arr E w (.slice (if c = m then ao else ao.map (·.add (m * E.sz))) (n - m) (c - m)) (xs.drop m) := by
  obtain ⟨b, off, ao', cap, hv, h1, h2, h3, h4⟩ := h
  simp only [Value.slice.injEq] at hv
  obtain ⟨rfl, rfl, rfl⟩ := hv
  by_cases hc : c = m
  · refine ⟨b, off, _, c - m, by rw [List.length_drop], by rw [List.length_drop]; omega, by omega, fun h0 => by rw [List.length_drop] at h0; omega, fun k x hx => ?_⟩
    have := (List.getElem?_eq_some_iff.1 hx).1
    rw [List.length_drop] at this; omega
  · refine ⟨b, off + m * E.sz, _, c - m, by rw [List.length_drop], by rw [List.length_drop]; omega, by omega, fun h0 => ?_, fun k x hx j u hu => ?_⟩
    · rw [List.length_drop] at h0
      have h5 := h3 (by omega)
      rw [if_neg hc, h5.1]
      exact ⟨by rw [Option.map_some, Addr.add_lit], h5.2⟩
    · rw [List.getElem?_drop] at hx
      have h5 := h4 (m + k) x hx j u hu
      rw [show off + (m + k) * E.sz + j = off + m * E.sz + k * E.sz + j by rw [Nat.add_mul]; omega] at h5
      exact h5
theorem arrT_drop {w : World} {b off n c k : Nat} {xs : List DEdge} (h : Arr eEdge w (.slice (some ⟨b, off, none⟩) n c) xs) (hm : k ≤ n) :
    Arr eEdge w (.slice (if c = k then some ⟨b, off, none⟩ else some ⟨b, off + k * 4, none⟩) (n - k) (c - k)) (xs.drop k) := by
  have h1 := arrS_drop h hm
  rw [Option.map_some, Addr.add_lit] at h1
  exact h1
theorem arr_any {α : Type} {E : Enc α} {w : World} {A : Option Addr} {n c : Nat} {xs : List α} (hn : n = xs.length) (h0 : n = 0) (hc : n ≤ c) (hm : c ≤ maxLen) : Arr E w (.slice A n c) xs := by
  subst h0
  have hx : xs = [] := List.length_eq_zero_iff.1 hn.symm
  subst hx
  exact ⟨0, 0, A, c, rfl, hc, hm, fun h => by simp at h, fun k x hx => by simp at hx⟩
set_option maxHeartbeats 8000000 in
set_option maxRecDepth 100000 in
theorem l15Put_any (v : Value) (x : List DEdge) (e : DEdge) (w : World) (h : Arr eEdge w v x) (ok : x.length ≤ 1000) :
    Calls Try.prog 28 #[v, .agg #[.int .i64 e.frm, .int .i64 e.to_, .string e.label, .int .i64 e.cost]] w fun en w' => ∃ u, en = .returned u ∧ Own eEdge 35 w.heap.size w' u (insE ltE x e) ∧ Below w.heap.size w w' := by
  have hA0 := h
  obtain ⟨b, off, ao, cap, rfl, hnc, hcm, hao, hc⟩ := h
  unfold maxLen at hcm
  obtain ⟨fe, te, la, co⟩ := e
  obtain ⟨W, hW⟩ : ∃ W, W = w.alloc (.cells #[.int .i64 fe, .int .i64 te, .string la, .int .i64 co] 35) := ⟨_, rfl⟩
  have hbx : Below w.heap.size w W := by rw [hW]; exact below_alloc _ _
  obtain ⟨p, hp⟩ : ∃ p, p = w.heap.size := ⟨_, rfl⟩
  have z0 : W.cell? ⟨p, 0, none⟩ = some (.int .i64 fe) := by rw [hW, hp]; simp
  have z1 : W.cell? ⟨p, 1, none⟩ = some (.int .i64 te) := by rw [hW, hp]; simp
  have z2 : W.cell? ⟨p, 2, none⟩ = some (.string la) := by rw [hW, hp]; simp
  have z3 : W.cell? ⟨p, 3, none⟩ = some (.int .i64 co) := by rw [hW, hp]; simp
  have HW := hid hW
  have HP := hid hp
  clear hW hp
  go_enter Try.func28, Try.ntmps28
  go_wp2_with fail
  rw [← HW.out, ← HP.out]
  go_loopw [5] (fun i wr => ∃ k : Nat, k ≤ x.length ∧ i = .int .i64 k ∧ Below W.heap.size W wr ∧ Hid (posE ltE ⟨fe, te, la, co⟩ x x.length = posE ltE ⟨fe, te, la, co⟩ x k)) (fun i _ => (intOf i).toNat)
  case atStart => exact ⟨x.length, Nat.le_refl _, rfl, Below.refl _ _, hid rfl⟩
  case round =>
    obtain ⟨k, hk, rfl, hb, HPP⟩ := hrel
    have y0 := cell_later hb z0
    have y1 := cell_later hb z1
    have y2 := cell_later hb z2
    have y3 := cell_later hb z3
    have hbw2 := hbx.trans (hb.mono hbx.size)
    by_cases hk0 : 0 < k
    · have hki : (0 : Int) < (k : Int) := by omega
      have hk1 : (0 : Int) ≤ (k : Int) - 1 := by omega
      have hk2 : (k : Int) - 1 < (x.length : Int) := by omega
      have et : ((k : Int) - 1).toNat = k - 1 := by omega
      obtain ⟨hao', hbw⟩ := hao (by omega)
      subst hao'
      obtain ⟨a, ha⟩ : ∃ a, x[k - 1]? = some a := ⟨_, List.getElem?_eq_getElem (by omega)⟩
      obtain ⟨c0, c1, c2, c3⟩ := eEdge_cells (hc.below hbw2 hbw) ha
      have HST : Hid (posE ltE ⟨fe, te, la, co⟩ x k = if ltE ⟨fe, te, la, co⟩ a = true then posE ltE ⟨fe, te, la, co⟩ x (k - 1) else k) := hid (by
        obtain ⟨k', rfl⟩ : ∃ k', k = k' + 1 := ⟨k - 1, by omega⟩
        rw [Nat.add_sub_cancel] at ha ⊢
        rw [posE, ha])
      clear ha hao
      have CM := l15Order_any b (off + (k - 1) * 4) p 0 a ⟨fe, te, la, co⟩
      cases hl : ltE ⟨fe, te, la, co⟩ a
      · have hoi : ordE a ⟨fe, te, la, co⟩ ≤ 0 := by
          unfold ltE at hl
          rw [decide_eq_false_iff_not, ← ordE_anti] at hl; omega
        have hod : decide (0 < ordE a ⟨fe, te, la, co⟩) = false := by simp; omega
        have HPOS : Hid (posE ltE ⟨fe, te, la, co⟩ x x.length = k) := hid (by rw [HPP.out, HST.out, hl]; rfl)
        clear hl
        go_wp2_with fail
        refine (CM wr c0 c1 c2 y0 y1 y2).mono ?_
        rintro en WN ⟨rfl, hb5⟩
        replace hb := hb.trans (hb5.mono hb.size)
        have HB := hb
        have hA1 := (hA0.below hbx).below HB
        have HINS : Hid (insE ltE x ⟨fe, te, la, co⟩ = x.take k ++ ⟨fe, te, la, co⟩ :: x.drop k) := hid (by unfold insE; rw [HPOS.out])
        have F0 := cell_later HB z0
        have F1 := cell_later HB z1
        have F2 := cell_later HB z2
        have F3 := cell_later HB z3
        clear HPOS HPP hb c0 c1 c2 y0 y1 y2 y3
        have hbN : Below w.heap.size w WN := hbx.trans (HB.mono hbx.size)
        have hsN := hbN.size
        have hpl := cell_lt F0
        go_wp2_with (at_builtin; refine wpList_appA rfl _ _ 29 rfl WN.heap.size 35 _ 40 infEdge Try.underlying29 rfl _ [] (by rfl) (Own.empty _ _ (Nat.le_refl _)) _ (x.take k) (by rfl) ((arrA_take hA1 hk).below (below_alloc _ _)) (by unfold maxLen; simp <;> omega) (by simp <;> omega) (by simp) ?_)
        intro v1 w1 ho1 hb1 _
        have HB1 : Below WN.heap.size WN w1 := (below_alloc _ _).trans hb1
        have G0 := cell_later HB1 F0
        have G1 := cell_later HB1 F1
        have G2 := cell_later HB1 F2
        have G3 := cell_later HB1 F3
        have z1 := HB1.size
        go_wp2_with (at_builtin; refine wpList_appA rfl _ _ 29 rfl WN.heap.size 35 _ 40 infEdge Try.underlying29 rfl _ (x.take k) (by rfl) (ho1.alloc _) _ [(⟨fe, te, la, co⟩ : DEdge)] (by rfl) (arr_block (E := eEdge) (n := 1) [(⟨fe, te, la, co⟩ : DEdge)] #[.int .i64 fe, .int .i64 te, .string la, .int .i64 co] rfl rfl (maxLen_ge (Nat.le_of_ble_eq_true rfl))) (by unfold maxLen; simp <;> omega) (by simp <;> omega) (by simp <;> omega) ?_)
        intro v2 w2 ho2 hb2 _
        have HB2 : Below WN.heap.size WN w2 := (HB1.alloc z1 _).trans hb2
        have hA2 := hA1.below HB2
        have z2 := HB2.size
        go_wp2_with (at_builtin; refine wpList_appA rfl _ _ 29 rfl WN.heap.size 35 _ 40 infEdge Try.underlying29 rfl _ (x.take k ++ [(⟨fe, te, la, co⟩ : DEdge)]) (by rfl) ho2 _ (x.drop k) (by rfl) (by first | exact arrT_drop hA2 hk | exact arrS_drop hA2 hk | (have hD := arrS_drop hA2 hk; rw [if_pos rfl] at hD; exact hD) | (have hD := arrS_drop hA2 hk; rw [if_neg (by assumption)] at hD; exact hD) | (have hD := arrS_drop hA2 hk; simpa using hD)) (by unfold maxLen; simp <;> omega) (by simp <;> omega) (by omega) ?_)
        all_goals intro v3 w3 ho3 hb3 _
        all_goals go_wp2_with fail
        all_goals go_ret
        all_goals exact ⟨_, rfl, by rw [HINS.out]; exact ho3.mono hsN, hbN.trans ((HB2.trans hb3).mono hsN)⟩
      · have hoi : 0 < ordE a ⟨fe, te, la, co⟩ := by
          rw [ordE_anti]; unfold ltE at hl; simpa using hl
        have HPO : Hid (posE ltE ⟨fe, te, la, co⟩ x x.length = posE ltE ⟨fe, te, la, co⟩ x (k - 1)) := hid (by rw [HPP.out, HST.out, hl]; rfl)
        clear hl
        go_wp2_with fail
        refine (CM wr c0 c1 c2 y0 y1 y2).mono ?_
        rintro en WN ⟨rfl, hb5⟩
        replace hb := hb.trans (hb5.mono hb.size)
        go_wp2_with fail
        go_roundw
        case rel => exact ⟨k - 1, by omega, by go_num, hb, HPO⟩
        case measure => simp [intOf]; omega
    · obtain rfl : k = 0 := by omega
      have hki : ¬ ((0 : Int) < ((0 : Nat) : Int)) := by omega
      have HPOS : Hid (posE ltE ⟨fe, te, la, co⟩ x x.length = 0) := hid (by rw [HPP.out]; rfl)
      obtain ⟨WN, hWN⟩ : ∃ WN, WN = wr := ⟨_, rfl⟩
      subst hWN
      by_cases hx0 : x.length = 0
      · have HB := hb
        have hA1 := (hA0.below hbx).below HB
        have HINS : Hid (insE ltE x ⟨fe, te, la, co⟩ = x.take 0 ++ ⟨fe, te, la, co⟩ :: x.drop 0) := hid (by unfold insE; rw [HPOS.out])
        have F0 := cell_later HB z0
        have F1 := cell_later HB z1
        have F2 := cell_later HB z2
        have F3 := cell_later HB z3
        clear HPOS HPP hb y0 y1 y2 y3
        have hbN : Below w.heap.size w WN := hbx.trans (HB.mono hbx.size)
        have hsN := hbN.size
        have hpl := cell_lt F0
        go_wp2_with (at_builtin; refine wpList_appA rfl _ _ 29 rfl WN.heap.size 35 _ 40 infEdge Try.underlying29 rfl _ [] (by rfl) (Own.empty _ _ (Nat.le_refl _)) _ (x.take 0) (by rfl) ((arrA_take hA1 (Nat.zero_le _)).below (below_alloc _ _)) (by unfold maxLen; simp <;> omega) (by simp <;> omega) (by simp) ?_)
        intro v1 w1 ho1 hb1 _
        have HB1 : Below WN.heap.size WN w1 := (below_alloc _ _).trans hb1
        have G0 := cell_later HB1 F0
        have G1 := cell_later HB1 F1
        have G2 := cell_later HB1 F2
        have G3 := cell_later HB1 F3
        have z1 := HB1.size
        go_wp2_with (at_builtin; refine wpList_appA rfl _ _ 29 rfl WN.heap.size 35 _ 40 infEdge Try.underlying29 rfl _ (x.take 0) (by rfl) (ho1.alloc _) _ [(⟨fe, te, la, co⟩ : DEdge)] (by rfl) (arr_block (E := eEdge) (n := 1) [(⟨fe, te, la, co⟩ : DEdge)] #[.int .i64 fe, .int .i64 te, .string la, .int .i64 co] rfl rfl (maxLen_ge (Nat.le_of_ble_eq_true rfl))) (by unfold maxLen; simp <;> omega) (by simp <;> omega) (by simp <;> omega) ?_)
        intro v2 w2 ho2 hb2 _
        have HB2 : Below WN.heap.size WN w2 := (HB1.alloc z1 _).trans hb2
        have hA2 := hA1.below HB2
        have z2 := HB2.size
        go_wp2_with (at_builtin; refine wpList_appA rfl _ _ 29 rfl WN.heap.size 35 _ 40 infEdge Try.underlying29 rfl _ (x.take 0 ++ [(⟨fe, te, la, co⟩ : DEdge)]) (by rfl) ho2 _ (x.drop 0) (by rfl) (by first | exact arr_any (by rw [List.length_drop]; omega) (by omega) (by omega) (by unfold maxLen; omega) | (refine arr_any ?_ ?_ ?_ ?_ <;> first | omega | (rw [List.length_drop]; omega) | (unfold maxLen; omega))) (by unfold maxLen; simp <;> omega) (by simp <;> omega) (by omega) ?_)
        all_goals intro v3 w3 ho3 hb3 _
        all_goals go_wp2_with fail
        all_goals go_ret
        all_goals exact ⟨_, rfl, by rw [HINS.out]; exact ho3.mono hsN, hbN.trans ((HB2.trans hb3).mono hsN)⟩
      · obtain ⟨hao', hbw⟩ := hao (by omega)
        subst hao'
        have HB := hb
        have hA1 := (hA0.below hbx).below HB
        have HINS : Hid (insE ltE x ⟨fe, te, la, co⟩ = x.take 0 ++ ⟨fe, te, la, co⟩ :: x.drop 0) := hid (by unfold insE; rw [HPOS.out])
        have F0 := cell_later HB z0
        have F1 := cell_later HB z1
        have F2 := cell_later HB z2
        have F3 := cell_later HB z3
        clear HPOS HPP hb y0 y1 y2 y3
        have hbN : Below w.heap.size w WN := hbx.trans (HB.mono hbx.size)
        have hsN := hbN.size
        have hpl := cell_lt F0
        go_wp2_with (at_builtin; refine wpList_appA rfl _ _ 29 rfl WN.heap.size 35 _ 40 infEdge Try.underlying29 rfl _ [] (by rfl) (Own.empty _ _ (Nat.le_refl _)) _ (x.take 0) (by rfl) ((arrA_take hA1 (Nat.zero_le _)).below (below_alloc _ _)) (by unfold maxLen; simp <;> omega) (by simp <;> omega) (by simp) ?_)
        intro v1 w1 ho1 hb1 _
        have HB1 : Below WN.heap.size WN w1 := (below_alloc _ _).trans hb1
        have G0 := cell_later HB1 F0
        have G1 := cell_later HB1 F1
        have G2 := cell_later HB1 F2
        have G3 := cell_later HB1 F3
        have z1 := HB1.size
        go_wp2_with (at_builtin; refine wpList_appA rfl _ _ 29 rfl WN.heap.size 35 _ 40 infEdge Try.underlying29 rfl _ (x.take 0) (by rfl) (ho1.alloc _) _ [(⟨fe, te, la, co⟩ : DEdge)] (by rfl) (arr_block (E := eEdge) (n := 1) [(⟨fe, te, la, co⟩ : DEdge)] #[.int .i64 fe, .int .i64 te, .string la, .int .i64 co] rfl rfl (maxLen_ge (Nat.le_of_ble_eq_true rfl))) (by unfold maxLen; simp <;> omega) (by simp <;> omega) (by simp <;> omega) ?_)
        intro v2 w2 ho2 hb2 _
        have HB2 : Below WN.heap.size WN w2 := (HB1.alloc z1 _).trans hb2
        have hA2 := hA1.below HB2
        have z2 := HB2.size
        go_wp2_with (at_builtin; refine wpList_appA rfl _ _ 29 rfl WN.heap.size 35 _ 40 infEdge Try.underlying29 rfl _ (x.take 0 ++ [(⟨fe, te, la, co⟩ : DEdge)]) (by rfl) ho2 _ (x.drop 0) (by rfl) (by first | exact hA2 | exact arrT_drop hA2 (Nat.zero_le _) | (rw [List.drop_zero]; exact hA2)) (by unfold maxLen; simp <;> omega) (by simp <;> omega) (by omega) ?_)
        all_goals intro v3 w3 ho3 hb3 _
        all_goals go_wp2_with fail
        all_goals go_ret
        all_goals exact ⟨_, rfl, by rw [HINS.out]; exact ho3.mono hsN, hbN.trans ((HB2.trans hb3).mono hsN)⟩
end Go.Proofs.Ythooeaappnkjgaa
