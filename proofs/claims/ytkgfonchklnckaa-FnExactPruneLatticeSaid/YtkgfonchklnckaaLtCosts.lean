/- The implementation's least costs from the first node and to the last one. -/
import Derived.Test.YtkgfonchklnckaaLtBack
import Derived.Test.YtkgfonchklnckaaReg3
namespace Go.Proofs.Ytkgfonchklnckaa
open Go.RowKit
attribute [local go_sem ↓] Go.wp_at_zero Go.wp_at_succ

theorem foldF_take {x : List DEdge} {j : Nat} {e : DEdge} (n : Nat) (h : x[j]? = some e) : (x.take (j + 1)).foldl stepF (startF n) = stepF ((x.take j).foldl stepF (startF n)) e := fold_take h
theorem foldB_drop {x : List DEdge} {j : Nat} {e : DEdge} (n : Nat) (h : x[j]? = some e) : (x.drop j).reverse.foldl stepB (startB n) = stepB ((x.drop (j + 1)).reverse.foldl stepB (startB n)) e := by
  obtain ⟨h1, rfl⟩ := List.getElem?_eq_some_iff.1 h
  rw [List.drop_eq_getElem_cons h1, List.reverse_cons, List.foldl_append]; rfl
theorem fold_nw {n : Nat} {ys : List Int} (hl : n = ys.length) (h : ∀ j, j < n → ys[j]? = some NW) : ys = List.replicate n NW := by
  refine List.ext_getElem? fun i => ?_
  by_cases hi : i < n
  · rw [h i hi, List.getElem?_replicate, if_pos hi]
  · rw [List.getElem?_eq_none (by omega), List.getElem?_eq_none (by simp; omega)]
theorem okV_min {f : Nat → Int} {D : List Int} (h : okV f D) {i k : Nat} {r1 r2 co : Int} (g1 : D[i]? = some r1) (g2 : D[k]? = some r2) (hc : 0 ≤ co ∧ co ≤ 1000000) (hik : f i + co ≤ f k) (hk : f k ≤ 20000000) (hi : f i ≤ 20000000) :
    okV f (D.set k (min r2 (r1 + co))) ∧ 0 ≤ r1 ∧ r1 ≤ NW ∧ 0 ≤ r2 ∧ r2 ≤ NW := by
  have a1 : r1 = NW ∨ (0 ≤ r1 ∧ r1 ≤ f i) := h i r1 g1
  have a2 : r2 = NW ∨ (0 ≤ r2 ∧ r2 ≤ f k) := h k r2 g2
  have e := NW_eq
  refine ⟨okV_set h ?_, ?_, ?_, ?_, ?_⟩ <;> omega
set_option maxHeartbeats 8000000 in
set_option maxRecDepth 100000 in
theorem implCosts_any (n : Nat) (v : Value) (x : List DEdge) (w : World) (h : Arr eEdge w v x) (hv : validLt ((n : Int), x) = true) :
    Calls Try.prog 43 #[.agg #[.int .i64 n, v]] w fun e w' => ∃ u1 u2, e = .returned (.tuple #[u1, u2]) ∧ Own eInt 2 w.heap.size w' u1 (distF n x) ∧ Own eInt 2 w.heap.size w' u2 (distB n x) ∧ Below w.heap.size w w' := by
  obtain ⟨b, off, ao, cap, rfl, hnc, hcm, hao, hc⟩ := h
  unfold maxLen at hcm
  obtain ⟨n1, n2, x2⟩ := valid_bd hv
  have HV := hid hv
  have HG := hid (valid_good hv)
  clear hv
  obtain ⟨i0, hi, hz0, hz1, hz2⟩ := info_parts infoInt
  obtain ⟨p, hp⟩ : ∃ p, p = w.heap.size := ⟨_, rfl⟩
  obtain ⟨W, hW⟩ : ∃ W, W = w.alloc (.cells #[.int .i64 n, .slice ao x.length cap] 29) := ⟨_, rfl⟩
  have hpW : W.heap.size = p + 1 := by rw [hW, hp]; simp
  have qb : Box W p #[.int .i64 n, .slice ao x.length cap] 29 := by rw [hW, hp]; exact Box.new _ _ _
  have hbW : Below p w W := by rw [hW, hp]; exact below_alloc _ _
  have HP := hid hp
  have HW := hid hW
  go_enter Try.func43, Try.ntmps43
  go_wp2_with fail
  rw [← hW, ← hp]
  clear hp hW
  refine wp_region_relR (fun i v w' => match i with
      | 0 => v = .pointer (some ⟨p, 0, none⟩)
      | 1 => v = .int .i64 n
      | 3 => v = .pointer (some ⟨p, 0, none⟩)
      | 4 => v = .int .i64 n
      | _ => ∃ g, v = .slice (some ⟨g, 0, none⟩) n n ∧ Own eInt 2 (p + 1) w' (.slice (some ⟨g, 0, none⟩) n n) (List.replicate n 0))
    (fun L x => (L 2 = true → L 5 = true → (x 2).ownBlock ≠ (x 5).ownBlock) ∧ (L 6 = true → L 2 = true ∧ x 6 = x 2) ∧ (L 7 = true → L 5 = true ∧ x 7 = x 5)) (by kernel_rfl) (by kernel_rfl) (by kernel_rfl) (by kernel_rfl) ?_ (fun x => ⟨(fun h => by cases h), (fun h => by cases h), (fun h => by cases h)⟩) ?_ ?_
  · intro i v w w' h hb
    match i, h with
    | 0, h => exact h
    | 1, h => exact h
    | 3, h => exact h
    | 4, h => exact h
    | 2, ⟨g, hv, ho⟩ => exact ⟨g, hv, ho.below hb⟩
    | 5, ⟨g, hv, ho⟩ => exact ⟨g, hv, ho.below hb⟩
    | (m + 6), ⟨g, hv, ho⟩ => exact ⟨g, hv, ho.below hb⟩
  · have mk : ∀ (w' : World), Below W.heap.size W w' → ∃ w'', (Instr.makeSlice 55 (.int .i64 (n : Int)) (.int .i64 (n : Int))).run Try.prog w' = .ok (.slice (some ⟨w'.heap.size, 0, none⟩) n n) w'' ∧ Own eInt 2 (p + 1) w'' (.slice (some ⟨w'.heap.size, 0, none⟩) n n) (List.replicate n 0) ∧ Below w'.heap.size w' w'' := by
      intro w' hb'
      obtain ⟨w'', h1, h2, h3⟩ := run_make_full (P := Try.prog) w' (p + 1) 55 2 i0 (.int .i64 0) 1 Try.underlying55 hi hz0 hz1 .i64 .i64 n (by rw [hz2]; omega) (by unfold maxLen; omega) (by rw [← hpW]; exact hb'.size)
      exact ⟨w'', h1, Own.made (E := eInt) (z := (0 : Int)) h2 rfl, (Below.refl _ _).grown h3 (Nat.le_refl _) (by simp)⟩
    refine ⟨?_, ?_, ?_, ?_, ?_, ?_, ?_, ?_, trivial⟩
    · intro L y ρ w' hL hbw hR hφ ht hcs hae hx
      refine ⟨fun _ => ?_, fun h => by cases h⟩
      have s1 : ρ (.tmp 1) = .pointer (some ⟨p, 0, none⟩) := ht 1 rfl
      clear ht hx
      go_simp
      exact ⟨Below.refl _ _, rfl, by simpa [updL, updX] using hR⟩
    · intro L y ρ w' hL hbw hR hφ ht hcs hae hx
      refine ⟨fun _ => ?_, fun h => by cases h⟩
      have s0 : ρ (.tmp 11) = .pointer (some ⟨p, 0, none⟩) := (hx 0 _ 11 rfl rfl).trans (hφ 0 (by decide) (hae ⟨0, .data⟩ (by simp) rfl))
      have c0 := (qb.later hbw).cell (j := 0) rfl
      clear ht hx
      go_simp
      exact ⟨Below.refl _ _, rfl, by simpa [updL, updX] using hR⟩
    · intro L y ρ w' hL hbw hR hφ ht hcs hae hx
      refine ⟨fun _ => ?_, fun h => by cases h⟩
      have s0 : ρ (.tmp 12) = .int .i64 n := (hx 1 _ 12 rfl rfl).trans (hφ 1 (by decide) (hae ⟨1, .data⟩ (by simp) rfl))
      obtain ⟨w'', h1, h2, h3⟩ := mk w' hbw
      clear ht hx
      go_simp
      refine ⟨h3, ⟨_, rfl, h2⟩, ?_⟩
      have h6 : L 6 = false := by
        cases h : L 6 with
        | false => rfl
        | true => have := (hR.2.1 h).1; rw [hL] at this; cases this
      refine ⟨fun _ h5 => ?_, fun h => ?_, fun h => ?_⟩
      · obtain ⟨g, hg, ho⟩ := hφ 5 (by decide) (by simpa [updL] using h5)
        have := ho.lt.2
        simp [updX, hg, Value.ownBlock]; omega
      · simp [updL, h6] at h
      · simpa [updL, updX] using hR.2.2 (by simpa [updL] using h)
    · intro L y ρ w' hL hbw hR hφ ht hcs hae hx
      refine ⟨fun _ => ?_, fun h => by cases h⟩
      have s1 : ρ (.tmp 1) = .pointer (some ⟨p, 0, none⟩) := ht 1 rfl
      clear ht hx
      go_simp
      exact ⟨Below.refl _ _, rfl, by simpa [updL, updX] using hR⟩
    · intro L y ρ w' hL hbw hR hφ ht hcs hae hx
      refine ⟨fun _ => ?_, fun h => by cases h⟩
      have s0 : ρ (.tmp 14) = .pointer (some ⟨p, 0, none⟩) := (hx 3 _ 14 rfl rfl).trans (hφ 3 (by decide) (hae ⟨3, .data⟩ (by simp) rfl))
      have c0 := (qb.later hbw).cell (j := 0) rfl
      clear ht hx
      go_simp
      exact ⟨Below.refl _ _, rfl, by simpa [updL, updX] using hR⟩
    · intro L y ρ w' hL hbw hR hφ ht hcs hae hx
      refine ⟨fun _ => ?_, fun h => by cases h⟩
      have s0 : ρ (.tmp 15) = .int .i64 n := (hx 4 _ 15 rfl rfl).trans (hφ 4 (by decide) (hae ⟨4, .data⟩ (by simp) rfl))
      obtain ⟨w'', h1, h2, h3⟩ := mk w' hbw
      clear ht hx
      go_simp
      refine ⟨h3, ⟨_, rfl, h2⟩, ?_⟩
      have h7 : L 7 = false := by
        cases h : L 7 with
        | false => rfl
        | true => have := (hR.2.2 h).1; rw [hL] at this; cases this
      refine ⟨fun h2 _ => ?_, fun h => ?_, fun h => ?_⟩
      · obtain ⟨g, hg, ho⟩ := hφ 2 (by decide) (by simpa [updL] using h2)
        have := ho.lt.2
        simp [updX, hg, Value.ownBlock]; omega
      · simpa [updL, updX] using hR.2.1 (by simpa [updL] using h)
      · simp [updL, h7] at h
    · intro L y ρ w' hL hbw hR hφ ht hcs hae hx
      refine ⟨fun _ => ?_, fun h => by cases h⟩
      have hL2 := hae ⟨2, .data⟩ (by simp) rfl
      have s0 : ρ (.tmp 13) = y 2 := hx 2 _ 13 rfl rfl
      have hv2 := hφ 2 (by decide) hL2
      clear ht hx
      go_simp
      refine ⟨Below.refl _ _, hv2, ?_, fun _ => ?_, ?_⟩
      · simpa [updL, updX] using hR.1
      · simpa [updL, updX] using hL2
      · simpa [updL, updX] using hR.2.2
    · intro L y ρ w' hL hbw hR hφ ht hcs hae hx
      refine ⟨fun _ => ?_, fun h => by cases h⟩
      have hL2 := hae ⟨5, .data⟩ (by simp) rfl
      have s0 : ρ (.tmp 16) = y 5 := hx 5 _ 16 rfl rfl
      have hv2 := hφ 5 (by decide) hL2
      clear ht hx
      go_simp
      refine ⟨Below.refl _ _, hv2, ?_, ?_, fun _ => ?_⟩
      · simpa [updL, updX] using hR.1
      · simpa [updL, updX] using hR.2.1
      · simpa [updL, updX] using hL2
  · intro L y w1 hb1 hL hx hR
    have e0 : y 0 = .pointer (some ⟨p, 0, none⟩) := hx 0 (by decide)
    have e1 : y 1 = .int .i64 n := hx 1 (by decide)
    have e3 : y 3 = .pointer (some ⟨p, 0, none⟩) := hx 3 (by decide)
    have e4 : y 4 = .int .i64 n := hx 4 (by decide)
    obtain ⟨g1, e2, o1⟩ := hx 2 (by decide)
    obtain ⟨g2, e5, o2⟩ := hx 5 (by decide)
    have e6 : y 6 = .slice (some ⟨g1, 0, none⟩) n n := (hR.2.1 (hL 6 (by decide))).2.trans e2
    have e7 : y 7 = .slice (some ⟨g2, 0, none⟩) n n := (hR.2.2 (hL 7 (by decide))).2.trans e5
    have hne : g1 ≠ g2 := by
      have := hR.1 (hL 2 (by decide)) (hL 5 (by decide))
      rw [e2, e5] at this
      simpa [Value.ownBlock] using this
    have qb1 := qb.later hb1
    have hpp : p < p + 1 := by omega
    replace hb1 : Below (p + 1) W w1 := by rw [← hpW]; exact hb1
    clear hx hR hL
    simp only [putAll, Act.put, List.setIfInBounds_toArray, List.set_cons_succ, List.set_cons_zero, Nat.zero_add, Nat.reduceAdd, e0, e1, e2, e3, e4, e5, e6, e7]
    have hne' : g2 ≠ g1 := fun h => hne h.symm
    have hbg : 0 < x.length → b < p + 1 := fun h => by have := (hao h).2; rw [HP.out]; omega
    have hcW : 0 < x.length → Cells eEdge W b off x := fun h => hc.below (B := p) hbW (by rw [HP.out]; exact (hao h).2)
    have r0 := qb.cell (j := 0) rfl
    have r1 := qb.cell (j := 1) rfl
    clear e0 e1 e2 e3 e4 e5 e6 e7 qb1 hi hz0 hz1 hz2 hc
    go_wp2
    go_loopw [19] (fun i wr => ∃ (k : Nat) (ys zs : List Int), k ≤ n ∧ i = .int .i64 k ∧ n = ys.length ∧ n = zs.length ∧ (∀ j, j < k → ys[j]? = some 1099511627776) ∧ (∀ j, j < k → zs[j]? = some 1099511627776) ∧ Own eInt 2 (p + 1) wr (.slice (some ⟨g1, 0, none⟩) n n) ys ∧ Own eInt 2 (p + 1) wr (.slice (some ⟨g2, 0, none⟩) n n) zs ∧ Below (p + 1) W wr) (fun i _ => n - (intOf i).toNat)
    case atStart => exact ⟨0, _, _, Nat.zero_le _, rfl, by rw [List.length_replicate], by rw [List.length_replicate], fun j h => by omega, fun j h => by omega, o1, o2, hb1⟩
    case round =>
      clear o1 o2 hb1
      obtain ⟨k, ys, zs, hk, rfl, hyl, hzl, hys, hzs, o1, o2, hb1⟩ := hrel
      have HY := hid hyl
      have HZ := hid hzl
      have HYS := hid hys
      have HZS := hid hzs
      clear hyl hzl hys hzs
      have t0 := below_cell hb1 hpp r0
      have t1 := below_cell hb1 hpp r1
      by_cases hlt : k < n
      · have hli : (k : Int) < (n : Int) := by omega
        obtain ⟨y, hy⟩ : ∃ y, ys[k]? = some y := ⟨_, List.getElem?_eq_getElem (by rw [← HY.out]; exact hlt)⟩
        obtain ⟨z, hz⟩ : ∃ y, zs[k]? = some y := ⟨_, List.getElem?_eq_getElem (by rw [← HZ.out]; exact hlt)⟩
        have c0 := ownI_get o1 HY.out hy
        have hf := o1.free HY.out
        have d0 := ownI_get o2 HZ.out hz
        have df := o2.free HZ.out
        have a1 := ownI_below (u := 1099511627776) (k := k) o1 HY.out hlt hb1
        have a2 := ownI_below (u := 1099511627776) (k := k) (o2.apart hne' (b := g1) (o := k) (.int .i64 1099511627776)) HZ.out hlt a1.2
        clear hy hz
        go_wp2
        go_roundw
        case rel =>
          refine ⟨k + 1, _, _, by omega, by go_num, set_len HY.out, set_len HZ.out, fun j h => ?_, fun j h => ?_, a1.1.apart hne (b := g2) (o := k) (.int .i64 1099511627776), a2.1, a2.2⟩
          · by_cases e : k = j
            · subst e; rw [List.getElem?_set_self (by rw [← HY.out]; exact hlt)]
            · rw [List.getElem?_set_ne e]; exact HYS.out j (by omega)
          · by_cases e : k = j
            · subst e; rw [List.getElem?_set_self (by rw [← HZ.out]; exact hlt)]
            · rw [List.getElem?_set_ne e]; exact HZS.out j (by omega)
        case measure => simp [intOf]; omega
      · have hkn : k = n := by omega
        have hys : ys = List.replicate n NW := fold_nw HY.out fun j h => by rw [NW_eq]; exact HYS.out j (by omega)
        have hzs : zs = List.replicate n NW := fold_nw HZ.out fun j h => by rw [NW_eq]; exact HZS.out j (by omega)
        subst hys
        subst hzs
        clear HY HZ HYS HZS
        have t0n : ¬ ((k : Int) < (n : Int)) := by omega
        have c0 := ownI_get o1 (by simp) (k := 0) (u := NW) (by rw [List.getElem?_replicate, if_pos (by omega)])
        have d0 := ownI_get o2 (by simp) (k := n - 1) (u := NW) (by rw [List.getElem?_replicate, if_pos (by omega)])
        have hf := o1.free (by simp)
        have df := o2.free (by simp)
        have hk0 : (0 : Int) < (n : Int) := by omega
        have hkn0 : 0 < n := by omega
        have l1 := o1.lt.1
        have l2 := o2.lt.1
        have ep1 : ¬ p = g1 := by omega
        have ep2 : ¬ p = g2 := by omega
        have ep1' : ¬ g1 = p := by omega
        have ep2' : ¬ g2 = p := by omega
        have t0s : (wr.setCell ⟨g1, 0, none⟩ (.int .i64 0)).cell? ⟨p, 0, none⟩ = some (.int .i64 n) := cell_other t0 ep1
        have d0s : (wr.setCell ⟨g1, 0, none⟩ (.int .i64 0)).cell? ⟨g2, n - 1, none⟩ = some (.int .i64 NW) := cell_other d0 hne'
        have c0s : (wr.setCell ⟨g2, n - 1, none⟩ (.int .i64 0)).cell? ⟨g1, 0, none⟩ = some (.int .i64 NW) := cell_other c0 hne
        have hk1 : (0 : Int) ≤ (n : Int) - 1 := by omega
        have hk2 : (n : Int) - 1 < (n : Int) := by omega
        have hk3 : ((n : Int) - 1).toNat = n - 1 := by omega
        go_wp2
        have hwr : IntKind.i64.wrap ((n : Int) - 1) = (n : Int) - 1 := IntWalk.i64_in _ (by omega)
        have a1 := ownI_below (u := 0) (k := 0) o1 (by simp) (by omega) hb1
        have a2 := ownI_below (u := 0) (k := n - 1) (o2.apart hne' (b := g1) (o := 0) (.int .i64 0)) (by simp) (by omega) a1.2
        have a3 := a1.1.apart hne (b := g2) (o := n - 1) (.int .i64 0)
        clear t0s d0s c0s
        go_region
        obtain ⟨w2, hw2⟩ : ∃ w2, w2 = ((wr.setCell ⟨g1, 0, none⟩ (.int .i64 0)).setCell ⟨g2, n - 1, none⟩ (.int .i64 0)).drew := ⟨_, rfl⟩
        replace o1 : Own eInt 2 (p + 1) w2 (.slice (some ⟨g1, 0, none⟩) n n) (startF n) := by rw [hw2]; exact a3
        replace o2 : Own eInt 2 (p + 1) w2 (.slice (some ⟨g2, 0, none⟩) n n) (startB n) := by rw [hw2]; exact a2.1
        replace hb1 : Below (p + 1) W w2 := by rw [hw2]; exact a2.2.drew
        rw [← hw2]
        clear hw2 a1 a2 a3 c0 d0 hf df t0 t1 hwr t0n
        have t0 := below_cell hb1 hpp r0
        have t1 := below_cell hb1 hpp r1
        clear hk hkn
        go_wp2
        go_loopw [39] (fun i wr => ∃ (j : Nat) (D : List Int), j ≤ x.length ∧ i = .int .i64 j ∧ D = (x.take j).foldl stepF (startF n) ∧ n = D.length ∧ okV upF D ∧ Own eInt 2 (p + 1) wr (.slice (some ⟨g1, 0, none⟩) n n) D ∧ Own eInt 2 (p + 1) wr (.slice (some ⟨g2, 0, none⟩) n n) (startB n) ∧ Below (p + 1) W wr) (fun i _ => x.length - (intOf i).toNat)
        case atStart => exact ⟨0, _, Nat.zero_le _, rfl, rfl, by simp [startF], okV_startF n, o1, o2, hb1⟩
        case round =>
          clear o1 o2 hb1 t0 t1
          obtain ⟨j, D, hj, rfl, hDe, hDl, hok, o1, o2, hb1⟩ := hrel
          have HDE := hid hDe
          have HDL := hid hDl
          clear hDe hDl
          have t0 := below_cell hb1 hpp r0
          have t1 := below_cell hb1 hpp r1
          by_cases hjl : j < x.length
          · obtain ⟨hao', hbw⟩ := hao (by omega)
            subst hao'
            obtain ⟨e, he⟩ : ∃ e, x[j]? = some e := ⟨_, List.getElem?_eq_getElem hjl⟩
            have hcq : Cells eEdge wr b off x := (hcW (by omega)).below hb1 (hbg (by omega))
            obtain ⟨c0, c1, c2, c3⟩ := eEdge_cells hcq he
            have hli : (j : Int) < (x.length : Int) := by omega
            obtain ⟨f0, f1, f2, f3, f4⟩ := valid_fit HV.out he
            have HN : Hid ((x.take (j + 1)).foldl stepF (startF n) = stepF D e) := hid (by rw [HDE.out]; exact foldF_take n he)
            obtain ⟨fq, tq, la, co⟩ := e
            simp only at c0 c1 c2 c3 f0 f1 f2 f3 f4
            obtain ⟨f, rfl⟩ : ∃ f : Nat, fq = f := ⟨fq.toNat, by omega⟩
            obtain ⟨t, rfl⟩ : ∃ t : Nat, tq = t := ⟨tq.toNat, by omega⟩
            clear he hcq hao
            obtain ⟨r1, q1⟩ : ∃ r, D[f]? = some r := ⟨_, List.getElem?_eq_getElem (by have := HDL.out; omega)⟩
            obtain ⟨r2, q2⟩ : ∃ r, D[t]? = some r := ⟨_, List.getElem?_eq_getElem (by have := HDL.out; omega)⟩
            have HS : Hid ((x.take (j + 1)).foldl stepF (startF n) = D.set t (min r2 (r1 + co))) := hid (by rw [HN.out]; show D.set t (min (D.getD t 0) (D.getD f 0 + co)) = _; rw [getD_of q1, getD_of q2])
            obtain ⟨hok', p1, p2, p3, p4⟩ := okV_min hok q1 q2 (co := co) ⟨f3, f4⟩ (by unfold upF; omega) (by unfold upF; omega) (by unfold upF; omega)
            rw [NW_eq] at p2 p4
            have a1 := ownI_get o1 HDL.out q1
            have a2 := ownI_get o1 HDL.out q2
            clear q1 q2
            have hti : (t : Int) < (n : Int) := f2
            have hfi : (f : Int) < (n : Int) := by omega
            obtain ⟨w3, hw3⟩ : ∃ w3, w3 = wr.alloc (.cells #[.int .i64 f, .int .i64 t, .string la, .int .i64 co] 49) := ⟨_, rfl⟩
            have hm3 : Below wr.heap.size wr w3 := by rw [hw3]; exact below_alloc _ _
            have hgr0 := o1.lt.2
            have hgr1 := o1.lt.1
            have hb3 : Below (p + 1) W w3 := hb1.trans (hm3.mono (by omega))
            have ho3 := o1.below hm3
            have hp3 := o2.below hm3
            replace a1 := cell_later hm3 a1
            replace a2 := cell_later hm3 a2
            have hfree := ho3.free HDL.out
            have e0 : w3.cell? ⟨wr.heap.size, 0, none⟩ = some (.int .i64 f) := by rw [hw3]; simp
            have e1 : w3.cell? ⟨wr.heap.size, 1, none⟩ = some (.int .i64 t) := by rw [hw3]; simp
            have e3 : w3.cell? ⟨wr.heap.size, 3, none⟩ = some (.int .i64 co) := by rw [hw3]; simp
            go_wp2
            rw [← hw3]
            clear hw3
            have hwr : IntKind.i64.wrap (r1 + co) = r1 + co := IntWalk.i64_in _ (by omega)
            refine wp_region_still_tail 18 (by kernel_rfl) (by kernel_rfl) ?_
            simp only [List.take_succ_cons, List.take_zero, List.drop_succ_cons, List.drop_zero]
            repeat (first | still_step)
            refine wpStill_nil ?_
            change wpList _ _ _ _ _ (World.drew _)
            clear hwr
            go_wp2
            have a3 := ownI_below (u := min r2 (r1 + co)) (k := t) ho3 HDL.out (by omega) hb3
            have a4 := hp3.apart hne' (b := g1) (o := t) (.int .i64 (min r2 (r1 + co)))
            go_roundw
            case rel => exact ⟨j + 1, _, by omega, by go_num, HS.out.symm, by rw [List.length_set]; exact HDL.out, hok', a3.1, a4, a3.2.drew⟩
            case measure => simp [intOf]; omega
          · obtain rfl : j = x.length := by omega
            have HF : Hid (D = distF n x) := hid (by have := HDE.out; rw [List.take_length] at this; exact this)
            rw [HF.out] at o1
            clear hok HDE HDL HF
            have hjn : ¬ ((x.length : Int) < (x.length : Int)) := by omega
            go_wp2
            go_loopw [9] (fun i wr => ∃ (m : Nat) (D : List Int), m ≤ x.length ∧ i = .int .i64 ((x.length : Int) - 1 - m) ∧ D = (x.drop (x.length - m)).reverse.foldl stepB (startB n) ∧ n = D.length ∧ okV (upB n) D ∧ Own eInt 2 (p + 1) wr (.slice (some ⟨g2, 0, none⟩) n n) D ∧ Own eInt 2 (p + 1) wr (.slice (some ⟨g1, 0, none⟩) n n) (distF n x) ∧ Below (p + 1) W wr) (fun i _ => (intOf i + 1).toNat)
            case atStart => exact ⟨0, _, Nat.zero_le _, by simp, by simp, by simp [startB], okV_startB n, o2, o1, hb1⟩
            case round =>
              clear o1 o2 hb1 t0 t1 hjn hj hjl
              obtain ⟨m, D, hm, hi, hDe, hDl, hok, o2, o1, hb1⟩ := hrel
              have HDL := hid hDl
              clear hDl
              have t0 := below_cell hb1 hpp r0
              have t1 := below_cell hb1 hpp r1
              by_cases hml : m < x.length
              · obtain ⟨j, hj⟩ : ∃ j : Nat, (x.length : Int) - 1 - m = j := ⟨x.length - 1 - m, by omega⟩
                rw [hj] at hi
                subst hi
                have hjl : j < x.length := by omega
                have HJ := hid hj
                have HDE : Hid (D = (x.drop (j + 1)).reverse.foldl stepB (startB n)) := hid (by rw [hDe, show x.length - m = j + 1 by omega])
                clear hj hDe
                have hj0 : (0 : Int) ≤ (j : Int) := by omega
                obtain ⟨hao', hbw⟩ := hao (by omega)
                subst hao'
                obtain ⟨e, he⟩ : ∃ e, x[j]? = some e := ⟨_, List.getElem?_eq_getElem hjl⟩
                have hcq : Cells eEdge wr b off x := (hcW (by omega)).below hb1 (hbg (by omega))
                obtain ⟨c0, c1, c2, c3⟩ := eEdge_cells hcq he
                have hli : (j : Int) < (x.length : Int) := by omega
                obtain ⟨f0, f1, f2, f3, f4⟩ := valid_fit HV.out he
                have HN : Hid ((x.drop j).reverse.foldl stepB (startB n) = stepB D e) := hid (by rw [HDE.out]; exact foldB_drop n he)
                obtain ⟨fq, tq, la, co⟩ := e
                simp only at c0 c1 c2 c3 f0 f1 f2 f3 f4
                obtain ⟨f, rfl⟩ : ∃ f : Nat, fq = f := ⟨fq.toNat, by omega⟩
                obtain ⟨t, rfl⟩ : ∃ t : Nat, tq = t := ⟨tq.toNat, by omega⟩
                clear he hcq hao
                obtain ⟨r1, q1⟩ : ∃ r, D[t]? = some r := ⟨_, List.getElem?_eq_getElem (by have := HDL.out; omega)⟩
                obtain ⟨r2, q2⟩ : ∃ r, D[f]? = some r := ⟨_, List.getElem?_eq_getElem (by have := HDL.out; omega)⟩
                have HS : Hid ((x.drop j).reverse.foldl stepB (startB n) = D.set f (min r2 (r1 + co))) := hid (by rw [HN.out]; show D.set f (min (D.getD f 0) (D.getD t 0 + co)) = _; rw [getD_of q1, getD_of q2])
                obtain ⟨hok', p1, p2, p3, p4⟩ := okV_min hok q1 q2 (co := co) ⟨f3, f4⟩ (by unfold upB; omega) (by unfold upB; omega) (by unfold upB; omega)
                rw [NW_eq] at p2 p4
                have a1 := ownI_get o2 HDL.out q1
                have a2 := ownI_get o2 HDL.out q2
                clear q1 q2
                have hti : (t : Int) < (n : Int) := f2
                have hfi : (f : Int) < (n : Int) := by omega
                obtain ⟨w3, hw3⟩ : ∃ w3, w3 = wr.alloc (.cells #[.int .i64 f, .int .i64 t, .string la, .int .i64 co] 49) := ⟨_, rfl⟩
                have hm3 : Below wr.heap.size wr w3 := by rw [hw3]; exact below_alloc _ _
                have hgr0 := o2.lt.2
                have hgr1 := o2.lt.1
                have hb3 : Below (p + 1) W w3 := hb1.trans (hm3.mono (by omega))
                have ho3 := o2.below hm3
                have hp3 := o1.below hm3
                replace a1 := cell_later hm3 a1
                replace a2 := cell_later hm3 a2
                have hfree := ho3.free HDL.out
                have e0 : w3.cell? ⟨wr.heap.size, 0, none⟩ = some (.int .i64 f) := by rw [hw3]; simp
                have e1 : w3.cell? ⟨wr.heap.size, 1, none⟩ = some (.int .i64 t) := by rw [hw3]; simp
                have e3 : w3.cell? ⟨wr.heap.size, 3, none⟩ = some (.int .i64 co) := by rw [hw3]; simp
                go_wp2
                rw [← hw3]
                clear hw3
                have hwr : IntKind.i64.wrap (r1 + co) = r1 + co := IntWalk.i64_in _ (by omega)
                refine wp_region_still_tail 18 (by kernel_rfl) (by kernel_rfl) ?_
                simp only [List.take_succ_cons, List.take_zero, List.drop_succ_cons, List.drop_zero]
                repeat (first | still_step)
                refine wpStill_nil ?_
                change wpList _ _ _ _ _ (World.drew _)
                clear hwr
                go_wp2
                have a3 := ownI_below (u := min r2 (r1 + co)) (k := f) ho3 HDL.out (by omega) hb3
                have a4 := hp3.apart hne (b := g2) (o := f) (.int .i64 (min r2 (r1 + co)))
                go_roundw
                case rel => exact ⟨m + 1, _, by omega, by have := HJ.out; rw [show (x.length : Int) - 1 - ((m + 1 : Nat) : Int) = (j : Int) - 1 by omega], by rw [show x.length - (m + 1) = j by have := HJ.out; omega]; exact HS.out.symm, by rw [List.length_set]; exact HDL.out, hok', a3.1, a4, a3.2.drew⟩
                case measure => simp [intOf]
              · obtain rfl : m = x.length := by omega
                have hm1 : (x.length : Int) - 1 - (x.length : Int) = -1 := by omega
                rw [hm1] at hi
                subst hi
                have HB : Hid (D = distB n x) := hid (by rw [hDe, Nat.sub_self, List.drop_zero]; rfl)
                clear hm1 hDe
                go_wp2
                go_ret2
                refine ⟨_, _, rfl, ?_, ?_, ?_⟩
                · rw [← HP.out]; exact o1.mono (by omega)
                · rw [← HP.out, ← HB.out]; exact o2.mono (by omega)
                · rw [← HP.out]; exact hbW.trans (hb1.mono (by omega))
end Go.Proofs.Ytkgfonchklnckaa
