/- A lattice without what costs too much: the implementation's call. -/
import Derived.Test.YtkgfonchklnckaaLtPrune
namespace Go.Proofs.Ytkgfonchklnckaa
open Go.RowKit
attribute [local go_sem ↓] Go.wp_at_zero Go.wp_at_succ

set_option maxHeartbeats 8000000 in
set_option maxRecDepth 100000 in
theorem implPruneLattice_any (v : Value) (x : XLattice) (s : Int) (w : World) {lo hi : Nat} (h : rLattice.at_ lo hi w v x) (ok : okLattice x) (g : goodLattice x) :
    Calls Try.prog 21 #[v, .int .i64 s] w (RetNew rLattice (pruneLt x s) #[.int .i64 (pruneC x s)] w) := by
  obtain ⟨u, rfl, h⟩ := h
  replace h := ArrIn.arr h
  obtain ⟨n, x⟩ := x
  obtain ⟨ao, cap, hu⟩ := h.isSlice
  subst hu
  simp only at h
  have ok' : x.length ≤ 1048576 := ok
  obtain ⟨W, hW⟩ : ∃ W, W = (w.alloc (.cells #[.int .i64 n, .slice ao x.length cap] 29)).alloc (.cells #[.int .i64 0, .slice none 0 0] 29) := ⟨_, rfl⟩
  have hbW : Below w.heap.size w W := by rw [hW]; exact (below_alloc _ _).trans ((below_alloc _ _).mono (by simp))
  have q1 : Box W w.heap.size #[.int .i64 n, .slice ao x.length cap] 29 := by rw [hW]; exact (Box.new w _ _).later (below_alloc _ _)
  have q2 : Box W (w.heap.size + 1) #[.int .i64 0, .slice none 0 0] 29 := by
    rw [hW]
    have := Box.new (w.alloc (.cells #[.int .i64 n, .slice ao x.length cap] 29)) #[.int .i64 0, .slice none 0 0] 29
    simp at this
    exact this
  have hA := h.below hbW
  have hlt : w.heap.size ≤ W.heap.size := hbW.size
  obtain ⟨p1, hp1⟩ : ∃ p, p = w.heap.size := ⟨_, rfl⟩
  obtain ⟨p2, hp2⟩ : ∃ p, p = w.heap.size + 1 := ⟨_, rfl⟩
  rw [← hp1] at q1
  rw [← hp2] at q2
  have hge2 : w.heap.size ≤ p2 := by omega
  have HP1 := hid hp1
  have HP2 := hid hp2
  clear hp1 hp2
  have HW := hid hW
  clear hW h
  have finish : ∀ (w' : World) (m : Int) (sa : Option Addr) (k sc : Nat) (z : List DEdge) (c : Int), Hid (pruneLt (n, x) s = (m, z) ∧ pruneC (n, x) s = c) → Own eEdge 49 w.heap.size w' (.slice sa k sc) z → Below w.heap.size w w' → RetNew rLattice (pruneLt (n, x) s) #[.int .i64 (pruneC (n, x) s)] w (.returned (.tuple #[.agg #[.int .i64 m, .slice sa k sc], .int .i64 c])) w' := by
    intro w' m sa k sc z c hz ho hb
    rw [hz.out.1, hz.out.2]
    exact ⟨_, rfl, rLt_new ho (Nat.le_refl _), hb⟩
  have m10 := q1.cell (j := 0) rfl
  have m11 := q1.cell (j := 1) rfl
  have hR : rLattice.at_ 0 W.heap.size W (.agg #[.int .i64 n, .slice ao x.length cap]) (n, x) := ⟨_, rfl, hA.in_⟩
  cases hv : validLt (n, x)
  · have HZ : Hid (pruneLt (n, x) s = (0, []) ∧ pruneC (n, x) s = 1) := by show _ ∧ _; simp [pruneLt, pruneC, hv]
    go_enter Try.func21, Try.ntmps21
    go_wp2_with fail
    rw [← HP2.out, ← HP1.out, ← HW.out]
    refine (implValidLattice_any _ (n, x) _ hR ok g).mono ?_
    rintro e w2 ⟨rfl, hb⟩
    rw [hv]
    have b0 := (q2.later hb).cell (j := 0) rfl
    have b1 := (q2.later hb).cell (j := 1) rfl
    have bf := (q2.later hb).free
    go_wp2_with fail
    refine bodyPost_ret (v := .tuple #[.agg #[.int .i64 0, .slice none 0 0], .int .i64 1]) (by simp [results, Try.results21, go_sem, b0, b1]) rfl (finish _ _ _ _ _ _ _ HZ (Own.nil _ _ _) ?_)
    exact ((hbW.trans (hb.mono hlt)).setCell hge2 _).setCell hge2 _
  cases hs : inB s 0 1000000
  · have HZ : Hid (pruneLt (n, x) s = (0, []) ∧ pruneC (n, x) s = 2) := by show _ ∧ _; simp [pruneLt, pruneC, hv, hs]
    have HI : ∀ w', Calls Try.prog 42 #[.int .i64 s] w' fun e w'' => e = .returned (.bool false) ∧ w' = w'' := fun w' => hs ▸ isCost_any _ w'
    go_enter Try.func21, Try.ntmps21
    go_wp2_with fail
    rw [← HP2.out, ← HP1.out, ← HW.out]
    refine (implValidLattice_any _ (n, x) _ hR ok g).mono ?_
    rintro e w2 ⟨rfl, hb⟩
    rw [hv]
    have b0 := (q2.later hb).cell (j := 0) rfl
    have b1 := (q2.later hb).cell (j := 1) rfl
    have bf := (q2.later hb).free
    go_wp2_with (go_at_call 42; refine (HI _).mono ?_; rintro e w' ⟨rfl, rfl⟩)
    refine bodyPost_ret (v := .tuple #[.agg #[.int .i64 0, .slice none 0 0], .int .i64 2]) (by simp [results, Try.results21, go_sem, b0, b1]) rfl (finish _ _ _ _ _ _ _ HZ (Own.nil _ _ _) ?_)
    exact ((hbW.trans (hb.mono hlt)).setCell hge2 _).setCell hge2 _
  have HI : ∀ w', Calls Try.prog 42 #[.int .i64 s] w' fun e w'' => e = .returned (.bool true) ∧ w' = w'' := fun w' => hs ▸ isCost_any _ w'
  obtain ⟨n1, n2, x2⟩ := valid_bd hv
  obtain ⟨m, rfl⟩ : ∃ m : Nat, n = m := ⟨n.toNat, by omega⟩
  obtain ⟨s1, s2⟩ := inB_true.1 hs
  obtain ⟨rb, hrb⟩ : ∃ r, (distF m x)[m - 1]? = some r := ⟨_, List.getElem?_eq_getElem (by rw [distF_len]; omega)⟩
  have hrb0 : (distB m x)[0]? = some rb := by
    obtain ⟨r0, h0⟩ : ∃ r, (distB m x)[0]? = some r := ⟨_, List.getElem?_eq_getElem (by rw [distB_len]; omega)⟩
    have := dist_same (valid_good hv) (valid_rises hv) (by omega : m ≤ 20) (by omega)
    rw [getD_of hrb, getD_of h0] at this
    rw [h0, this]
  have hway : wayLt ((m : Int), x) = decide (rb < NW) := by have hg := getD_of hrb; unfold wayLt; simp only [Int.toNat_natCast, hg]
  have hm0 : 0 < m := by omega
  have hmi : (0 : Int) < (m : Int) := by omega
  go_enter Try.func21, Try.ntmps21
  go_wp2_with fail
  rw [← HP2.out, ← HP1.out, ← HW.out]
  refine (implValidLattice_any _ ((m : Int), x) _ hR ok g).mono ?_
  rintro e w2 ⟨rfl, hb⟩
  rw [hv]
  have r10 := (q1.later hb).cell (j := 0) rfl
  have r11 := (q1.later hb).cell (j := 1) rfl
  have hA2 := hA.below hb
  go_wp2_with (go_at_call 42; refine (HI _).mono ?_; rintro e w' ⟨rfl, rfl⟩)
  refine (implCosts_any m _ x _ hA2 hv).mono ?_
  rintro e w4 ⟨u1, u2, rfl, o1, o2, hb4⟩
  have a10 := cell_later hb4 r10
  have a11 := cell_later hb4 r11
  clear r10 r11
  have hle1 : (distF m x).length = m := distF_len _ _
  have hle2 : (distB m x).length = m := distB_len _ _
  obtain ⟨g1, k1, rfl, hB1, hg1⟩ := o1.shape.resolve_left (fun h => by have := h.2; rw [this] at hle1; simp at hle1; omega)
  obtain ⟨g2, k2, rfl, hB2, hg2⟩ := o2.shape.resolve_left (fun h => by have := h.2; rw [this] at hle2; simp at hle2; omega)
  rw [hle1] at o1
  rw [hle2] at o2
  rw [hle1, hle2]
  have HL1 := hid hle1.symm
  have HL2 := hid hle2.symm
  clear hle1 hle2
  have cb := ownI_get o2 HL2.out hrb0
  have hbw : Below w.heap.size w w4 := hbW.trans ((hb.trans (hb4.mono hb.size)).mono hlt)
  have q2' := (q2.later hb).later hb4
  have b0 := q2'.cell (j := 0) rfl
  have b1 := q2'.cell (j := 1) rfl
  have bf := q2'.free
  rcases distF_val hv hrb with ⟨v1, v2⟩ | ⟨v1, v2, v3, v4⟩
  · have HZ : Hid (pruneLt ((m : Int), x) s = (0, []) ∧ pruneC ((m : Int), x) s = 3) := by
      show _ ∧ _
      have : wayLt ((m : Int), x) = false := by rw [hway]; simp; omega
      simp [pruneLt, pruneC, hv, hs, this]
    rw [v1, NW_eq] at cb
    go_wp2_with fail
    refine bodyPost_ret (v := .tuple #[.agg #[.int .i64 0, .slice none 0 0], .int .i64 3]) (by simp [results, Try.results21, go_sem, b0, b1]) rfl (finish _ _ _ _ _ _ _ HZ (Own.nil _ _ _) ?_)
    exact (hbw.setCell hge2 _).setCell hge2 _
  have HZ : Hid (pruneLt ((m : Int), x) s = ((m : Int), x.filter (keepE m x s)) ∧ pruneC ((m : Int), x) s = 0) := by
    show _ ∧ _
    have : wayLt ((m : Int), x) = true := by rw [hway]; simp; rw [NW_eq]; omega
    simp [pruneLt, pruneC, hv, hs, this]
  have hd0 : decide (1099511627776 ≤ rb) = false := by simp; omega
  have HV := hid hv
  have HRB := hid hrb
  clear b0 b1 bf
  have x11 := cell_alloc a11 (.cells #[.int .i64 m, .slice none 0 0] 29)
  go_wp2
  clear x11
  obtain ⟨H, hH⟩ : ∃ H, H = w4.heap.size := ⟨_, rfl⟩
  obtain ⟨w5, hw5⟩ : ∃ w5, w5 = w4.alloc (.cells #[.int .i64 m, .slice none 0 0] 29) := ⟨_, rfl⟩
  have hbox5 : Box w5 H #[.int .i64 m, .slice none 0 0] 29 := by rw [hw5, hH]; exact Box.new _ _ _
  have hb5 : Below H w4 w5 := by rw [hw5, hH]; exact below_alloc _ _
  have hl1 : p1 < H := by rw [hH]; exact cell_lt a10
  have hl2 : p2 < H := by rw [hH]; exact q2'.lt
  rw [← hw5, ← hH]
  rw [← hH] at hg1 hg2
  have HH := hid hH
  clear hH hw5
  have hbH : Below w.heap.size w w4 := hbw
  have hwH : w.heap.size ≤ H := by rw [HH.out]; exact hbw.size
  obtain ⟨b, off, ao', cap', he', hnc, hcm, hao, hc⟩ := (hA2.below hb4)
  simp only [Value.slice.injEq] at he'
  obtain ⟨rfl, -, rfl⟩ := he'
  unfold maxLen at hcm
  rw [← HH.out] at hao
  clear hR hA hA2 hb hb4 q1 q2 m10 m11
  go_loopw [35] (fun i wr => ∃ (j : Nat) (XS : List DEdge) (sb : Option Addr) (sd : Nat), j ≤ x.length ∧ i = .int .i64 j ∧ XS = (x.take j).filter (keepE m x s) ∧ Box wr H #[.int .i64 m, .slice sb XS.length sd] 29 ∧ Own eEdge 49 H wr (.slice sb XS.length sd) XS ∧ Below H w4 wr) (fun i _ => x.length - (intOf i).toNat)
  case atStart => exact ⟨0, [], none, 0, Nat.zero_le _, rfl, by simp, hbox5, Own.nil _ _ _, hb5⟩
  case round =>
    clear hbox5 hb5
    obtain ⟨j, XS, sb, sd, hj, rfl, hXS, hbox, ho, hb⟩ := hrel
    have HXS := hid hXS
    have hXl : XS.length ≤ 200 := by
      rw [hXS]
      exact Nat.le_trans (List.length_filter_le _ _) (by rw [List.length_take]; omega)
    clear hXS
    have t0 := below_cell hb hl1 a10
    have t1 := below_cell hb hl1 a11
    have u0 := hbox.cell (j := 0) rfl
    have u1 := hbox.cell (j := 1) rfl
    have hHr : H ≤ wr.heap.size := by rw [HH.out]; exact hb.size
    by_cases hlt : j < x.length
    · obtain ⟨hao', hbw2⟩ := hao (by omega)
      subst hao'
      obtain ⟨e, he⟩ : ∃ e, x[j]? = some e := ⟨_, List.getElem?_eq_getElem hlt⟩
      obtain ⟨e0, e1, e2, e3⟩ := eEdge_cells (hc.below hb hbw2) he
      have hli : (j : Int) < (x.length : Int) := by omega
      obtain ⟨f0, f1, f2, f3, f4⟩ := valid_fit HV.out he
      have HY := hid (fun h => filt_yes (q := keepE m x s) he h)
      have HN := hid (fun h => filt_no (q := keepE m x s) he h)
      obtain ⟨fq, tq, la, co⟩ := e
      simp only at e0 e1 e2 e3 f0 f1 f2 f3 f4
      obtain ⟨f, rfl⟩ : ∃ f : Nat, fq = f := ⟨fq.toNat, by omega⟩
      obtain ⟨t, rfl⟩ : ∃ t : Nat, tq = t := ⟨tq.toNat, by omega⟩
      obtain ⟨r1, z1⟩ : ∃ r, (distF m x)[f]? = some r := ⟨_, List.getElem?_eq_getElem (by rw [distF_len]; omega)⟩
      obtain ⟨r2, z2⟩ : ∃ r, (distB m x)[t]? = some r := ⟨_, List.getElem?_eq_getElem (by rw [distB_len]; omega)⟩
      have HK := hid (keepE_of (s := s) (la := la) (co := co) z1 z2 HRB.out)
      have hti : (t : Int) < (m : Int) := f2
      have hfi : (f : Int) < (m : Int) := by omega
      have c1 := below_cell hb hg1 (ownI_get o1 HL1.out z1)
      have c2 := below_cell hb hg2 (ownI_get o2 HL2.out z2)
      have d1 := distF_val HV.out z1
      have d2 := distB_val HV.out z2
      clear he hao z1 z2
      obtain ⟨w6, hw6⟩ : ∃ w6, w6 = wr.alloc (.cells #[.int .i64 f, .int .i64 t, .string la, .int .i64 co] 49) := ⟨_, rfl⟩
      have hm6 : Below wr.heap.size wr w6 := by rw [hw6]; exact below_alloc _ _
      have s0 : w6.cell? ⟨wr.heap.size, 0, none⟩ = some (.int .i64 f) := by rw [hw6]; simp
      have s1 : w6.cell? ⟨wr.heap.size, 1, none⟩ = some (.int .i64 t) := by rw [hw6]; simp
      have s2 : w6.cell? ⟨wr.heap.size, 2, none⟩ = some (.string la) := by rw [hw6]; simp
      have s3 : w6.cell? ⟨wr.heap.size, 3, none⟩ = some (.int .i64 co) := by rw [hw6]; simp
      have hbox6 := hbox.later hm6
      have ho6 := ho.below hm6
      have hb6 : Below H w4 w6 := hb.trans (hm6.mono hHr)
      replace c1 := cell_later hm6 c1
      replace c2 := cell_later hm6 c2
      replace t0 := cell_later hm6 t0
      have cb6 := cell_later hm6 (below_cell hb hg2 cb)
      go_wp2
      rw [← hw6]
      clear hw6 e0 e1 e2 e3
      have wr1 : IntKind.i64.wrap (r1 + co) = r1 + co := IntWalk.i64_in _ (by have e := NW_eq; rcases d1 with h | h <;> omega)
      have wr2 : IntKind.i64.wrap (r1 + co + r2) = r1 + co + r2 := IntWalk.i64_in _ (by have e := NW_eq; rcases d1 with h | h <;> rcases d2 with h' | h' <;> omega)
      have wr3 : IntKind.i64.wrap (rb + s) = rb + s := IntWalk.i64_in _ (by omega)
      clear d1 d2
      by_cases hle : r1 + co + r2 ≤ rb + s
      · have HS : Hid ((x.take (j + 1)).filter (keepE m x s) = XS ++ [⟨f, t, la, co⟩]) := hid (by rw [HXS.out]; refine HY.out ?_; rw [HK.out]; simp; omega)
        go_big_quiet (fail)
        obtain ⟨w7, hw7⟩ : ∃ w7, w7 = w6.drewN nq := ⟨_, rfl⟩
        have hbox7 : Box w7 H #[.int .i64 m, .slice sb XS.length sd] 29 := by rw [hw7]; exact hbox6
        have ho7 : Own eEdge 49 H w7 (.slice sb XS.length sd) XS := by rw [hw7]; exact ho6
        have hb7 : Below H w4 w7 := by rw [hw7]; exact below_drewN hb6 _
        have hH7 : H ≤ w7.heap.size := by rw [HH.out]; exact hb7.size
        have u7 := hbox7.cell (j := 1) rfl
        replace s0 := cell_eqN hw7 s0
        replace s1 := cell_eqN hw7 s1
        replace s2 := cell_eqN hw7 s2
        replace s3 := cell_eqN hw7 s3
        rw [← hw7]
        clear hw7 u0 u1
        go_wp2_with (at_builtin; (refine wpList_appA rfl _ _ 27 rfl H 49 _ 40 infEdge Try.underlying27 rfl _ XS rfl (ho7.alloc _) _ [⟨f, t, la, co⟩] rfl (by exact arr_block1 (E := eEdge) (n := 1) [⟨f, t, la, co⟩] #[.int .i64 f, .int .i64 t, .string la, .int .i64 co] rfl rfl (maxLen_ge (Nat.le_of_ble_eq_true rfl)) (by simp)) (by unfold maxLen; simp <;> omega) (by simp <;> omega) (by simp <;> omega) ?_; intro v' wA hoA hbA htA; have hbq := (hbox7.alloc _).typed htA rfl; have hq1 := hbq.cell (j := 1) rfl; have hqf := hbq.free; obtain ⟨va, vc, hva⟩ := hoA.isSlice; subst hva))
        have hbB := (hb7.alloc hH7 _).trans hbA
        have hlA : (XS ++ [(⟨f, t, la, co⟩ : DEdge)]).length = XS.length + 1 := by simp
        rw [hlA] at hoA
        go_roundw
        case rel => exact ⟨j + 1, XS ++ [⟨f, t, la, co⟩], va, vc, by omega, by go_num, HS.out.symm, by rw [hlA]; exact hbq.set 1 _, by rw [hlA]; exact hoA.box_set hbq (by decide), hbB.setCell (Nat.le_refl _) _⟩
        case measure => simp [intOf]; omega
      · have HS : Hid ((x.take (j + 1)).filter (keepE m x s) = XS) := hid (by rw [HXS.out]; refine HN.out ?_; rw [HK.out]; simp; omega)
        have hdl : decide (r1 + co + r2 ≤ rb + s) = false := by simp; omega
        clear hle
        go_big_quiet (fail)
        go_wp2
        go_roundw
        case rel => exact ⟨j + 1, XS, sb, sd, by omega, by go_num, HS.out.symm, hbox6, ho6, below_drewN hb6 _⟩
        case measure => simp [intOf]; omega
    · obtain rfl : j = x.length := by omega
      have r3' := q2'.below hb hl2
      have b0 := r3'.cell (j := 0) rfl
      have b1 := r3'.cell (j := 1) rfl
      have bf := r3'.free
      have HZ2 : Hid (pruneLt ((m : Int), x) s = ((m : Int), XS) ∧ pruneC ((m : Int), x) s = 0) := by
        show _ ∧ _
        have e := HXS.out
        rw [List.take_length] at e
        rw [e]; exact HZ.out
      have hfin := (ho.box_set r3' (u := .int .i64 m) (j := 0) (by decide)).box_set (r3'.set 0 (.int .i64 m)) (u := .slice sb XS.length sd) (j := 1) (by decide)
      go_wp2
      refine bodyPost_ret (v := .tuple #[.agg #[.int .i64 m, .slice sb XS.length sd], .int .i64 0]) (by simp [results, Try.results21, go_sem, b0, b1]) rfl (finish _ _ _ _ _ _ _ HZ2 (hfin.mono hwH) ?_)
      exact ((hbH.trans (hb.mono hwH)).setCell hge2 _).setCell hge2 _
end Go.Proofs.Ytkgfonchklnckaa
