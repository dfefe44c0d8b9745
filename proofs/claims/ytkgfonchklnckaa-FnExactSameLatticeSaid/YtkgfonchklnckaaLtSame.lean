/- Lattices compared: the calls that tell whether two are the same. -/
import Derived.Test.YtkgfonchklnckaaWrLattice
import Derived.Test.YtkgfonchklnckaaStr
namespace Go.Proofs.Ytkgfonchklnckaa
open Go.RowKit

def eqEd (x y : DEdge) : Bool := x.frm == y.frm && x.to_ == y.to_ && x.label.toList == y.label.toList && x.cost == y.cost

theorem neqEd (x y : DEdge) (w : World) : (Op.equalIn 10000 49 (.agg #[.int .i64 x.frm, .int .i64 x.to_, .string x.label, .int .i64 x.cost]) (.agg #[.int .i64 y.frm, .int .i64 y.to_, .string y.label, .int .i64 y.cost])).run Try.prog w = .ok (eqEd x y) w := by
  have hS : Try.prog.underlying 49 = some (.struct (Try.prog.fieldsOf 49)) := by kernel_rfl
  have hp : Try.prog.stoodInHeld 49 = false := by kernel_rfl
  rw [show (10000 : Nat) = 9999 + 1 from rfl, run_equalIn_agg w 9999 49 _ _ hS hp]
  simp only [Program.fieldsOf, Try.underlying49]
  go_simp
  unfold eqEd
  by_cases h1 : x.frm = y.frm <;> by_cases h2 : x.to_ = y.to_ <;> by_cases h3 : x.label.toList = y.label.toList <;> by_cases h4 : x.cost = y.cost <;> simp [h1, h2, h3, h4]

def sameLt (x y : XLattice) : Bool := x.1 == y.1 && allEq eqEd x.2 y.2

set_option maxHeartbeats 400000 in
theorem l15Same_any (p1 p2 : Nat) (n1 n2 : Int) (v1 v2 : Value) (xs ys : List DEdge) (w : World) (hm1 : w.cell? ⟨p1, 0, none⟩ = some (.int .i64 n1)) (hm2 : w.cell? ⟨p2, 0, none⟩ = some (.int .i64 n2)) (hp1 : w.cell? ⟨p1, 1, none⟩ = some v1) (hp2 : w.cell? ⟨p2, 1, none⟩ = some v2) (h1 : Arr eEdge w v1 xs) (h2 : Arr eEdge w v2 ys) :
    Calls Try.prog 27 #[.pointer (some ⟨p1, 0, none⟩), .pointer (some ⟨p2, 0, none⟩)] w (Ret (.bool (n1 == n2 && allEq eqEd xs ys)) w) := by
  obtain ⟨b, off, ao, cap, rfl, hnc, hcm, hao, hc⟩ := h1
  obtain ⟨b2, off2, ao2, cap2, rfl, hnc2, hcm2, hao2, hc2⟩ := h2
  unfold maxLen at hcm hcm2
  have q1 := ext_cell hp1
  have q2 := ext_cell hp2
  have m1 := ext_cell hm1
  have m2 := ext_cell hm2
  by_cases hnn' : n1 = n2
  case neg =>
    have hnn : (n1 != n2) = true := by rw [bne_iff_ne]; exact hnn'
    have hbe : (n1 == n2) = false := by rw [beq_eq_false_iff_ne]; exact hnn'
    go_enter Try.func27, Try.ntmps27
    go_wp2
    refine wp_region_ext (by kernel_rfl) (by kernel_rfl) ?_
    repeat (go_big_quiet_step (fail))
    refine wpQuiet_nil ?_
    intro _ hw'
    obtain ⟨nq, hw''⟩ := hw'
    subst hw''
    go_wp2
    go_ret
    exact ret_bool (by rw [hbe]; rfl) (ext_below _ _)
  have hnn : (n1 != n2) = false := by rw [bne_eq_false_iff_eq]; exact hnn'
  have HE2 : Hid ((n1 == n2) = true) := by show (n1 == n2) = true; rw [beq_iff_eq]; exact hnn'
  clear hnn'
  by_cases hl : xs.length = ys.length
  case neg =>
    have hne : ((xs.length : Int) != (ys.length : Int)) = true := by rw [bne_iff_ne]; omega
    go_enter Try.func27, Try.ntmps27
    go_wp2
    refine wp_region_ext (by kernel_rfl) (by kernel_rfl) ?_
    repeat (go_big_quiet_step (fail))
    refine wpQuiet_nil ?_
    intro _ hw'
    obtain ⟨nq, hw''⟩ := hw'
    subst hw''
    go_wp2
    go_ret
    exact ret_bool (by rw [HE2.out, Bool.true_and]; exact (allEq_len hl).symm) (ext_below _ _)
  case pos =>
    have hne : ((xs.length : Int) != (ys.length : Int)) = false := by rw [bne_eq_false_iff_eq]; omega
    have HL := hid hl
    clear hl
    go_enter Try.func27, Try.ntmps27
    go_wp2
    refine wp_region_ext (by kernel_rfl) (by kernel_rfl) ?_
    repeat (go_big_quiet_step (fail))
    refine wpQuiet_nil ?_
    intro _ hw'
    obtain ⟨nq, hw''⟩ := hw'
    subst hw''
    go_wp2
    go_loopw [5] (fun i wr => ∃ k : Nat, k ≤ xs.length ∧ i = .int .i64 k ∧ Below w.heap.size w wr ∧ ∀ j x y, j < k → xs[j]? = some x → ys[j]? = some y → eqEd x y = true) (fun i _ => xs.length - (intOf i).toNat)
    case atStart => exact ⟨0, Nat.zero_le _, rfl, ext_below _ _, fun j x y h => by omega⟩
    case round =>
      obtain ⟨k, hk, rfl, hb, hall⟩ := hrel
      have HA := hid hall
      clear hall hne hnn
      have q1 := (hb.cell (p := ⟨p1, 1, none⟩) (World.block_lt_of_cell? w _ hp1)).trans hp1
      have q2 := (hb.cell (p := ⟨p2, 1, none⟩) (World.block_lt_of_cell? w _ hp2)).trans hp2
      have q1e := ext_cell q1
      have q2e := ext_cell q2
      clear hp1 hp2 hm1 hm2 m1 m2
      by_cases hlt : k < xs.length
      · have hlt2 : k < ys.length := by have := HL.out; omega
        obtain ⟨hao', hbw⟩ := hao (by omega)
        obtain ⟨hao2', hbw2⟩ := hao2 (by omega)
        subst hao' hao2'
        obtain ⟨x, hx⟩ : ∃ x, xs[k]? = some x := ⟨_, List.getElem?_eq_getElem hlt⟩
        obtain ⟨y, hy⟩ : ∃ y, ys[k]? = some y := ⟨_, List.getElem?_eq_getElem hlt2⟩
        obtain ⟨c0, c1, c2, c3⟩ := eEdge_cells (hc.below hb hbw) hx
        obtain ⟨d0, d1, d2, d3⟩ := eEdge_cells (hc2.below hb hbw2) hy
        have c0 := ext_cell c0
        have c1 := ext_cell c1
        have c2 := ext_cell c2
        have c3 := ext_cell c3
        have d0 := ext_cell d0
        have d1 := ext_cell d1
        have d2 := ext_cell d2
        have d3 := ext_cell d3
        clear hao hao2
        have hli : (k : Int) < (xs.length : Int) := by omega
        have hli2 : (k : Int) < (ys.length : Int) := by omega
        have HX := hid hx
        have HY := hid hy
        clear hx hy
        have hgd : ∀ (o1 o2 : Operand) (w : World), (eqGuard .neq 49 o1 o2 (.agg #[.int .i64 x.frm, .int .i64 x.to_, .string x.label, .int .i64 x.cost]) (.agg #[.int .i64 y.frm, .int .i64 y.to_, .string y.label, .int .i64 y.cost])).run Try.prog w = .ok () w := fun o1 o2 w => run_eqGuard_agg w .neq _ o1 o2 _ _ (by kernel_rfl)
        have hne := neqEd x y
        cases he : eqEd x y
        · rw [he] at hne
          go_wp2
          refine wp_region_ext (by kernel_rfl) (by kernel_rfl) ?_
          repeat (go_big_quiet_step (fail))
          refine wpQuiet_nil ?_
          intro _ hw'
          obtain ⟨nq2, hw''⟩ := hw'
          subst hw''
          go_wp2
          go_ret
          exact ret_bool (by rw [HE2.out, Bool.true_and]; exact (allEq_at HX.out HY.out he).symm) (hb.trans ((ext_below _ _).mono hb.size))
        · rw [he] at hne
          go_wp2
          refine wp_region_ext (by kernel_rfl) (by kernel_rfl) ?_
          repeat (go_big_quiet_step (fail))
          refine wpQuiet_nil ?_
          intro _ hw'
          obtain ⟨nq2, hw''⟩ := hw'
          subst hw''
          go_wp2
          go_roundw
          case rel =>
            refine ⟨k + 1, by omega, by go_num, hb.trans ((ext_below _ _).mono hb.size), fun j x' y' hj hx' hy' => ?_⟩
            by_cases e : j = k
            · subst e
              have h1 := HX.out.symm.trans hx'
              have h2 := HY.out.symm.trans hy'
              simp at h1 h2
              rw [← h1, ← h2]; exact he
            · exact HA.out j x' y' (by omega) hx' hy'
          case measure => simp [intOf]; omega
      · go_wp2
        go_ret
        exact ret_bool (by rw [HE2.out, Bool.true_and]; exact (allEq_true HL.out fun j x y hj => HA.out j x y (by omega)).symm) hb
set_option maxHeartbeats 400000 in
theorem specSameLattice_any (v1 : Value) (x : XLattice) (v2 : Value) (y : XLattice) (w : World) {lo1 hi1 lo2 hi2 : Nat} (h1 : rLattice.at_ lo1 hi1 w v1 x) (h2 : rLattice.at_ lo2 hi2 w v2 y) (_ : okLattice x) (_ : okLattice y) (_ : goodLattice x) (_ : goodLattice y) :
    Calls Try.prog 10 #[v1, v2] w (Ret (.bool (sameLt x y)) w) := by
  obtain ⟨u1, rfl, h1⟩ := h1
  obtain ⟨u2, rfl, h2⟩ := h2
  replace h1 := ArrIn.arr h1
  replace h2 := ArrIn.arr h2
  go_enter Try.func10, Try.ntmps10
  go_wp2_with (go_at_call 27; refine (l15Same_any _ _ x.1 y.1 u1 u2 x.2 y.2 _ (by simp) (by simp) (by simp) (by simp) ((h1.alloc _).alloc _) ((h2.alloc _).alloc _)).mono ?_; rintro e w2 ⟨rfl, hb⟩)
  go_ret
  exact ret_bool rfl ((((Below.refl _ _).alloc (Nat.le_refl _) _).alloc (by simp) _).trans (hb.mono (by simp <;> omega)))
set_option maxHeartbeats 400000 in
theorem slicesEqualEd_any (v1 v2 : Value) (xs ys : List DEdge) (w : World) (h1 : Arr eEdge w v1 xs) (h2 : Arr eEdge w v2 ys) :
    Calls Try.prog 29 #[v1, v2] w (Ret (.bool (allEq eqEd xs ys)) w) := by
  obtain ⟨b, off, ao, cap, rfl, hnc, hcm, hao, hc⟩ := h1
  obtain ⟨b2, off2, ao2, cap2, rfl, hnc2, hcm2, hao2, hc2⟩ := h2
  unfold maxLen at hcm hcm2
  by_cases hl : xs.length = ys.length
  case neg =>
    have hne : ((xs.length : Int) != (ys.length : Int)) = true := by rw [bne_iff_ne]; omega
    go_enter Try.func29, Try.ntmps29
    go_wp2
    go_ret
    exact ret_bool (allEq_len hl).symm (Below.refl _ _)
  case pos =>
    have hne : ((xs.length : Int) != (ys.length : Int)) = false := by rw [bne_eq_false_iff_eq]; omega
    have HL := hid hl
    clear hl
    go_enter Try.func29, Try.ntmps29
    go_wp2
    go_loopw [5, 13] (fun _ i wr => ∃ k : Nat, k ≤ xs.length ∧ i = .int .i64 k ∧ Below w.heap.size w wr ∧ ∀ j x y, j < k → xs[j]? = some x → ys[j]? = some y → eqEd x y = true) (fun _ i _ => xs.length - (intOf i).toNat)
    case atStart => exact ⟨0, Nat.zero_le _, rfl, Below.refl _ _, fun j x y h => by omega⟩
    case round =>
      obtain ⟨k, hk, rfl, hb, hall⟩ := hrel
      have HA := hid hall
      clear hall hne
      by_cases hlt : k < xs.length
      · have hlt2 : k < ys.length := by have := HL.out; omega
        obtain ⟨hao', hbw⟩ := hao (by omega)
        obtain ⟨hao2', hbw2⟩ := hao2 (by omega)
        subst hao' hao2'
        obtain ⟨x, hx⟩ : ∃ x, xs[k]? = some x := ⟨_, List.getElem?_eq_getElem hlt⟩
        obtain ⟨y, hy⟩ : ∃ y, ys[k]? = some y := ⟨_, List.getElem?_eq_getElem hlt2⟩
        obtain ⟨c0, c1, c2, c3⟩ := eEdge_cells (hc.below hb hbw) hx
        obtain ⟨d0, d1, d2, d3⟩ := eEdge_cells (hc2.below hb hbw2) hy
        have c0 := ext_cell c0
        have c1 := ext_cell c1
        have c2 := ext_cell c2
        have c3 := ext_cell c3
        have d0 := ext_cell d0
        have d1 := ext_cell d1
        have d2 := ext_cell d2
        have d3 := ext_cell d3
        clear hao hao2
        have hli : (k : Int) < (xs.length : Int) := by omega
        have hli2 : (k : Int) < (ys.length : Int) := by omega
        have HX := hid hx
        have HY := hid hy
        clear hx hy
        have hgd : ∀ (o1 o2 : Operand) (w : World), (eqGuard .neq 49 o1 o2 (.agg #[.int .i64 x.frm, .int .i64 x.to_, .string x.label, .int .i64 x.cost]) (.agg #[.int .i64 y.frm, .int .i64 y.to_, .string y.label, .int .i64 y.cost])).run Try.prog w = .ok () w := fun o1 o2 w => run_eqGuard_agg w .neq _ o1 o2 _ _ (by kernel_rfl)
        have hne := neqEd x y
        cases he : eqEd x y
        · rw [he] at hne
          go_wp2
          refine wp_region_ext (by kernel_rfl) (by kernel_rfl) ?_
          repeat (go_big_quiet_step (fail))
          refine wpQuiet_nil ?_
          intro _ hw'
          obtain ⟨nq2, hw''⟩ := hw'
          subst hw''
          go_wp2
          go_ret
          exact ret_bool (allEq_at HX.out HY.out he).symm (hb.trans ((ext_below _ _).mono hb.size))
        · rw [he] at hne
          go_wp2
          refine wp_region_ext (by kernel_rfl) (by kernel_rfl) ?_
          repeat (go_big_quiet_step (fail))
          refine wpQuiet_nil ?_
          intro _ hw'
          obtain ⟨nq2, hw''⟩ := hw'
          subst hw''
          go_wp2
          go_roundw
          case rel =>
            refine ⟨k + 1, by omega, by go_num, hb.trans ((ext_below _ _).mono hb.size), fun j x' y' hj hx' hy' => ?_⟩
            by_cases e : j = k
            · subst e
              have h1 := HX.out.symm.trans hx'
              have h2 := HY.out.symm.trans hy'
              simp at h1 h2
              rw [← h1, ← h2]; exact he
            · exact HA.out j x' y' (by omega) hx' hy'
          case measure => simp [intOf]; omega
      · go_wp2
        go_ret
        exact ret_bool (allEq_true HL.out fun j x y hj => HA.out j x y (by omega)).symm hb
set_option maxHeartbeats 400000 in
theorem implSameLattice_any (v1 : Value) (x : XLattice) (v2 : Value) (y : XLattice) (w : World) {lo1 hi1 lo2 hi2 : Nat} (h1 : rLattice.at_ lo1 hi1 w v1 x) (h2 : rLattice.at_ lo2 hi2 w v2 y) (_ : okLattice x) (_ : okLattice y) (_ : goodLattice x) (_ : goodLattice y) :
    Calls Try.prog 12 #[v1, v2] w (Ret (.bool (sameLt x y)) w) := by
  obtain ⟨u1, rfl, h1⟩ := h1
  obtain ⟨u2, rfl, h2⟩ := h2
  replace h1 := ArrIn.arr h1
  replace h2 := ArrIn.arr h2
  have hbb : Below w.heap.size w ((w.alloc (.cells #[.int .i64 x.1, u1] 29)).alloc (.cells #[.int .i64 y.1, u2] 29)) := ((Below.refl _ _).alloc (Nat.le_refl _) _).alloc (by simp) _
  cases hn : (x.1 == y.1)
  · go_enter Try.func12, Try.ntmps12
    go_wp2_with fail
    go_ret
    exact ret_bool (by rw [sameLt, hn]; rfl) hbb
  · go_enter Try.func12, Try.ntmps12
    go_wp2_with (go_at_call 29; refine (slicesEqualEd_any _ _ x.2 y.2 _ ((h1.alloc _).alloc _) ((h2.alloc _).alloc _)).mono ?_; rintro e w2 ⟨rfl, hb⟩)
    go_ret
    exact ret_bool (by rw [sameLt, hn, Bool.true_and]) (hbb.trans (hb.mono (by simp <;> omega)))
end Go.Proofs.Ytkgfonchklnckaa
