import Derived.Test.YtmefjlcbkflbmaaLx2
import Derived.Test.YtmefjlcbkflbmaaReg
namespace Go.Proofs.Ytmefjlcbkflbmaa
open Go.RowKit

def eqEn (x y : En) : Bool := x.word.toList == y.word.toList && x.cost == y.cost

theorem neqEn (x y : En) (w : World) : (Op.equalIn 10000 50 (.agg #[.string x.word, .int .i64 x.cost]) (.agg #[.string y.word, .int .i64 y.cost])).run Try.prog w = .ok (eqEn x y) w := by
  have hS : Try.prog.underlying 50 = some (.struct (Try.prog.fieldsOf 50)) := by kernel_rfl
  have hp : Try.prog.stoodInHeld 50 = false := by kernel_rfl
  rw [show (10000 : Nat) = 9999 + 1 from rfl, run_equalIn_agg w 9999 50 _ _ hS hp]
  simp only [Program.fieldsOf, Try.underlying50]
  go_simp
  unfold eqEn
  by_cases h1 : x.word.toList = y.word.toList <;> by_cases h2 : x.cost = y.cost <;> simp [h1, h2]

set_option maxHeartbeats 400000 in
theorem l16Same_any (p1 p2 : Nat) (v1 v2 : Value) (xs ys : List En) (w : World) (hp1 : w.cell? ⟨p1, 0, none⟩ = some v1) (hp2 : w.cell? ⟨p2, 0, none⟩ = some v2) (h1 : Arr enE w v1 xs) (h2 : Arr enE w v2 ys) :
    Calls Try.prog 32 #[.pointer (some ⟨p1, 0, none⟩), .pointer (some ⟨p2, 0, none⟩)] w (Ret (.bool (allEq eqEn xs ys)) w) := by
  obtain ⟨b, off, ao, cap, rfl, hnc, hcm, hao, hc⟩ := h1
  obtain ⟨b2, off2, ao2, cap2, rfl, hnc2, hcm2, hao2, hc2⟩ := h2
  unfold maxLen at hcm hcm2
  have q1 := ext_cell hp1
  have q2 := ext_cell hp2
  by_cases hl : xs.length = ys.length
  case neg =>
    have hne : ((xs.length : Int) != (ys.length : Int)) = true := by rw [bne_iff_ne]; omega
    go_enter Try.func32, Try.ntmps32
    go_wp2
    refine wp_region_ext (by kernel_rfl) (by kernel_rfl) ?_
    repeat (go_big_quiet_step (fail))
    refine wpQuiet_nil ?_
    intro _ hw'
    obtain ⟨nq, hw''⟩ := hw'
    subst hw''
    go_wp2
    go_ret
    exact ret_bool (allEq_len hl).symm (ext_below _ _)
  case pos =>
    have hne : ((xs.length : Int) != (ys.length : Int)) = false := by rw [bne_eq_false_iff_eq]; omega
    have HL := hid hl
    clear hl
    go_enter Try.func32, Try.ntmps32
    go_wp2
    refine wp_region_ext (by kernel_rfl) (by kernel_rfl) ?_
    repeat (go_big_quiet_step (fail))
    refine wpQuiet_nil ?_
    intro _ hw'
    obtain ⟨nq, hw''⟩ := hw'
    subst hw''
    go_wp2
    go_loopw [5] (fun i wr => ∃ k : Nat, k ≤ xs.length ∧ i = .int .i64 k ∧ Below w.heap.size w wr ∧ ∀ j x y, j < k → xs[j]? = some x → ys[j]? = some y → eqEn x y = true) (fun i _ => xs.length - (intOf i).toNat)
    case atStart => exact ⟨0, Nat.zero_le _, rfl, ext_below _ _, fun j x y h => by omega⟩
    case round =>
      obtain ⟨k, hk, rfl, hb, hall⟩ := hrel
      have HA := hid hall
      clear hall hne
      have q1 := (hb.cell (p := ⟨p1, 0, none⟩) (World.block_lt_of_cell? w _ hp1)).trans hp1
      have q2 := (hb.cell (p := ⟨p2, 0, none⟩) (World.block_lt_of_cell? w _ hp2)).trans hp2
      have q1e := ext_cell q1
      have q2e := ext_cell q2
      clear hp1 hp2
      by_cases hlt : k < xs.length
      · have hlt2 : k < ys.length := by have := HL.out; omega
        obtain ⟨hao', hbw⟩ := hao (by omega)
        obtain ⟨hao2', hbw2⟩ := hao2 (by omega)
        subst hao' hao2'
        obtain ⟨x, hx⟩ : ∃ x, xs[k]? = some x := ⟨_, List.getElem?_eq_getElem hlt⟩
        obtain ⟨y, hy⟩ : ∃ y, ys[k]? = some y := ⟨_, List.getElem?_eq_getElem hlt2⟩
        obtain ⟨c0, c1⟩ := enE_cells (hc.below hb hbw) hx
        obtain ⟨d0, d1⟩ := enE_cells (hc2.below hb hbw2) hy
        have c0 := ext_cell c0
        have c1 := ext_cell c1
        have d0 := ext_cell d0
        have d1 := ext_cell d1
        clear hao hao2
        have hli : (k : Int) < (xs.length : Int) := by omega
        have hli2 : (k : Int) < (ys.length : Int) := by omega
        have HX := hid hx
        have HY := hid hy
        clear hx hy
        have hgd : ∀ (o1 o2 : Operand) (w : World), (eqGuard .neq 50 o1 o2 (.agg #[.string x.word, .int .i64 x.cost]) (.agg #[.string y.word, .int .i64 y.cost])).run Try.prog w = .ok () w := fun o1 o2 w => run_eqGuard_agg w .neq _ o1 o2 _ _ (by kernel_rfl)
        have hne := neqEn x y
        cases he : eqEn x y
        · rw [he] at hne
          go_wp2
          refine wp_region_ext (by kernel_rfl) (by kernel_rfl) ?_
          repeat (go_big_quiet_step (fail))
          refine wpQuiet_nil ?_
          intro _ hw'
          obtain ⟨nq2, hw''⟩ := hw'
          subst hw''
          go_wp2
          go_ret
          exact ret_bool (allEq_at HX.out HY.out he).symm (hb.trans ((ext_below _ _).mono hb.size))
        · rw [he] at hne
          go_wp2
          refine wp_region_ext (by kernel_rfl) (by kernel_rfl) ?_
          repeat (go_big_quiet_step (fail))
          refine wpQuiet_nil ?_
          intro _ hw'
          obtain ⟨nq2, hw''⟩ := hw'
          subst hw''
          go_wp2
          go_roundw
          case rel =>
            refine ⟨k + 1, by omega, by go_num, hb.trans ((ext_below _ _).mono hb.size), fun j x' y' hj hx' hy' => ?_⟩
            by_cases e : j = k
            · subst e
              have h1 := HX.out.symm.trans hx'
              have h2 := HY.out.symm.trans hy'
              simp at h1 h2
              rw [← h1, ← h2]; exact he
            · exact HA.out j x' y' (by omega) hx' hy'
          case measure => simp [intOf]; omega
      · go_wp2
        go_ret
        exact ret_bool (allEq_true HL.out fun j x y hj => HA.out j x y (by omega)).symm hb

set_option maxHeartbeats 400000 in
theorem specSameLexicon_any (v1 v2 : Value) (xs ys : List En) (w : World) (h1 : Arr enE w v1 xs) (h2 : Arr enE w v2 ys) :
    Calls Try.prog 13 #[.agg #[v1], .agg #[v2]] w (Ret (.bool (allEq eqEn xs ys)) w) := by
  go_enter Try.func13, Try.ntmps13
  go_wp2_with (go_at_call 32; refine (l16Same_any _ _ v1 v2 xs ys _ (by simp) (by simp) ((h1.alloc _).alloc _) ((h2.alloc _).alloc _)).mono ?_; rintro e w2 ⟨rfl, hb⟩)
  go_ret
  exact ret_bool rfl ((((Below.refl _ _).alloc (Nat.le_refl _) _).alloc (by simp) _).trans (hb.mono (by simp <;> omega)))

set_option maxHeartbeats 400000 in
theorem slicesEqualEn_any (v1 v2 : Value) (xs ys : List En) (w : World) (h1 : Arr enE w v1 xs) (h2 : Arr enE w v2 ys) :
    Calls Try.prog 34 #[v1, v2] w (Ret (.bool (allEq eqEn xs ys)) w) := by
  obtain ⟨b, off, ao, cap, rfl, hnc, hcm, hao, hc⟩ := h1
  obtain ⟨b2, off2, ao2, cap2, rfl, hnc2, hcm2, hao2, hc2⟩ := h2
  unfold maxLen at hcm hcm2
  by_cases hl : xs.length = ys.length
  case neg =>
    have hne : ((xs.length : Int) != (ys.length : Int)) = true := by rw [bne_iff_ne]; omega
    go_enter Try.func34, Try.ntmps34
    go_wp2
    go_ret
    exact ret_bool (allEq_len hl).symm (Below.refl _ _)
  case pos =>
    have hne : ((xs.length : Int) != (ys.length : Int)) = false := by rw [bne_eq_false_iff_eq]; omega
    have HL := hid hl
    clear hl
    go_enter Try.func34, Try.ntmps34
    go_wp2
    go_loopw [5, 13] (fun _ i wr => ∃ k : Nat, k ≤ xs.length ∧ i = .int .i64 k ∧ Below w.heap.size w wr ∧ ∀ j x y, j < k → xs[j]? = some x → ys[j]? = some y → eqEn x y = true) (fun _ i _ => xs.length - (intOf i).toNat)
    case atStart => exact ⟨0, Nat.zero_le _, rfl, Below.refl _ _, fun j x y h => by omega⟩
    case round =>
      obtain ⟨k, hk, rfl, hb, hall⟩ := hrel
      have HA := hid hall
      clear hall hne
      by_cases hlt : k < xs.length
      · have hlt2 : k < ys.length := by have := HL.out; omega
        obtain ⟨hao', hbw⟩ := hao (by omega)
        obtain ⟨hao2', hbw2⟩ := hao2 (by omega)
        subst hao' hao2'
        obtain ⟨x, hx⟩ : ∃ x, xs[k]? = some x := ⟨_, List.getElem?_eq_getElem hlt⟩
        obtain ⟨y, hy⟩ : ∃ y, ys[k]? = some y := ⟨_, List.getElem?_eq_getElem hlt2⟩
        obtain ⟨c0, c1⟩ := enE_cells (hc.below hb hbw) hx
        obtain ⟨d0, d1⟩ := enE_cells (hc2.below hb hbw2) hy
        have c0 := ext_cell c0
        have c1 := ext_cell c1
        have d0 := ext_cell d0
        have d1 := ext_cell d1
        clear hao hao2
        have hli : (k : Int) < (xs.length : Int) := by omega
        have hli2 : (k : Int) < (ys.length : Int) := by omega
        have HX := hid hx
        have HY := hid hy
        clear hx hy
        have hgd : ∀ (o1 o2 : Operand) (w : World), (eqGuard .neq 50 o1 o2 (.agg #[.string x.word, .int .i64 x.cost]) (.agg #[.string y.word, .int .i64 y.cost])).run Try.prog w = .ok () w := fun o1 o2 w => run_eqGuard_agg w .neq _ o1 o2 _ _ (by kernel_rfl)
        have hne := neqEn x y
        cases he : eqEn x y
        · rw [he] at hne
          go_wp2
          refine wp_region_ext (by kernel_rfl) (by kernel_rfl) ?_
          repeat (go_big_quiet_step (fail))
          refine wpQuiet_nil ?_
          intro _ hw'
          obtain ⟨nq2, hw''⟩ := hw'
          subst hw''
          go_wp2
          go_ret
          exact ret_bool (allEq_at HX.out HY.out he).symm (hb.trans ((ext_below _ _).mono hb.size))
        · rw [he] at hne
          go_wp2
          refine wp_region_ext (by kernel_rfl) (by kernel_rfl) ?_
          repeat (go_big_quiet_step (fail))
          refine wpQuiet_nil ?_
          intro _ hw'
          obtain ⟨nq2, hw''⟩ := hw'
          subst hw''
          go_wp2
          go_roundw
          case rel =>
            refine ⟨k + 1, by omega, by go_num, hb.trans ((ext_below _ _).mono hb.size), fun j x' y' hj hx' hy' => ?_⟩
            by_cases e : j = k
            · subst e
              have h1 := HX.out.symm.trans hx'
              have h2 := HY.out.symm.trans hy'
              simp at h1 h2
              rw [← h1, ← h2]; exact he
            · exact HA.out j x' y' (by omega) hx' hy'
          case measure => simp [intOf]; omega
      · go_wp2
        go_ret
        exact ret_bool (allEq_true HL.out fun j x y hj => HA.out j x y (by omega)).symm hb

set_option maxHeartbeats 400000 in
theorem toLexicon_any (v : Value) (xs : List En) (w : World) (h1 : Arr enE w v xs) (hn : xs.length ≤ 1048576) :
    Calls Try.prog 14 #[.agg #[v]] w fun e w' => ∃ u, e = .returned (.agg #[u]) ∧ Own enE 50 w.heap.size w' u xs ∧ Below w.heap.size w w' := by
  go_enter Try.func14, Try.ntmps14
  go_wp2_with (go_at_call 33; refine (toEntryS_any _ xs _ (((h1.alloc _).alloc _).alloc _) hn).mono ?_; rintro e w2 ⟨u, rfl, ho, hb⟩; obtain ⟨sa, sc, hu⟩ := ho.isSlice; subst hu; obtain ⟨hc, hf⟩ := bcell hb)
  refine bodyPost_ret (v := .agg #[.slice sa xs.length sc]) (by simp [results, Try.results14, go_sem, hc]) rfl ⟨_, rfl, ?_, ?_⟩
  · exact ((ho.setBelow (by simp) _).setBelow (by simp <;> omega) _).mono (by simp <;> omega)
  · exact ((((((Below.refl _ _).alloc (Nat.le_refl _) _).alloc (by simp) _).alloc (by simp <;> omega) _).trans (hb.mono (by simp <;> omega))).setCell (by simp <;> omega) _).setCell (by simp) _

set_option maxHeartbeats 400000 in
theorem szLexicon_any (v : Value) (xs : List En) (left : Int) (w : World) (h1 : Arr enE w v xs) (hs : ∀ x ∈ xs, x.word.size ≤ maxLen) (hl : 0 ≤ left) (hu : left ≤ 1048576) :
    Calls Try.prog 12 #[.agg #[v], .int .i64 left] w (Ret (.int .i64 (szOf (xs.length + sumOf szEn xs) left)) w) := by
  by_cases hf : left < (xs.length + sumOf szEn xs : Nat)
  all_goals
    go_enter Try.func12, Try.ntmps12
    go_wp2_with (go_at_call 31; refine (szEntryS_any _ xs _ _ (h1.alloc _) hs hl hu).mono ?_; rintro e w2 ⟨rfl, hb⟩; first | rw [szOf_neg (by omega)] | rw [szOf_pos (by omega)])
    go_ret
    exact ret_int (by first | rw [szOf_neg (by omega)] | (rw [szOf_pos (by omega)]; omega)) (((Below.refl _ _).alloc (Nat.le_refl _) _).trans (hb.mono (by simp)))

set_option maxHeartbeats 400000 in
theorem eqLexicon_any (v1 v2 : Value) (xs : List En) (w : World) (h1 : Arr enE w v1 xs) (h2 : Arr enE w v2 xs) :
    Calls Try.prog 16 #[.agg #[v1], .agg #[v2]] w (Ret (.bool true) w) := by
  go_enter Try.func16, Try.ntmps16
  go_wp2_with (go_at_call 35; refine (eqEntryS_any _ _ xs _ ((h1.alloc _).alloc _) ((h2.alloc _).alloc _)).mono ?_; rintro e w2 ⟨rfl, hb⟩)
  go_ret
  exact ret_bool rfl ((((Below.refl _ _).alloc (Nat.le_refl _) _).alloc (by simp) _).trans (hb.mono (by simp <;> omega)))

set_option maxHeartbeats 400000 in
theorem implSameLexicon_any (v1 v2 : Value) (xs ys : List En) (w : World) (h1 : Arr enE w v1 xs) (h2 : Arr enE w v2 ys) :
    Calls Try.prog 15 #[.agg #[v1], .agg #[v2]] w (Ret (.bool (allEq eqEn xs ys)) w) := by
  go_enter Try.func15, Try.ntmps15
  go_wp2_with (go_at_call 34; refine (slicesEqualEn_any _ _ xs ys _ ((h1.alloc _).alloc _) ((h2.alloc _).alloc _)).mono ?_; rintro e w2 ⟨rfl, hb⟩)
  go_ret
  exact ret_bool rfl ((((Below.refl _ _).alloc (Nat.le_refl _) _).alloc (by simp) _).trans (hb.mono (by simp <;> omega)))
end Go.Proofs.Ytmefjlcbkflbmaa
