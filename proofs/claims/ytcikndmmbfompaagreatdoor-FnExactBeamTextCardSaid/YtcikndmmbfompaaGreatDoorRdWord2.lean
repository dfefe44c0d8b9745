/- The word that a beam finds: the implementation's way, and both calls. -/
import Derived.Test.YtcikndmmbfompaaGreatDoorRdWord
import Derived.Test.YtcikndmmbfompaaGreatDoorRdImp
import Derived.Deep.RegionHeld3
namespace Go.Proofs.YtcikndmmbfompaaGreatDoor
open Go.RowKit Go.Sort
attribute [local go_sem ↓] Go.wp_at_zero Go.wp_at_succ

theorem minL_none {X : List DFound} (h : minL X = none) : X = [] := by
  cases X with
  | nil => rfl
  | cons a t => obtain ⟨b, hb⟩ := minL_some (X := a :: t) (by simp); rw [hb] at h; cases h

set_option maxHeartbeats 8000000 in
set_option maxRecDepth 100000 in
theorem beamWord_any (v1 v2 : Value) (N m : Nat) (x : List DEdge) (y : XLexicon) (w : World) {lo1 hi1 lo2 hi2 : Nat} (h1 : rLattice.at_ lo1 hi1 w v1 ((N : Int), x)) (h2 : rLexicon.at_ lo2 hi2 w v2 y) (oky : okLexicon y) (gy : goodLexicon y) (hv : validLt ((N : Int), x) = true) (hs : Sorted y) (hm1 : 1 ≤ m) (hm : m ≤ 30) (o : Option DFound) (ho : bwO ((N : Int), x) y m = o) :
    Calls Tryz.prog 21 #[v1, v2, .int .i64 m] w (Ret (.tuple #[vF (o.getD fz), .bool o.isSome]) w) := by
  obtain ⟨u1, rfl, h1⟩ := h1
  obtain ⟨u2, rfl, h2⟩ := h2
  replace h1 := ArrIn.arr h1
  replace h2 := ArrIn.arr h2
  obtain ⟨a1, k1, hu⟩ := h1.isSlice
  subst hu
  simp only at h1
  obtain ⟨b1, b2, b3⟩ := valid_bd hv
  have hNi : (N : Int) ≤ 20 := by omega
  have hN0 : 0 < N := by omega
  have hNw : IntKind.i64.wrap ((N : Int) - 1) = (N : Int) - 1 := IntWalk.i64_in _ (by omega)
  have hNt : ((N : Int) - 1).toNat = N - 1 := by omega
  have hN1 : 0 ≤ (N : Int) - 1 := by omega
  have hN2 : (N : Int) - 1 < (N : Int) := by omega
  have hlen := stB_ok (y := y) (m := m) hv hm1 (N - 1)
  obtain ⟨RS, hRS⟩ : ∃ RS, RS = stB ((N : Int), x) y m (N - 1) := ⟨_, rfl⟩
  have HO : Hid (minL (fndL y RS) = o) := hid (by rw [hRS, ← ho]; unfold bwO; simp only [Int.toNat_natCast, hNt])
  have HRS : Hid (pullR m (begLx y) (beg0 y) x (N - 1) (N - 1) = RS) := hid (by rw [hRS]; exact pull_eq (valid_good hv) (valid_rises hv) m (begLx y) (beg0 y) (N - 1) (N - 1) (Nat.le_refl _))
  rw [← hRS] at hlen
  clear hRS ho
  obtain ⟨by_, offy, ay, capy, hv2, hncy, hcmy, haoy, hcy⟩ := id h2
  subst hv2
  unfold maxLen at hcmy
  have oky' : y.length ≤ 1048576 := oky
  obtain ⟨W, hW⟩ : ∃ W, W = ((w.alloc (.cells #[.int .i64 N, .slice a1 x.length k1] 33)).alloc (.cells #[.slice ay y.length capy] 37)).alloc (.cells #[.string ⟨#[]⟩, .int .i64 0, .int .i64 0] 48) := ⟨_, rfl⟩
  have hbW : Below w.heap.size w W := by rw [hW]; exact belowA3 _ _ _ _
  have q1 : Box W w.heap.size #[.int .i64 N, .slice a1 x.length k1] 33 := by rw [hW]; exact ((Box.new w _ _).alloc _).alloc _
  have q2 : Box W (w.heap.size + 1) #[.slice ay y.length capy] 37 := by
    rw [hW]
    have := Box.new (w.alloc (.cells #[.int .i64 N, .slice a1 x.length k1] 33)) #[.slice ay y.length capy] 37
    simp at this
    exact this.alloc _
  have q6 : Box W (w.heap.size + 1 + 1) #[.string ⟨#[]⟩, .int .i64 0, .int .i64 0] 48 := by
    rw [hW]
    have := Box.new ((w.alloc (.cells #[.int .i64 N, .slice a1 x.length k1] 33)).alloc (.cells #[.slice ay y.length capy] 37)) #[.string ⟨#[]⟩, .int .i64 0, .int .i64 0] 48
    simp at this
    exact this
  obtain ⟨p1, hp1⟩ : ∃ p, p = w.heap.size := ⟨_, rfl⟩
  obtain ⟨p2, hp2⟩ : ∃ p, p = w.heap.size + 1 := ⟨_, rfl⟩
  obtain ⟨p6, hp6⟩ : ∃ p, p = w.heap.size + 1 + 1 := ⟨_, rfl⟩
  rw [← hp1] at q1
  rw [← hp2] at q2
  rw [← hp6] at q6
  have hge6 : w.heap.size ≤ p6 := by omega
  have hlW : w.heap.size ≤ W.heap.size := hbW.size
  have hlt6 := q6.lt
  have hlt2 := q2.lt
  have hA := h1.below hbW
  have hB := h2.below hbW
  have hcW : 0 < y.length → Cells eEntry W by_ offy y := fun hl => hcy.below hbW (haoy hl).2
  have hbyW : 0 < y.length → by_ < W.heap.size := fun hl => Nat.lt_of_lt_of_le (haoy hl).2 hlW
  have hayW : 0 < y.length → ay = some ⟨by_, offy, none⟩ := fun hl => (haoy hl).1
  have c10 := q1.cell (j := 0) rfl
  have c11 := q1.cell (j := 1) rfl
  have c20 := q2.cell (j := 0) rfl
  have CM := hid (fun w' (hb : Below W.heap.size W w') => beam_any (.agg #[.int .i64 N, .slice a1 x.length k1]) N x (.agg #[.slice ay y.length capy]) y m w' (show rLattice.at_ 0 w'.heap.size w' _ ((N : Int), x) from ⟨_, rfl, (hA.below hb).in_⟩) (show rLexicon.at_ 0 w'.heap.size w' _ y from ⟨_, rfl, (hB.below hb).in_⟩) hv hs oky gy hm1 (by omega))
  have CP := hid (fun (s : ByteArray) w' (hb : Below W.heap.size W w') => placeOf_any (.agg #[.slice ay y.length capy]) y s w' (show rLexicon.at_ 0 w'.heap.size w' _ y from ⟨_, rfl, (hB.below hb).in_⟩) oky hs)
  have HP1 := hid hp1
  have HP2 := hid hp2
  have HP6 := hid hp6
  have HW := hid hW
  clear hp1 hp2 hp6 hW h1 h2 hcy haoy hv
  go_enter Tryz.func21, Tryz.ntmps21
  go_wp2_with fail
  rw [← HP6.out, ← HP2.out, ← HP1.out, ← HW.out]
  refine wp_region_rel (fun i v w' => match i with
    | 0 => v = .agg #[.int .i64 N, .slice a1 x.length k1]
    | 1 => v = .agg #[.slice ay y.length capy]
    | 2 => v = .int .i64 m
    | 3 => ∃ g vs, v = .slice (some ⟨g, 0, none⟩) N N ∧ RowsR g N w' vs (pullR m (begLx y) (beg0 y) x (N - 1)) ∧ W.heap.size ≤ g
    | 4 => v = .pointer (some ⟨p1, 0, none⟩)
    | 5 => v = .int .i64 N
    | 6 => v = .int .i64 ((N : Int) - 1)
    | 7 => ∃ g vs, v = .pointer (some ⟨g, N - 1, none⟩) ∧ RowsR g N w' vs (pullR m (begLx y) (beg0 y) x (N - 1)) ∧ W.heap.size ≤ g
    | 8 => NewR W.heap.size w' v RS
    | 9 => v = .int .i64 RS.length
    | _ => v = .int .i64 0) (by kernel_rfl) (by kernel_rfl) (by kernel_rfl) (by kernel_rfl) ?_ ?_ ?_
  · intro i v w w' h hb
    match i, h with
    | 0, h => exact h
    | 1, h => exact h
    | 2, h => exact h
    | 3, ⟨g, vs, h1, h2, h3⟩ => exact ⟨g, vs, h1, h2.below hb, h3⟩
    | 4, h => exact h
    | 5, h => exact h
    | 6, h => exact h
    | 7, ⟨g, vs, h1, h2, h3⟩ => exact ⟨g, vs, h1, h2.below hb, h3⟩
    | 8, h => exact NewR.below h hb
    | 9, h => exact h
    | (k + 10), h => exact h
  · refine ⟨?_, ?_, ?_, ?_, ?_, ?_, ?_, ?_, ?_, ?_, ?_, trivial⟩
    · intro ρ w' hbw ht hcs hfn hgl hdep
      refine ⟨fun _ => ?_, fun h => by cases h⟩
      have s3 : ρ (.tmp 3) = .pointer (some ⟨p1, 0, none⟩) := ht 3 rfl
      have d0 := cell_later hbw c10
      have d1 := cell_later hbw c11
      clear ht hdep
      go_simp
      exact ⟨Below.refl _ _, rfl⟩
    · intro ρ w' hbw ht hcs hfn hgl hdep
      refine ⟨fun _ => ?_, fun h => by cases h⟩
      have s4 : ρ (.tmp 4) = .pointer (some ⟨p2, 0, none⟩) := ht 4 rfl
      have d0 := cell_later hbw c20
      clear ht hdep
      go_simp
      exact ⟨Below.refl _ _, rfl⟩
    · intro ρ w' hbw ht hcs hfn hgl hdep
      refine ⟨fun _ => ?_, fun h => by cases h⟩
      have s2 : ρ (.tmp 2) = .int .i64 m := ht 2 rfl
      clear ht hdep
      go_simp
      exact ⟨Below.refl _ _, rfl⟩
    · intro ρ w' hbw ht hcs hfn hgl hdep
      refine ⟨fun _ => ?_, fun h => by cases h⟩
      have s13 : ρ (.tmp 13) = .agg #[.int .i64 N, .slice a1 x.length k1] := hdep ⟨0, .data⟩ (by simp) rfl 13 rfl
      have s14 : ρ (.tmp 14) = .agg #[.slice ay y.length capy] := hdep ⟨1, .data⟩ (by simp) rfl 14 rfl
      have s15 : ρ (.tmp 15) = .int .i64 m := hdep ⟨2, .data⟩ (by simp) rfl 15 rfl
      clear ht hdep
      go_simp
      exact (CM.out w' hbw).mono fun e w'' ⟨g, vs, he, hr, hg, hb⟩ => ⟨_, he, hb, g, rfl, ⟨vs, hr.toR⟩, Nat.le_trans hbw.size hg⟩
    · intro ρ w' hbw ht hcs hfn hgl hdep
      refine ⟨fun _ => ?_, fun h => by cases h⟩
      have s3 : ρ (.tmp 3) = .pointer (some ⟨p1, 0, none⟩) := ht 3 rfl
      clear ht hdep
      go_simp
      exact ⟨Below.refl _ _, rfl⟩
    · intro ρ w' hbw ht hcs hfn hgl hdep
      refine ⟨fun _ => ?_, fun h => by cases h⟩
      have s17 : ρ (.tmp 17) = .pointer (some ⟨p1, 0, none⟩) := hdep ⟨4, .data⟩ (by simp) rfl 17 rfl
      have d0 := cell_later hbw c10
      clear ht hdep
      go_simp
      exact ⟨Below.refl _ _, rfl⟩
    · intro ρ w' hbw ht hcs hfn hgl hdep
      refine ⟨fun _ => ?_, fun h => by cases h⟩
      have s18 : ρ (.tmp 18) = .int .i64 N := hdep ⟨5, .data⟩ (by simp) rfl 18 rfl
      clear ht hdep
      go_simp
      exact ⟨Below.refl _ _, rfl⟩
    · intro ρ w' hbw ht hcs hfn hgl hdep
      refine ⟨fun _ => ?_, fun h => by cases h⟩
      obtain ⟨g, vs, s16, hr, hg⟩ := hdep ⟨3, .data⟩ (by simp) rfl 16 rfl
      have s19 : ρ (.tmp 19) = .int .i64 ((N : Int) - 1) := hdep ⟨6, .data⟩ (by simp) rfl 19 rfl
      clear ht hdep
      go_simp
      exact ⟨Below.refl _ _, g, rfl, ⟨vs, hr⟩, hg⟩
    · intro ρ w' hbw ht hcs hfn hgl hdep
      refine ⟨fun _ => ?_, fun h => by cases h⟩
      obtain ⟨g, vs, s20, hr, hg⟩ := hdep ⟨7, .data⟩ (by simp) rfl 20 rfl
      obtain ⟨s, _, _, d0, d1⟩ := hr.get (v := N - 1) (by omega)
      rw [HRS.out] at d0 d1
      clear ht hdep
      go_simp
      exact ⟨Below.refl _ _, s.a, s.c, rfl, d1.mono (by omega) (Nat.le_refl _)⟩
    · intro ρ w' hbw ht hcs hfn hgl hdep
      refine ⟨fun _ => ?_, fun h => by cases h⟩
      obtain ⟨sa, sc, s21, _⟩ := hdep ⟨8, .data⟩ (by simp) rfl 21 rfl
      clear ht hdep
      go_simp
      exact ⟨Below.refl _ _, rfl⟩
    · intro ρ w' hbw ht hcs hfn hgl hdep
      refine ⟨fun _ => ?_, fun h => by cases h⟩
      clear ht hdep
      go_simp
      exact ⟨Below.refl _ _, rfl⟩
  · intro xx W2 hb2 hx
    obtain ⟨sa, sc, hx8, hAr⟩ := hx 8 (by simp)
    have hx9 : xx 9 = .int .i64 RS.length := hx 9 (by simp)
    have hx10 : xx 10 = .int .i64 0 := hx 10 (by simp)
    rw [hx8] at hAr
    clear hx
    simp only [putAll, Act.put, List.setIfInBounds_toArray, List.set_cons_succ, List.set_cons_zero, Nat.zero_add, Nat.reduceAdd, hx8, hx9, hx10]
    generalize xx 0 = k0
    generalize xx 1 = kk1
    generalize xx 2 = k2
    generalize xx 3 = k3
    generalize xx 4 = k4
    generalize xx 5 = k5
    generalize xx 6 = k6
    generalize xx 7 = k7
    clear hx8 hx9 hx10
    obtain ⟨H, hH⟩ : ∃ H, H = W2.heap.size := ⟨_, rfl⟩
    have hl2 : W.heap.size ≤ W2.heap.size := hb2.size
    have hWH : W.heap.size ≤ H := by omega
    obtain ⟨br, offr, ar, capr, hvr, hncr, hcmr, haor, hcr⟩ := ArrIn.arr hAr
    simp only [Value.slice.injEq] at hvr
    obtain ⟨rfl, _, rfl⟩ := hvr
    unfold maxLen at hcmr
    have HH := hid hH
    clear hH hAr
    go_wp2_with fail
    go_loopw [8, 23] (fun l i wr => ∃ (j : Nat), j ≤ RS.length ∧ i = .int .i64 j ∧ Own eFound 48 H wr l (fndL y (RS.take j)) ∧ Below H W2 wr) (fun _ i _ => RS.length - (intOf i).toNat)
    case atStart => exact ⟨0, Nat.zero_le _, rfl, Own.nil _ _ _, Below.refl _ _⟩
    case round =>
      obtain ⟨j, hj, rfl, hoL, hb⟩ := hrel
      have hHr : H ≤ wr.heap.size := by rw [HH.out]; exact hb.size
      have hbr : Below W.heap.size W wr := hb2.trans (hb.mono hWH)
      obtain ⟨FL, hFL⟩ : ∃ FL, FL = fndL y (RS.take j) := ⟨_, rfl⟩
      have hFl : FL.length ≤ 30 := by rw [hFL]; exact Nat.le_trans (fndL_len _ _) (by rw [List.length_take]; omega)
      rw [← hFL] at hoL
      have HFL := hid hFL
      clear hFL
      obtain ⟨sl, sc2, hls⟩ := hoL.isSlice
      subst hls
      by_cases hlt : j < RS.length
      · have hji : (j : Int) < (RS.length : Int) := by omega
        obtain ⟨har, hbrl⟩ := haor (by omega)
        subst har
        obtain ⟨r, hr⟩ : ∃ r, RS[j]? = some r := ⟨_, List.getElem?_eq_getElem hlt⟩
        have hcr2 := hcr.below (B := H) hb (by rw [HH.out]; exact hbrl)
        obtain ⟨t0, t1⟩ := eReading_cells hcr2 hr
        have HT := hid (fndL_take (y := y) hr)
        obtain ⟨rt, rc⟩ := r
        simp only at t0 t1
        clear hr haor
        obtain ⟨w3, hw3⟩ : ∃ w3, w3 = wr.alloc (.cells #[.string rt, .int .i64 rc] 74) := ⟨_, rfl⟩
        have hm3 : Below wr.heap.size wr w3 := by rw [hw3]; exact below_alloc _ _
        obtain ⟨pr, hpr⟩ : ∃ pr, pr = wr.heap.size := ⟨_, rfl⟩
        have bR : Box w3 pr #[.string rt, .int .i64 rc] 74 := by rw [hw3, hpr]; exact Box.new _ _ _
        have x0 := bR.cell (j := 0) rfl
        have hb3 : Below W.heap.size W w3 := hbr.trans (hm3.mono (Nat.le_trans hWH hHr))
        have d20 := cell_later hb3 c20
        have e20 := cell_alloc (cell_later hbr c20) (.cells #[.string rt, .int .i64 rc] 74)
        have ho3 := hoL.below hm3
        have hbq3 : Below H W2 w3 := hb.trans (hm3.mono hHr)
        have h3H : H ≤ w3.heap.size := Nat.le_trans hHr hm3.size
        have HC := hid (CP.out rt w3 hb3)
        have HW3 := hid hw3
        have HPR := hid hpr
        clear hw3 hpr hoL hm3
        rcases hfi : findLx y rt with _ | k
        · rw [hfi] at HC
          have HN : Hid (fndL y (RS.take (j + 1)) = FL) := hid (by rw [HT.out]; unfold fndE; simp only [hfi]; simpa using HFL.out.symm)
          clear hfi
          go_wp2_with fail
          rw [← HW3.out]
          try rw [← HPR.out]
          go_wp2_with (go_at_call 42; refine HC.out.mono ?_; rintro e w4 ⟨rfl, hb4⟩)
          go_roundw
          case rel => exact ⟨j + 1, by omega, by go_num, by rw [HN.out]; exact ho3.below hb4, hbq3.trans (hb4.mono h3H)⟩
          case measure => simp [intOf]; omega
        · rw [hfi] at HC
          have hlow := low_of_find hs hfi
          rw [hlow] at HC
          obtain ⟨en, hen, _⟩ := find_get hfi
          have hky := (List.getElem?_eq_some_iff.1 hen).1
          have hki : (k : Int) < (y.length : Int) := by omega
          obtain rfl := hayW (by omega)
          obtain ⟨e0, e1⟩ := eEntry_cells (hcW (by omega)) hen
          have HN : Hid (fndL y (RS.take (j + 1)) = FL ++ [⟨rt, rc, en.cost⟩]) := hid (by rw [HT.out]; unfold fndE; simp only [hfi, hen, Option.map_some, Option.toList_some]; rw [HFL.out])
          obtain ⟨ew, ec⟩ := en
          simp only at e0 e1 HN
          have hbyl := hbyW (by omega)
          clear hfi hen hlow
          go_wp2_with fail
          rw [← HW3.out]
          try rw [← HPR.out]
          go_wp2_with (go_at_call 42; refine HC.out.mono ?_; rintro e w4 ⟨rfl, hb4⟩)
          have hbr4 : Below W.heap.size W w4 := hb3.trans (hb4.mono hb3.size)
          have f0 := cell_later hb4 (bR.cell (j := 0) rfl)
          have f1 := cell_later hb4 (bR.cell (j := 1) rfl)
          have f2 := cell_later hbr4 c20
          have f3 := below_cell hbr4 hbyl e1
          have ho4 := ho3.below hb4
          have h4H := Nat.le_trans h3H hb4.size
          have hbq4 := hbq3.trans (hb4.mono h3H)
          clear t0 t1 d20 e20 e0 e1 x0
          have HBR := hid (bR.later hb4)
          have hp2H : p2 < H := Nat.lt_of_lt_of_le hlt2 hWH
          have hbyH : by_ < H := Nat.lt_of_lt_of_le hbyl hWH
          go_region_held3 (fun w' => w'.cell? ⟨pr, 0, none⟩ = some (.string rt) ∧ w'.cell? ⟨pr, 1, none⟩ = some (.int .i64 rc) ∧ w'.cell? ⟨p2, 0, none⟩ = some (.slice (some ⟨by_, offy, none⟩) y.length capy) ∧ w'.cell? ⟨by_, offy + k * 2 + 1, none⟩ = some (.int .i64 ec)) (first | go_keep | exact ⟨g0, g1, g2, g3⟩)
            ((refine step_appA (by rfl) _ _ _ (by rfl) H 48 _ 32 infFound Tryz.underlying79 rfl _ FL (by rfl) (ho4.alloc (.cells #[.string rt, .int .i64 rc, .int .i64 ec] 48)).drew _ [(⟨rt, rc, ec⟩ : DFound)] (by rfl) (arr_block (E := eFound) (n := 1) [(⟨rt, rc, ec⟩ : DFound)] #[.string rt, .int .i64 rc, .int .i64 ec] rfl rfl (maxLen_ge (Nat.le_of_ble_eq_true rfl))).drew (by unfold maxLen; simp <;> omega) (by simp <;> omega) (by simp <;> omega) ?_; intro v' wA hoA hbA htA; have bA := ((HBR.out.alloc (.cells #[.string rt, .int .i64 rc, .int .i64 ec] 48)).drew).typed htA rfl; have g0 := bA.cell (j := 0) rfl; have g1 := bA.cell (j := 1) rfl; have g2 := below_cell hbA hp2H (cell_alloc f2 (.cells #[.string rt, .int .i64 rc, .int .i64 ec] 48)); have g3 := below_cell hbA hbyH (cell_alloc f3 (.cells #[.string rt, .int .i64 rc, .int .i64 ec] 48)); clear bA))
          go_wp2
          go_roundw
          case rel => exact ⟨j + 1, by omega, by go_num, by rw [HN.out]; exact hoA, (hbq4.alloc h4H _).drew.trans hbA⟩
          case measure => simp [intOf]; omega
      · obtain rfl : j = RS.length := by omega
        have hjd : ¬ ((RS.length : Int) < (RS.length : Int)) := by omega
        have HE : Hid (minL FL = o) := hid (by rw [HFL.out, List.take_length]; exact HO.out)
        have r6 := q6.later hbr
        have l0 := r6.cell (j := 0) rfl
        have l1 := r6.cell (j := 1) rfl
        have l2 := r6.cell (j := 2) rfl
        have lf := r6.free
        have hbe : Below w.heap.size w wr := hbW.trans (hbr.mono hlW)
        clear hcr haor hcW hbyW hayW r6 HFL
        cases o with
        | none =>
          obtain rfl : FL = [] := minL_none HE.out
          go_wp2_with fail
          refine bodyPost_ret (v := .tuple #[.agg #[.string ⟨#[]⟩, .int .i64 0, .int .i64 0], .bool false]) (by simp [results, Tryz.results21, go_sem, l0, l1, l2]) rfl ?_
          exact ⟨rfl, ((hbe.setCell hge6 _).setCell hge6 _).setCell hge6 _⟩
        | some bb =>
          have h0 : FL ≠ [] := fun h => by have := HE.out; rw [h, minL_nil] at this; cases this
          have hlp : 0 < FL.length := List.length_pos_iff.2 h0
          have hl0 : ((FL.length : Int) == 0) = false := by rw [beq_eq_false_iff_ne]; omega
          obtain ⟨g, cap, hv', _, _⟩ := hoL.shape.resolve_left (fun h => h0 h.2)
          simp only [Value.slice.injEq] at hv'
          obtain ⟨rfl, _, rfl⟩ := hv'
          clear h0
          go_wp2_with (go_at_call 43; refine (minFound_any g sc2 _ H FL bb wr hoL rfl (by omega) HE.out).mono ?_; rintro e w7 ⟨rfl, hb7⟩; have l0 := cell_later hb7 l0; have l1 := cell_later hb7 l1; have l2 := cell_later hb7 l2; have lf := (q6.later (hbr.trans (hb7.mono hbr.size))).free)
          refine bodyPost_ret (v := .tuple #[.agg #[.string bb.word, .int .i64 bb.path, .int .i64 bb.own_], .bool true]) (by simp [results, Tryz.results21, go_sem, l0, l1, l2]) rfl ?_
          exact ⟨rfl, (((hbe.trans (hb7.mono hbe.size)).setCell hge6 _).setCell hge6 _).setCell hge6 _⟩
end Go.Proofs.YtcikndmmbfompaaGreatDoor
namespace Go.Proofs.YtcikndmmbfompaaGreatDoor
open Go.RowKit Go.Sort
attribute [local go_sem ↓] Go.wp_at_zero Go.wp_at_succ

set_option maxHeartbeats 4000000 in
set_option maxRecDepth 100000 in
theorem implBeamWord_any (v1 : Value) (x : XLattice) (v2 : Value) (y : XLexicon) (k : Int) (w : World) {lo1 hi1 lo2 hi2 : Nat} (h1 : rLattice.at_ lo1 hi1 w v1 x) (h2 : rLexicon.at_ lo2 hi2 w v2 y) (ok1 : okLattice x) (ok2 : okLexicon y) (g1 : goodLattice x) (g2 : goodLexicon y) :
    Calls Tryz.prog 45 #[v1, v2, .int .i64 k] w (Ret (.tuple #[.agg #[.string (bwW x y k).word, .int .i64 (bwW x y k).path, .int .i64 (bwW x y k).own_], .int .i64 (bwC x y k)]) w) := by
  obtain ⟨u1, rfl, h1⟩ := h1
  obtain ⟨u2, rfl, h2⟩ := h2
  replace h1 := ArrIn.arr h1
  replace h2 := ArrIn.arr h2
  obtain ⟨n, x⟩ := x
  obtain ⟨a1, k1, hu⟩ := h1.isSlice
  subst hu
  obtain ⟨a2, k2, hu⟩ := h2.isSlice
  subst hu
  simp only at h1
  obtain ⟨W, hW⟩ : ∃ u, u = (((w.alloc (.cells #[.int .i64 n, .slice a1 x.length k1] 33)).alloc (.cells #[.slice a2 y.length k2] 37)).alloc (.cells #[.string ⟨#[]⟩, .int .i64 0, .int .i64 0] 48)) := ⟨_, rfl⟩
  have hbW : Below w.heap.size w W := by rw [hW]; exact belowA3 _ _ _ _
  have q1 : Box W (w.heap.size) #[.int .i64 n, .slice a1 x.length k1] 33 := by
    have hq := Box.new w #[.int .i64 n, .slice a1 x.length k1] 33
    rw [hW]
    exact ((hq.alloc _).alloc _)
  have q2 : Box W (w.heap.size + 1) #[.slice a2 y.length k2] 37 := by
    have hq := Box.new (w.alloc (.cells #[.int .i64 n, .slice a1 x.length k1] 33)) #[.slice a2 y.length k2] 37
    simp at hq
    rw [hW]
    exact (hq.alloc _)
  have q3 : Box W (w.heap.size + 1 + 1) #[.string ⟨#[]⟩, .int .i64 0, .int .i64 0] 48 := by
    have hq := Box.new ((w.alloc (.cells #[.int .i64 n, .slice a1 x.length k1] 33)).alloc (.cells #[.slice a2 y.length k2] 37)) #[.string ⟨#[]⟩, .int .i64 0, .int .i64 0] 48
    simp at hq
    rw [hW]
    exact hq
  obtain ⟨p1, hp1⟩ : ∃ p, p = w.heap.size := ⟨_, rfl⟩
  rw [← hp1] at q1
  have hge1 : w.heap.size ≤ p1 := by omega
  obtain ⟨p2, hp2⟩ : ∃ p, p = w.heap.size + 1 := ⟨_, rfl⟩
  rw [← hp2] at q2
  have hge2 : w.heap.size ≤ p2 := by omega
  obtain ⟨p3, hp3⟩ : ∃ p, p = w.heap.size + 1 + 1 := ⟨_, rfl⟩
  rw [← hp3] at q3
  have hge3 : w.heap.size ≤ p3 := by omega
  have hlW : w.heap.size ≤ W.heap.size := hbW.size
  have hlp1 : p1 < W.heap.size := q1.lt
  have hlp2 : p2 < W.heap.size := q2.lt
  have hlp3 : p3 < W.heap.size := q3.lt
  have hne12 : p1 ≠ p2 := by omega
  have hne13 : p1 ≠ p3 := by omega
  have hne23 : p2 ≠ p3 := by omega
  have HP1 := hid hp1
  have HP2 := hid hp2
  have HP3 := hid hp3
  have HW := hid hW
  clear hW hp1 hp2 hp3
  have hA := h1.below hbW
  have hB := h2.below hbW
  have m10 := q1.cell (j := 0) rfl
  have m11 := q1.cell (j := 1) rfl
  have m20 := q2.cell (j := 0) rfl
  have finish : ∀ (w' : World) (f : DFound) (c : Int), Hid (bwW (n, x) y k = f ∧ bwC (n, x) y k = c) → Below w.heap.size w w' → Ret (.tuple #[.agg #[.string (bwW (n, x) y k).word, .int .i64 (bwW (n, x) y k).path, .int .i64 (bwW (n, x) y k).own_], .int .i64 (bwC (n, x) y k)]) w (.returned (.tuple #[.agg #[.string f.word, .int .i64 f.path, .int .i64 f.own_], .int .i64 c])) w' := by
    intro w' f c hz hb
    rw [hz.out.1, hz.out.2]
    exact ⟨rfl, hb⟩
  have CB := beamable_any (.agg #[.int .i64 n, .slice a1 x.length k1]) (n, x) (.agg #[.slice a2 y.length k2]) y k W (show rLattice.at_ 0 W.heap.size W _ (n, x) from ⟨_, rfl, hA.in_⟩) (show rLexicon.at_ 0 W.heap.size W _ y from ⟨_, rfl, hB.in_⟩) ok1 ok2 g1 g2
  rcases Decidable.em (¬ codeB (n, x) y k = 0) with hcb | hcb
  · have HZ : Hid (bwW (n, x) y k = fz ∧ bwC (n, x) y k = codeB (n, x) y k) := by show _ ∧ _; simp [bwW, bwC, hcb]
    obtain ⟨cb, hcbd⟩ : ∃ cb, cb = codeB (n, x) y k := ⟨_, rfl⟩
    rw [← hcbd] at CB HZ hcb
    have hcd : (cb == 0) = false := by simpa using hcb
    clear hcbd
    go_enter Tryz.func45, Tryz.ntmps45
    go_wp2_with fail
    rw [← HP3.out, ← HP2.out, ← HP1.out, ← HW.out]
    refine CB.mono ?_
    rintro e w3 ⟨rfl, hb⟩
    have b0 := (q3.later hb).cell (j := 0) rfl
    have b1 := (q3.later hb).cell (j := 1) rfl
    have b2 := (q3.later hb).cell (j := 2) rfl
    have bf := (q3.later hb).free
    clear m10 m11 m20
    go_wp2_with fail
    refine bodyPost_ret (v := .tuple #[.agg #[.string ⟨#[]⟩, .int .i64 0, .int .i64 0], .int .i64 cb]) (by simp [results, Tryz.results45, go_sem, b0, b1, b2]) rfl (finish _ fz _ HZ ?_)
    exact (((hbW.trans (hb.mono hlW)).setCell hge3 _).setCell hge3 _).setCell hge3 _
  · replace hcb := Decidable.not_not.1 hcb
    rw [hcb] at CB
    obtain ⟨hv, hvy, kk1, kk2⟩ := codeB_0 hcb
    obtain ⟨b1, b2, b3⟩ := valid_bd hv
    obtain ⟨N, rfl⟩ : ∃ N : Nat, n = N := ⟨n.toNat, by omega⟩
    obtain ⟨m, rfl⟩ : ∃ m : Nat, k = m := ⟨k.toNat, by omega⟩
    obtain ⟨o, ho⟩ : ∃ o, bwO ((N : Int), x) y m = o := ⟨_, rfl⟩
    have CM := fun w' (hb : Below W.heap.size W w') => beamWord_any (.agg #[.int .i64 N, .slice a1 x.length k1]) (.agg #[.slice a2 y.length k2]) N m x y w' (show rLattice.at_ 0 w'.heap.size w' _ ((N : Int), x) from ⟨_, rfl, (hA.below hb).in_⟩) (show rLexicon.at_ 0 w'.heap.size w' _ y from ⟨_, rfl, (hB.below hb).in_⟩) ok2 g2 hv (sorted_of_valid hvy) (by omega) (by omega) o ho
    have HZ : Hid (bwW ((N : Int), x) y (m : Int) = o.getD fz ∧ bwC ((N : Int), x) y (m : Int) = if o.isSome then 0 else 3) := by show _ ∧ _; simp [bwW, bwC, hcb, ho]
    clear hcb ho
    cases o with
    | none =>
      simp only [Option.getD_none, Option.isSome_none, Bool.false_eq_true, if_false] at HZ CM
      go_enter Tryz.func45, Tryz.ntmps45
      go_wp2_with fail
      rw [← HP3.out, ← HP2.out, ← HP1.out, ← HW.out]
      refine CB.mono ?_
      rintro e w3 ⟨rfl, hb⟩
      have s10 := cell_later hb m10
      have s11 := cell_later hb m11
      have s20 := cell_later hb m20
      go_wp2_with fail
      refine (CM w3 hb).mono ?_
      rintro e w4 ⟨rfl, hb4⟩
      have hb5 := hb.trans (hb4.mono hb.size)
      have b0 := (q3.later hb5).cell (j := 0) rfl
      have b1 := (q3.later hb5).cell (j := 1) rfl
      have b2 := (q3.later hb5).cell (j := 2) rfl
      have bf := (q3.later hb5).free
      have e0 := cell_alloc b0 (.cells #[.string fz.word, .int .i64 fz.path, .int .i64 fz.own_] 48)
      have e1 := cell_alloc b1 (.cells #[.string fz.word, .int .i64 fz.path, .int .i64 fz.own_] 48)
      have e2 := cell_alloc b2 (.cells #[.string fz.word, .int .i64 fz.path, .int .i64 fz.own_] 48)
      have ef := ((q3.later hb5).alloc (.cells #[.string fz.word, .int .i64 fz.path, .int .i64 fz.own_] 48)).free
      clear m10 m11 m20
      unfold vF
      go_wp2_with fail
      refine bodyPost_ret (v := .tuple #[.agg #[.string ⟨#[]⟩, .int .i64 0, .int .i64 0], .int .i64 3]) (by simp [results, Tryz.results45, go_sem, e0, e1, e2]) rfl (finish _ fz _ HZ ?_)
      exact ((((hbW.trans (hb5.mono hlW)).alloc (Nat.le_trans hlW hb5.size) _).setCell hge3 _).setCell hge3 _).setCell hge3 _
    | some f =>
      simp only [Option.getD_some, Option.isSome_some, if_true] at HZ CM
      go_enter Tryz.func45, Tryz.ntmps45
      go_wp2_with fail
      rw [← HP3.out, ← HP2.out, ← HP1.out, ← HW.out]
      refine CB.mono ?_
      rintro e w3 ⟨rfl, hb⟩
      have s10 := cell_later hb m10
      have s11 := cell_later hb m11
      have s20 := cell_later hb m20
      go_wp2_with fail
      refine (CM w3 hb).mono ?_
      rintro e w4 ⟨rfl, hb4⟩
      have hb5 := hb.trans (hb4.mono hb.size)
      have b0 := (q3.later hb5).cell (j := 0) rfl
      have b1 := (q3.later hb5).cell (j := 1) rfl
      have b2 := (q3.later hb5).cell (j := 2) rfl
      have bf := (q3.later hb5).free
      have e0 := cell_alloc b0 (.cells #[.string f.word, .int .i64 f.path, .int .i64 f.own_] 48)
      have e1 := cell_alloc b1 (.cells #[.string f.word, .int .i64 f.path, .int .i64 f.own_] 48)
      have e2 := cell_alloc b2 (.cells #[.string f.word, .int .i64 f.path, .int .i64 f.own_] 48)
      have ef := ((q3.later hb5).alloc (.cells #[.string f.word, .int .i64 f.path, .int .i64 f.own_] 48)).free
      clear m10 m11 m20
      unfold vF
      go_wp2_with fail
      refine bodyPost_ret (v := .tuple #[.agg #[.string f.word, .int .i64 f.path, .int .i64 f.own_], .int .i64 0]) (by simp [results, Tryz.results45, go_sem, e0, e1, e2]) rfl (finish _ f _ HZ ?_)
      exact ((((hbW.trans (hb5.mono hlW)).alloc (Nat.le_trans hlW hb5.size) _).setCell hge3 _).setCell hge3 _).setCell hge3 _
end Go.Proofs.YtcikndmmbfompaaGreatDoor
