/- The implementation's list of readable words. -/
import Derived.Test.YtnhmailnnggmjabGreatFwSort
import Derived.Test.YtnhmailnnggmjabGreatLtText2
namespace Go.Proofs.YtnhmailnnggmjabGreat
open Go.RowKit Go.Sort
attribute [local go_sem ↓] Go.wp_at_zero Go.wp_at_succ

theorem word_size {y : XLexicon} (h : validLx y = true) {k : Nat} {e : DEntry} (he : y[k]? = some e) : e.word.size ≤ 10 := by
  rw [validLx, Bool.and_eq_true, List.all_eq_true] at h
  have := h.1 k (by simp; exact (List.getElem?_eq_some_iff.1 he).1)
  simp only [he, entOk, Bool.and_eq_true] at this
  have h1 := this.1.1
  unfold isWordB at h1
  rw [Bool.and_eq_true] at h1
  have := (inB_true.1 h1.2).2
  omega
theorem valid_len {y : XLexicon} (h : validLx y = true) : y.length ≤ 60 := by
  rw [validLx, Bool.and_eq_true] at h
  simpa using h.2
theorem foundL_len (x : XLattice) (y : XLexicon) : (foundL x y).length ≤ y.length := List.length_filterMap_le _ _
set_option maxHeartbeats 4000000 in
set_option maxRecDepth 100000 in
theorem readable_any (m : Nat) (v : Value) (x : List DEdge) (vy : Value) (y : XLexicon) (w : World) (h : Arr eEdge w v x) (hv : validLt ((m : Int), x) = true) (hy : Arr eEntry w vy y) (hvy : validLx y = true) :
    Calls Tryz.prog 22 #[.agg #[.int .i64 m, v], .agg #[vy]] w (RetOwn eFound 53 (findAll ((m : Int), x) y) w) := by
  obtain ⟨ax, cx, hvx⟩ := h.isSlice
  subst hvx
  obtain ⟨by_, offy, ay, capy, rfl, hncy, hcmy, haoy, hcy⟩ := hy
  unfold maxLen at hcmy
  have hly := valid_len hvy
  obtain ⟨W, hW⟩ : ∃ W, W = (w.alloc (.cells #[.int .i64 m, .slice ax x.length cx] 34)).alloc (.cells #[.slice ay y.length capy] 38) := ⟨_, rfl⟩
  have hbW : Below w.heap.size w W := by rw [hW]; exact (below_alloc _ _).trans ((below_alloc _ _).mono (by simp))
  have q1 : Box W w.heap.size #[.int .i64 m, .slice ax x.length cx] 34 := by rw [hW]; exact (Box.new w _ _).later (below_alloc _ _)
  have q2 : Box W (w.heap.size + 1) #[.slice ay y.length capy] 38 := by
    rw [hW]
    have := Box.new (w.alloc (.cells #[.int .i64 m, .slice ax x.length cx] 34)) #[.slice ay y.length capy] 38
    simp at this
    exact this
  have hA := h.below hbW
  obtain ⟨H, hH⟩ : ∃ H, H = W.heap.size := ⟨_, rfl⟩
  have hwH : w.heap.size ≤ H := by rw [hH]; exact hbW.size
  obtain ⟨p1, hp1⟩ : ∃ p, p = w.heap.size := ⟨_, rfl⟩
  obtain ⟨p2, hp2⟩ : ∃ p, p = w.heap.size + 1 := ⟨_, rfl⟩
  rw [← hp1] at q1
  rw [← hp2] at q2
  have l1 : p1 < H := by rw [hH]; exact q1.lt
  have l2 : p2 < H := by rw [hH]; exact q2.lt
  have r0 := q1.cell (j := 0) rfl
  have r1 := q1.cell (j := 1) rfl
  have r2 := q2.cell (j := 0) rfl
  have HP1 := hid hp1
  have HP2 := hid hp2
  have HW := hid hW
  have HH := hid hH
  have HV := hid hv
  have HVY := hid hvy
  have hcW : 0 < y.length → Cells eEntry W by_ offy y := fun hl => hcy.below hbW (haoy hl).2
  have hbH : 0 < y.length → by_ < H := fun hl => Nat.lt_of_lt_of_le (haoy hl).2 hwH
  clear hp1 hp2 hW hH h hcy hv
  go_enter Tryz.func22, Tryz.ntmps22
  go_wp2_with fail
  rw [← HP2.out, ← HP1.out, ← HW.out]
  go_loopw [5, 12] (fun l i wr => ∃ j : Nat, j ≤ y.length ∧ i = .int .i64 j ∧ Own eFound 53 H wr l (foundL ((m : Int), x) (y.take j)) ∧ Below H W wr) (fun _ i _ => y.length - (intOf i).toNat)
  case atStart => exact ⟨0, Nat.zero_le _, rfl, Own.nil _ _ _, Below.refl _ _⟩
  case round =>
    obtain ⟨j, hj, rfl, ho, hb⟩ := hrel
    have t0 := below_cell hb l1 r0
    have t1 := below_cell hb l1 r1
    have t2 := below_cell hb l2 r2
    have hHr : H ≤ wr.heap.size := by rw [HH.out]; exact hb.size
    by_cases hlt : j < y.length
    · obtain ⟨hao', hbw⟩ := haoy (by omega)
      subst hao'
      obtain ⟨e, he⟩ : ∃ e, y[j]? = some e := ⟨_, List.getElem?_eq_getElem hlt⟩
      have hli : (j : Int) < (y.length : Int) := by omega
      obtain ⟨c0, c1⟩ := eEntry_cells ((hcW (by omega)).below hb (hbH (by omega))) he
      have hsz : e.word.size ≤ 1048576 := by have := word_size HVY.out he; omega
      have HT := hid (foundL_take (x := ((m : Int), x)) he)
      have hxl : (foundL ((m : Int), x) (y.take j)).length ≤ 60 := by
        have := foundL_len ((m : Int), x) (y.take j)
        rw [List.length_take] at this; omega
      obtain ⟨XS, hXS⟩ : ∃ XS, XS = foundL ((m : Int), x) (y.take j) := ⟨_, rfl⟩
      rw [← hXS] at ho hxl HT
      have hr := okC_row (valid_good HV.out) e.word e.word.size (m - 1)
      have hrr : textR ((m : Int), x) e.word = rowC e.word x e.word.size (m - 1) := by unfold textR; simp only [Int.toNat_natCast]
      have hf1 : found1 ((m : Int), x) e = if rowC e.word x e.word.size (m - 1) < NW then some ⟨e.word, rowC e.word x e.word.size (m - 1), e.cost⟩ else none := by unfold found1; rw [hrr]
      rw [hf1] at HT
      obtain ⟨n1, n2, x2⟩ := valid_bd HV.out
      have HRW : Hid (rowC e.word x e.word.size (m - 1) = NW ∨ (0 ≤ rowC e.word x e.word.size (m - 1) ∧ rowC e.word x e.word.size (m - 1) < NW)) := hid (by have e := NW_eq; omega)
      obtain ⟨wd, co⟩ := e
      simp only at c0 c1 hsz HT HRW
      clear hr hrr hf1 he hXS
      obtain ⟨w3, hw3⟩ : ∃ w3, w3 = wr.alloc (.cells #[.string wd, .int .i64 co] 77) := ⟨_, rfl⟩
      have hm3 : Below wr.heap.size wr w3 := by rw [hw3]; exact below_alloc _ _
      have hb3 : Below H W w3 := hb.trans (hm3.mono hHr)
      have ho3 := ho.below hm3
      have e0 : w3.cell? ⟨wr.heap.size, 0, none⟩ = some (.string wd) := by rw [hw3]; simp
      have e1 : w3.cell? ⟨wr.heap.size, 1, none⟩ = some (.int .i64 co) := by rw [hw3]; simp
      have hx3 : Arr eEdge w3 (.slice ax x.length cx) x := hA.below (HH.out ▸ hb3)
      have HW3 := hid hw3
      have HCON := hid (implText_any m _ x wd w3 hx3 HV.out hsz)
      have x0 := cell_alloc t0 (.cells #[.string wd, .int .i64 co] 77)
      have x1 := cell_alloc t1 (.cells #[.string wd, .int .i64 co] 77)
      obtain ⟨rw_, hrw⟩ : ∃ r, r = rowC wd x wd.size (m - 1) := ⟨_, rfl⟩
      rw [← hrw] at HT HRW HCON
      clear hrw hw3
      rcases HRW.out with h1 | ⟨h1, h2⟩
      · subst h1
        rw [NW_eq] at HCON
        have HT' : Hid (foundL ((m : Int), x) (y.take (j + 1)) = XS) := hid (by rw [HT.out, if_neg (by omega)]; simp)
        go_wp2_with (go_at_call 39; rw [← HW3.out]; refine HCON.out.mono ?_; rintro e w4 ⟨rfl, hb4⟩)
        go_roundw
        case rel => exact ⟨j + 1, by omega, by go_num, by rw [HT'.out]; exact ho3.below hb4, hb3.trans (hb4.mono (Nat.le_trans hHr hm3.size))⟩
        case measure => simp [intOf]; omega
      · have HT' : Hid (foundL ((m : Int), x) (y.take (j + 1)) = XS ++ [⟨wd, rw_, co⟩]) := hid (by rw [HT.out, if_pos h2]; rfl)
        have hd : rw_ < 1099511627776 := by rw [← NW_eq]; exact h2
        clear h2
        obtain ⟨sl, sc, hls⟩ := ho.isSlice
        subst hls
        go_wp2_with (first | (go_at_call 39; rw [← HW3.out]; refine HCON.out.mono ?_; rintro e w4 ⟨rfl, hb4⟩; have f0 := cell_later hb4 e0; have f1 := cell_later hb4 e1; have ho4 := ho3.below hb4; have hb4' := hb3.trans (hb4.mono (Nat.le_trans hHr hm3.size)); have hH4 := Nat.le_trans (Nat.le_trans hHr hm3.size) hb4.size) | (at_builtin; (refine wpList_appA rfl _ _ 56 rfl H 53 _ 32 infFound Tryz.underlying56 rfl _ XS rfl (ho4.alloc _) _ [⟨wd, rw_, co⟩] rfl (by exact arr_block1 (E := eFound) (n := 1) [⟨wd, rw_, co⟩] #[.string wd, .int .i64 rw_, .int .i64 co] rfl rfl (maxLen_ge (Nat.le_of_ble_eq_true rfl)) (by simp)) (by unfold maxLen; simp <;> omega) (by simp <;> omega) (by simp <;> omega) ?_; intro v' wA hoA hbA htA)))
        go_roundw
        case rel => exact ⟨j + 1, by omega, by go_num, by rw [HT'.out]; exact hoA, (hb4'.alloc hH4 _).trans hbA⟩
        case measure => simp [intOf]; omega
    · obtain rfl : j = y.length := by omega
      rw [List.take_length] at ho
      have hbe : Below w.heap.size w wr := hbW.trans (hb.mono hwH)
      have hSo := sorted_of_valid HVY.out
      rcases ho.shape with ⟨rfl, h0⟩ | ⟨g, cap, rfl, hB, hl⟩
      · have HN := hid (AnyF.slices_SortFunc_none { Tryz.sortFound with } none 0 (.func (.func 41) #[] #[]) wr)
        have hF : Hid (findAll ((m : Int), x) y = []) := hid (by unfold findAll; rw [h0]; rfl)
        have HN' : Hid (Calls Tryz.prog 40 #[.slice none 0 0, .func (.func 41) #[] #[]] wr fun e w' => e = .returned (.tuple #[]) ∧ w' = wr) := HN
        clear HN
        go_wp2_with (go_at_call 40; refine HN'.out.mono ?_; rintro e w' ⟨rfl, rfl⟩)
        go_ret
        exact ⟨_, rfl, by rw [hF.out]; exact Own.nil _ _ _, hbe⟩
      · have hll := foundL_len ((m : Int), x) y
        have HS := hid (sortFound_any g cap _ H _ wr ho rfl (by omega))
        go_wp2_with (go_at_call 40; refine HS.out.mono ?_; rintro e w5 ⟨rfl, Y, hperm, hup, hoY, hbY⟩)
        go_ret
        refine ⟨_, rfl, ?_, hbe.trans (hbY.mono hwH)⟩
        rw [← find_unique hSo hperm hup]
        exact hoY.mono hwH
end Go.Proofs.YtnhmailnnggmjabGreat
