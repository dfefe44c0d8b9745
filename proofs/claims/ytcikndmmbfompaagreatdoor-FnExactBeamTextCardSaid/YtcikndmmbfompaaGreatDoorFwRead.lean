/- slices.SortFunc at found words: the shelf's contract at this program, by the numbers of its functions and types (written by the kit's lay-plain). -/
import Derived.Shelf.SlSortCmp.NoneTotal
import Derived.Ground.SlsfProg
import Derived.Test.YtcikndmmbfompaaGreatDoorProg
import Derived.Test.YtcikndmmbfompaaGreatDoorFwCmp
import Derived.Test.YtcikndmmbfompaaGreatDoorSortOwn
import Derived.Deep.RegionHeld3
import Derived.Test.YtcikndmmbfompaaGreatDoorLtText2
import Derived.Test.YtcikndmmbfompaaGreatDoorLxSet
namespace Go.Proofs
open Go.Shelf
def Tryz.sortFound_ren : Go.Shelf.Ren := ⟨fun | 6 => 72 | 15 => 86 | 14 => 85 | 28 => 102 | 29 => 103 | 20 => 94 | 21 => 95 | 22 => 96 | 23 => 97 | 24 => 98 | 25 => 99 | 26 => 100 | 27 => 101 | 46 => 117 | 47 => 118 | 48 => 119 | 49 => 120 | 50 => 121 | 57 => 131 | n => n, fun | 22 => 79 | 24 => 48 | 25 => 90 | 3 => 3 | 39 => 126 | 0 => 0 | 53 => 147 | 55 => 133 | 4 => 4 | 46 => 141 | 45 => 140 | 50 => 87 | 5 => 5 | 9 => 9 | 66 => 157 | 70 => 161 | 76 => 166 | 77 => 167 | n => n, fun | n => n⟩
theorem Tryz.sortFound : Go.Proofs.SlLaysF0.n6 Tryz.prog Tryz.sortFound_ren := {
  mixed := by kernel_rfl
  f6 := ⟨Tryz.f72.name, by decide, Tryz.func72.trans (congrArg some (by kernel_rfl))⟩
  f14 := ⟨Tryz.f85.name, by decide, Tryz.func85.trans (congrArg some (by kernel_rfl))⟩
  f15 := Tryz.func86.trans (congrArg some (by kernel_rfl))
  f20 := ⟨Tryz.f94.name, by decide, Tryz.func94.trans (congrArg some (by kernel_rfl))⟩
  f21 := ⟨Tryz.f95.name, by decide, Tryz.func95.trans (congrArg some (by kernel_rfl))⟩
  f22 := ⟨Tryz.f96.name, by decide, Tryz.func96.trans (congrArg some (by kernel_rfl))⟩
  f23 := ⟨Tryz.f97.name, by decide, Tryz.func97.trans (congrArg some (by kernel_rfl))⟩
  f24 := ⟨Tryz.f98.name, by decide, Tryz.func98.trans (congrArg some (by kernel_rfl))⟩
  f25 := ⟨Tryz.f99.name, by decide, Tryz.func99.trans (congrArg some (by kernel_rfl))⟩
  f26 := ⟨Tryz.f100.name, by decide, Tryz.func100.trans (congrArg some (by kernel_rfl))⟩
  f27 := ⟨Tryz.f101.name, by decide, Tryz.func101.trans (congrArg some (by kernel_rfl))⟩
  f28 := Tryz.func102.trans (congrArg some (by kernel_rfl))
  f29 := Tryz.func103.trans (congrArg some (by kernel_rfl))
  f46 := ⟨Tryz.f117.name, by decide, Tryz.func117.trans (congrArg some (by kernel_rfl))⟩
  f47 := Tryz.func118.trans (congrArg some (by kernel_rfl))
  f48 := Tryz.func119.trans (congrArg some (by kernel_rfl))
  f49 := ⟨Tryz.f120.name, by decide, Tryz.func120.trans (congrArg some (by kernel_rfl))⟩
  f50 := ⟨Tryz.f121.name, by decide, Tryz.func121.trans (congrArg some (by kernel_rfl))⟩
  f57 := ⟨Tryz.f131.name, by decide, Tryz.func131.trans (congrArg some (by kernel_rfl))⟩
  t0 := Tryz.underlying0
  a0 := Tryz.isAgg0
  z0 := Tryz.sizeOf0
  v0 := Tryz.zeroValue0
  t3 := Tryz.underlying3
  a3 := Tryz.isAgg3
  z3 := Tryz.sizeOf3
  v3 := Tryz.zeroValue3
  t4 := Tryz.underlying4
  a4 := Tryz.isAgg4
  z4 := Tryz.sizeOf4
  v4 := Tryz.zeroValue4
  t5 := Tryz.underlying5
  a5 := Tryz.isAgg5
  z5 := Tryz.sizeOf5
  v5 := Tryz.zeroValue5
  t9 := Tryz.underlying9
  a9 := Tryz.isAgg9
  z9 := Tryz.sizeOf9
  v9 := Tryz.zeroValue9
  t22 := Tryz.underlying79
  a22 := Tryz.isAgg79
  z22 := Tryz.sizeOf79
  v22 := Tryz.zeroValue79
  t25 := Tryz.underlying90
  a25 := Tryz.isAgg90
  z25 := Tryz.sizeOf90
  v25 := Tryz.zeroValue90
  t39 := Tryz.underlying126
  a39 := Tryz.isAgg126
  z39 := Tryz.sizeOf126
  v39 := Tryz.zeroValue126
  t45 := Tryz.underlying140
  a45 := Tryz.isAgg140
  z45 := Tryz.sizeOf140
  v45 := Tryz.zeroValue140
  t46 := Tryz.underlying141
  a46 := Tryz.isAgg141
  z46 := Tryz.sizeOf141
  v46 := Tryz.zeroValue141
  t50 := Tryz.underlying87
  a50 := Tryz.isAgg87
  z50 := Tryz.sizeOf87
  v50 := Tryz.zeroValue87
  t53 := Tryz.underlying147
  a53 := Tryz.isAgg147
  z53 := Tryz.sizeOf147
  v53 := Tryz.zeroValue147
  t55 := Tryz.underlying133
  a55 := Tryz.isAgg133
  z55 := Tryz.sizeOf133
  v55 := Tryz.zeroValue133
  t66 := Tryz.underlying157
  a66 := Tryz.isAgg157
  z66 := Tryz.sizeOf157
  v66 := Tryz.zeroValue157
  t70 := Tryz.underlying161
  a70 := Tryz.isAgg161
  z70 := Tryz.sizeOf161
  v70 := Tryz.zeroValue161
  t76 := Tryz.underlying166
  a76 := Tryz.isAgg166
  z76 := Tryz.sizeOf166
  v76 := Tryz.zeroValue166
  t77 := Tryz.underlying167
  a77 := Tryz.isAgg167
  z77 := Tryz.sizeOf167
  v77 := Tryz.zeroValue167 }
end Go.Proofs
namespace Go.Proofs.YtcikndmmbfompaaGreatDoor
open Go.RowKit Go.Sort
attribute [local go_sem ↓] Go.wp_at_zero Go.wp_at_succ

theorem compareFound_enters : ∀ args w, (callFunc 44 args).run Tryz.prog w = .ok (.enter 44 args) w := enters_of Tryz.func44 (by kernel_rfl) rfl
theorem sortFound_any (g cap n B : Nat) (X : List DFound) (w : World) (h : Own eFound 48 B w (.slice (some ⟨g, 0, none⟩) n cap) X) (hn : n = X.length) (hs : X.length ≤ 1048576) :
    Calls Tryz.prog 72 #[.slice (some ⟨g, 0, none⟩) n cap, .func (.func 44) #[] #[]] w fun e w' => e = .returned (.tuple #[]) ∧ ∃ Y, Y.Perm X ∧ Up ltF Y ∧ Own eFound 48 B w' (.slice (some ⟨g, 0, none⟩) n cap) Y ∧ Below B w w' := by
  have hlt := h.lt
  have hcon := AnyQ.slices_SortFunc Tryz.sortFound 3 Tryz.isAgg48 Tryz.sizeOf48 eFound.row eFound.len eFound.one ordF swoF 44 #[] g 0 cap X.toArray w compareFound_enters
    (fun m os dk _ x y => compareFound_lays x y _) (own_holds h hn) hlt.2 (by simp; omega)
  subst hn
  have hcon' : Calls Tryz.prog 72 #[.slice (some ⟨g, 0, none⟩) X.length cap, .func (.func 44) #[] #[]] w _ := hcon
  refine hcon'.mono ?_
  rintro e w' ⟨rfl, d', m, os, ⟨hsz, _, hperm⟩, hsort, rfl⟩
  refine ⟨rfl, d'.toList, ?_, ?_, ?_⟩
  · have e1 : (d'.extract 0 X.toArray.size).toList = d'.toList := by rw [← hsz]; simp
    have e2 : (X.toArray.extract 0 X.toArray.size).toList = X := by simp
    rw [e1, e2] at hperm
    exact hperm
  · refine List.pairwise_iff_getElem.2 fun i j hi hj hij => ?_
    have hi' : i < d'.size := by simpa using hi
    have hj' : j < d'.size := by simpa using hj
    have := hsort i j (Nat.zero_le _) hij (by rw [← hsz]; exact hj')
    rw [getElem!_pos d' i hi', getElem!_pos d' j hj'] at this
    simpa [ltF, ltOf] using this
  · have := own_sorted (n := m) (os := os) (Y := d'.toList) h rfl (by have := hsz; simpa using this)
    rw [show d'.toList.toArray = d' by simp] at this
    refine ⟨this.1, ?_⟩
    have hb := (Below.refl B w).grown this.2 (Nat.le_trans hlt.1 (Nat.le_of_lt hlt.2)) (by intro k hk; cases hk; exact hlt.1)
    exact hb
end Go.Proofs.YtcikndmmbfompaaGreatDoor
namespace Go.Proofs.YtcikndmmbfompaaGreatDoor
open Go.RowKit Go.Sort
attribute [local go_sem ↓] Go.wp_at_zero Go.wp_at_succ

theorem word_size {y : XLexicon} (h : validLx y = true) {k : Nat} {e : DEntry} (he : y[k]? = some e) : e.word.size ≤ 10 := by
  rw [validLx, Bool.and_eq_true, List.all_eq_true] at h
  have := h.1 k (by simp; exact (List.getElem?_eq_some_iff.1 he).1)
  simp only [he, entOk, Bool.and_eq_true] at this
  have h1 := this.1.1
  unfold isWordB at h1
  rw [Bool.and_eq_true] at h1
  have := (inB_true.1 h1.2).2
  omega
theorem valid_len {y : XLexicon} (h : validLx y = true) : y.length ≤ 60 := by
  rw [validLx, Bool.and_eq_true] at h
  simpa using h.2
theorem foundL_len (x : XLattice) (y : XLexicon) : (foundL x y).length ≤ y.length := List.length_filterMap_le _ _
set_option maxHeartbeats 4000000 in
set_option maxRecDepth 100000 in
theorem readable_any (m : Nat) (v : Value) (x : List DEdge) (vy : Value) (y : XLexicon) (w : World) (h : Arr eEdge w v x) (hv : validLt ((m : Int), x) = true) (hy : Arr eEntry w vy y) (hvy : validLx y = true) :
    Calls Tryz.prog 46 #[.agg #[.int .i64 m, v], .agg #[vy]] w (RetOwn eFound 48 (findAll ((m : Int), x) y) w) := by
  obtain ⟨ax, cx, hvx⟩ := h.isSlice
  subst hvx
  obtain ⟨by_, offy, ay, capy, rfl, hncy, hcmy, haoy, hcy⟩ := hy
  unfold maxLen at hcmy
  have hly := valid_len hvy
  obtain ⟨W, hW⟩ : ∃ W, W = (w.alloc (.cells #[.int .i64 m, .slice ax x.length cx] 33)).alloc (.cells #[.slice ay y.length capy] 37) := ⟨_, rfl⟩
  have hbW : Below w.heap.size w W := by rw [hW]; exact (below_alloc _ _).trans ((below_alloc _ _).mono (by simp))
  have q1 : Box W w.heap.size #[.int .i64 m, .slice ax x.length cx] 33 := by rw [hW]; exact (Box.new w _ _).later (below_alloc _ _)
  have q2 : Box W (w.heap.size + 1) #[.slice ay y.length capy] 37 := by
    rw [hW]
    have := Box.new (w.alloc (.cells #[.int .i64 m, .slice ax x.length cx] 33)) #[.slice ay y.length capy] 37
    simp at this
    exact this
  have hA := h.below hbW
  obtain ⟨H, hH⟩ : ∃ H, H = W.heap.size := ⟨_, rfl⟩
  have hwH : w.heap.size ≤ H := by rw [hH]; exact hbW.size
  obtain ⟨p1, hp1⟩ : ∃ p, p = w.heap.size := ⟨_, rfl⟩
  obtain ⟨p2, hp2⟩ : ∃ p, p = w.heap.size + 1 := ⟨_, rfl⟩
  rw [← hp1] at q1
  rw [← hp2] at q2
  have l1 : p1 < H := by rw [hH]; exact q1.lt
  have l2 : p2 < H := by rw [hH]; exact q2.lt
  have r0 := q1.cell (j := 0) rfl
  have r1 := q1.cell (j := 1) rfl
  have r2 := q2.cell (j := 0) rfl
  have HP1 := hid hp1
  have HP2 := hid hp2
  have HW := hid hW
  have HH := hid hH
  have HV := hid hv
  have HVY := hid hvy
  have hcW : 0 < y.length → Cells eEntry W by_ offy y := fun hl => hcy.below hbW (haoy hl).2
  have hbH : 0 < y.length → by_ < H := fun hl => Nat.lt_of_lt_of_le (haoy hl).2 hwH
  clear hp1 hp2 hW hH h hcy hv
  go_enter Tryz.func46, Tryz.ntmps46
  go_wp2_with fail
  rw [← HP2.out, ← HP1.out, ← HW.out]
  go_loopw [5, 12] (fun l i wr => ∃ j : Nat, j ≤ y.length ∧ i = .int .i64 j ∧ Own eFound 48 H wr l (foundL ((m : Int), x) (y.take j)) ∧ Below H W wr) (fun _ i _ => y.length - (intOf i).toNat)
  case atStart => exact ⟨0, Nat.zero_le _, rfl, Own.nil _ _ _, Below.refl _ _⟩
  case round =>
    obtain ⟨j, hj, rfl, ho, hb⟩ := hrel
    have t0 := below_cell hb l1 r0
    have t1 := below_cell hb l1 r1
    have t2 := below_cell hb l2 r2
    have hHr : H ≤ wr.heap.size := by rw [HH.out]; exact hb.size
    by_cases hlt : j < y.length
    · obtain ⟨hao', hbw⟩ := haoy (by omega)
      subst hao'
      obtain ⟨e, he⟩ : ∃ e, y[j]? = some e := ⟨_, List.getElem?_eq_getElem hlt⟩
      have hli : (j : Int) < (y.length : Int) := by omega
      obtain ⟨c0, c1⟩ := eEntry_cells ((hcW (by omega)).below hb (hbH (by omega))) he
      have hsz : e.word.size ≤ 1048576 := by have := word_size HVY.out he; omega
      have HT := hid (foundL_take (x := ((m : Int), x)) he)
      have hxl : (foundL ((m : Int), x) (y.take j)).length ≤ 60 := by
        have := foundL_len ((m : Int), x) (y.take j)
        rw [List.length_take] at this; omega
      obtain ⟨XS, hXS⟩ : ∃ XS, XS = foundL ((m : Int), x) (y.take j) := ⟨_, rfl⟩
      rw [← hXS] at ho hxl HT
      have hr := okC_row (valid_good HV.out) e.word e.word.size (m - 1)
      have hrr : textR ((m : Int), x) e.word = rowC e.word x e.word.size (m - 1) := by unfold textR; simp only [Int.toNat_natCast]
      have hf1 : found1 ((m : Int), x) e = if rowC e.word x e.word.size (m - 1) < NW then some ⟨e.word, rowC e.word x e.word.size (m - 1), e.cost⟩ else none := by unfold found1; rw [hrr]
      rw [hf1] at HT
      obtain ⟨n1, n2, x2⟩ := valid_bd HV.out
      have HRW : Hid (rowC e.word x e.word.size (m - 1) = NW ∨ (0 ≤ rowC e.word x e.word.size (m - 1) ∧ rowC e.word x e.word.size (m - 1) < NW)) := hid (by have e := NW_eq; omega)
      obtain ⟨wd, co⟩ := e
      simp only at c0 c1 hsz HT HRW
      clear hr hrr hf1 he hXS
      obtain ⟨w3, hw3⟩ : ∃ w3, w3 = wr.alloc (.cells #[.string wd, .int .i64 co] 75) := ⟨_, rfl⟩
      have hm3 : Below wr.heap.size wr w3 := by rw [hw3]; exact below_alloc _ _
      have hb3 : Below H W w3 := hb.trans (hm3.mono hHr)
      have ho3 := ho.below hm3
      have e0 : w3.cell? ⟨wr.heap.size, 0, none⟩ = some (.string wd) := by rw [hw3]; simp
      have e1 : w3.cell? ⟨wr.heap.size, 1, none⟩ = some (.int .i64 co) := by rw [hw3]; simp
      have hx3 : Arr eEdge w3 (.slice ax x.length cx) x := hA.below (HH.out ▸ hb3)
      have HW3 := hid hw3
      have HCON := hid (implText_any m _ x wd w3 hx3 HV.out hsz)
      have x0 := cell_alloc t0 (.cells #[.string wd, .int .i64 co] 75)
      have x1 := cell_alloc t1 (.cells #[.string wd, .int .i64 co] 75)
      obtain ⟨rw_, hrw⟩ : ∃ r, r = rowC wd x wd.size (m - 1) := ⟨_, rfl⟩
      rw [← hrw] at HT HRW HCON
      clear hrw hw3
      rcases HRW.out with h1 | ⟨h1, h2⟩
      · subst h1
        rw [NW_eq] at HCON
        have HT' : Hid (foundL ((m : Int), x) (y.take (j + 1)) = XS) := hid (by rw [HT.out, if_neg (by omega)]; simp)
        go_wp2_with (go_at_call 71; rw [← HW3.out]; refine HCON.out.mono ?_; rintro e w4 ⟨rfl, hb4⟩)
        go_roundw
        case rel => exact ⟨j + 1, by omega, by go_num, by rw [HT'.out]; exact ho3.below hb4, hb3.trans (hb4.mono (Nat.le_trans hHr hm3.size))⟩
        case measure => simp [intOf]; omega
      · have HT' : Hid (foundL ((m : Int), x) (y.take (j + 1)) = XS ++ [⟨wd, rw_, co⟩]) := hid (by rw [HT.out, if_pos h2]; rfl)
        have hd : rw_ < 1099511627776 := by rw [← NW_eq]; exact h2
        clear h2
        obtain ⟨sl, sc, hls⟩ := ho.isSlice
        subst hls
        go_wp2_with (first | (go_at_call 71; rw [← HW3.out]; refine HCON.out.mono ?_; rintro e w4 ⟨rfl, hb4⟩; have f0 := cell_later hb4 e0; have f1 := cell_later hb4 e1; have ho4 := ho3.below hb4; have hb4' := hb3.trans (hb4.mono (Nat.le_trans hHr hm3.size)); have hH4 := Nat.le_trans (Nat.le_trans hHr hm3.size) hb4.size) | (at_builtin; (refine wpList_appA rfl _ _ 79 rfl H 48 _ 32 infFound Tryz.underlying79 rfl _ XS rfl (ho4.alloc _) _ [⟨wd, rw_, co⟩] rfl (by exact arr_block1 (E := eFound) (n := 1) [⟨wd, rw_, co⟩] #[.string wd, .int .i64 rw_, .int .i64 co] rfl rfl (maxLen_ge (Nat.le_of_ble_eq_true rfl)) (by simp)) (by unfold maxLen; simp <;> omega) (by simp <;> omega) (by simp <;> omega) ?_; intro v' wA hoA hbA htA)))
        go_roundw
        case rel => exact ⟨j + 1, by omega, by go_num, by rw [HT'.out]; exact hoA, (hb4'.alloc hH4 _).trans hbA⟩
        case measure => simp [intOf]; omega
    · obtain rfl : j = y.length := by omega
      rw [List.take_length] at ho
      have hbe : Below w.heap.size w wr := hbW.trans (hb.mono hwH)
      have hSo := sorted_of_valid HVY.out
      rcases ho.shape with ⟨rfl, h0⟩ | ⟨g, cap, rfl, hB, hl⟩
      · have HN := hid (AnyF.slices_SortFunc_none { Tryz.sortFound with } none 0 (.func (.func 44) #[] #[]) wr)
        have hF : Hid (findAll ((m : Int), x) y = []) := hid (by unfold findAll; rw [h0]; rfl)
        have HN' : Hid (Calls Tryz.prog 72 #[.slice none 0 0, .func (.func 44) #[] #[]] wr fun e w' => e = .returned (.tuple #[]) ∧ w' = wr) := HN
        clear HN
        go_wp2_with (go_at_call 72; refine HN'.out.mono ?_; rintro e w' ⟨rfl, rfl⟩)
        go_ret
        exact ⟨_, rfl, by rw [hF.out]; exact Own.nil _ _ _, hbe⟩
      · have hll := foundL_len ((m : Int), x) y
        have HS := hid (sortFound_any g cap _ H _ wr ho rfl (by omega))
        go_wp2_with (go_at_call 72; refine HS.out.mono ?_; rintro e w5 ⟨rfl, Y, hperm, hup, hoY, hbY⟩)
        go_ret
        refine ⟨_, rfl, ?_, hbe.trans (hbY.mono hwH)⟩
        rw [← find_unique hSo hperm hup]
        exact hoY.mono hwH
end Go.Proofs.YtcikndmmbfompaaGreatDoor
namespace Go.Proofs.YtcikndmmbfompaaGreatDoor
open Go.RowKit Go.Sort
attribute [local go_sem ↓] Go.wp_at_zero Go.wp_at_succ

theorem cells_oneF (e : DFound) (w : World) : ∀ j u, (eFound.flat [e])[j]? = some u → (w.alloc (.cells #[.string e.word, .int .i64 e.path, .int .i64 e.own_] 48)).cell? ((⟨w.heap.size, 0, none⟩ : Addr).add j) = some u := by
  intro j u hu
  match j, hu with
  | 0, hu => cases hu; simp [Addr.add]
  | 1, hu => cases hu; simp [Addr.add]
  | 2, hu => cases hu; simp [Addr.add]
  | j + 3, hu => simp [Enc.flat, eFound] at hu
set_option maxHeartbeats 8000000 in
set_option maxRecDepth 100000 in
theorem l16All_any (p1 p2 m : Nat) (v : Value) (x : List DEdge) (vy : Value) (y : XLexicon) (w : World) (hp0 : w.cell? ⟨p1, 0, none⟩ = some (.int .i64 m)) (hp1 : w.cell? ⟨p1, 1, none⟩ = some v) (hx : Arr eEdge w v x) (hv : validLt ((m : Int), x) = true) (hq : w.cell? ⟨p2, 0, none⟩ = some vy) (hy : Arr eEntry w vy y) (hvy : validLx y = true) :
    Calls Tryz.prog 35 #[.pointer (some ⟨p1, 0, none⟩), .pointer (some ⟨p2, 0, none⟩)] w (RetOwn eFound 48 (findAll ((m : Int), x) y) w) := by
  obtain ⟨by_, offy, ay, capy, rfl, hncy, hcmy, haoy, hcy⟩ := hy
  unfold maxLen at hcmy
  have hly := valid_len hvy
  obtain ⟨H, hH⟩ : ∃ H, H = w.heap.size := ⟨_, rfl⟩
  have l1 : p1 < H := by rw [hH]; exact cell_lt hp0
  have l2 : p2 < H := by rw [hH]; exact cell_lt hq
  have HH := hid hH
  have HV := hid hv
  have HVY := hid hvy
  have hbH : 0 < y.length → by_ < H := fun hl => by rw [hH]; exact (haoy hl).2
  clear hH hv hvy
  go_enter Tryz.func35, Tryz.ntmps35
  go_wp2_with fail
  go_loopw [5, 6] (fun l i wr => ∃ j g cap : Nat, j ≤ y.length ∧ i = .int .i64 j ∧ l = .slice (some ⟨g, 0, none⟩) (findAll ((m : Int), x) (y.take j)).length cap ∧ Own eFound 48 H wr (.slice (some ⟨g, 0, none⟩) (findAll ((m : Int), x) (y.take j)).length cap) (findAll ((m : Int), x) (y.take j)) ∧ Below H w wr) (fun _ i _ => y.length - (intOf i).toNat)
  case atStart => exact ⟨0, w.heap.size, 0, Nat.zero_le _, rfl, by simp [findAll, foundL], by simpa [findAll, foundL] using (Own.empty (E := eFound) 48 w (by rw [HH.out]; exact Nat.le_refl _)), by rw [HH.out]; exact below_alloc _ _⟩
  case round =>
    obtain ⟨j, g, cap, hj, rfl, rfl, ho, hb⟩ := hrel
    have hXl : (findAll ((m : Int), x) (y.take j)).length ≤ 60 := by
      have := findAll_len ((m : Int), x) (y.take j)
      rw [List.length_take] at this; omega
    obtain ⟨XS, hXS⟩ : ∃ XS, XS = findAll ((m : Int), x) (y.take j) := ⟨_, rfl⟩
    rw [← hXS] at ho hXl ⊢
    have HXS := hid hXS
    clear hXS
    have t0 := below_cell hb l1 hp0
    have t1 := below_cell hb l1 hp1
    have t2 := below_cell hb l2 hq
    have hHr : H ≤ wr.heap.size := by rw [HH.out]; exact hb.size
    by_cases hlt : j < y.length
    · obtain ⟨hao', hbw⟩ := haoy (by omega)
      subst hao'
      obtain ⟨e, he⟩ : ∃ e, y[j]? = some e := ⟨_, List.getElem?_eq_getElem hlt⟩
      have hli : (j : Int) < (y.length : Int) := by omega
      obtain ⟨c0, c1⟩ := eEntry_cells (hcy.below hb (hbH (by omega))) he
      have hsz : e.word.size ≤ 20 := by have := word_size HVY.out he; omega
      have HT := hid (findAll_take (x := ((m : Int), x)) he)
      obtain ⟨n1, n2, x2⟩ := valid_bd HV.out
      have hr := okC_row (valid_good HV.out) e.word e.word.size (m - 1)
      have hrr : textR ((m : Int), x) e.word = rowC e.word x e.word.size (m - 1) := by unfold textR; simp only [Int.toNat_natCast]
      have hf1 : found1 ((m : Int), x) e = if rowC e.word x e.word.size (m - 1) < NW then some ⟨e.word, rowC e.word x e.word.size (m - 1), e.cost⟩ else none := by unfold found1; rw [hrr]
      rw [hf1, ← HXS.out] at HT
      have HRW : Hid (rowC e.word x e.word.size (m - 1) = NW ∨ (0 ≤ rowC e.word x e.word.size (m - 1) ∧ rowC e.word x e.word.size (m - 1) < NW)) := hid (by have e := NW_eq; omega)
      have hx3 : Arr eEdge wr v x := hx.below (HH.out ▸ hb)
      have HCON := hid (l15TextCost_any p1 v m x e.word wr t0 t1 hx3 HV.out hsz)
      obtain ⟨wd, co⟩ := e
      simp only at c0 c1 hsz HT HRW HCON
      obtain ⟨r, hrw⟩ : ∃ r, r = rowC wd x wd.size (m - 1) := ⟨_, rfl⟩
      rw [← hrw] at HT HRW HCON
      clear hr hrr hf1 he hrw
      rcases HRW.out with h1 | ⟨h1, h2⟩
      · subst h1
        rw [enc1_no] at HCON
        have HT' : Hid (findAll ((m : Int), x) (y.take (j + 1)) = XS) := hid (by rw [HT.out, if_neg (by omega)])
        go_wp2_with (go_at_call 57; refine HCON.out.mono ?_; rintro e w4 ⟨rfl, hb4⟩)
        go_roundw
        case rel => exact ⟨j + 1, g, cap, by omega, by go_num, by rw [HT'.out], by rw [HT'.out]; exact ho.below hb4, hb.trans (hb4.mono hHr)⟩
        case measure => simp [intOf]; omega
      · rw [enc1_yes (by omega)] at HCON
        have HT' : Hid (findAll ((m : Int), x) (y.take (j + 1)) = insE ltF XS ⟨wd, r, co⟩) := hid (by rw [HT.out, if_pos h2])
        replace HT := HT'
        clear HT'
        have hd : decide (r < 0) = false := by simp; omega
        obtain ⟨hcx, hncx⟩ := own_cells ho rfl
        have hgr := ho.lt.2
        go_wp2_with (go_at_call 57; refine HCON.out.mono ?_; rintro e w4 ⟨rfl, hb4⟩; have c0 := cell_later hb4 c0; have c1 := cell_later hb4 c1; have t2 := cell_later hb4 t2)
        have z0 := cell_alloc c0 (.cells #[.string ⟨#[]⟩, .int .i64 0, .int .i64 0] 48)
        have z1 := cell_alloc c1 (.cells #[.string ⟨#[]⟩, .int .i64 0, .int .i64 0] 48)
        have z2 := cell_alloc t2 (.cells #[.string ⟨#[]⟩, .int .i64 0, .int .i64 0] 48)
        go_region
        obtain ⟨pf, hpf⟩ : ∃ p, p = w4.heap.size := ⟨_, rfl⟩
        obtain ⟨w5, hw5⟩ : ∃ w5, w5 = (w4.alloc (.cells #[.string wd, .int .i64 r, .int .i64 co] 48)).drew := ⟨_, rfl⟩
        have hm5 : Below w4.heap.size w4 w5 := by rw [hw5]; exact (below_alloc _ _).drew
        have f0 : w5.cell? ⟨pf, 0, none⟩ = some (.string wd) := by rw [hw5, hpf]; simp
        have f1 : w5.cell? ⟨pf, 1, none⟩ = some (.int .i64 r) := by rw [hw5, hpf]; simp
        have f2 : w5.cell? ⟨pf, 2, none⟩ = some (.int .i64 co) := by rw [hw5, hpf]; simp
        have hbr5 : Below wr.heap.size wr w5 := hb4.trans (hm5.mono hb4.size)
        have hbw5 : Below H w w5 := hb.trans (hbr5.mono hHr)
        have hH5 : H ≤ w5.heap.size := by rw [HH.out]; exact hbw5.size
        have hgl : g < w5.heap.size := Nat.lt_of_lt_of_le hgr hbr5.size
        have hcc : Cells eFound w5 g 0 XS := hcx.below hbr5 hgr
        rw [← hw5, ← hpf]
        clear hw5 hpf z0 z1 z2 c0 c1 t2 t0 t1 hcx ho
        go_wp2
        go_loopw [9] (fun i wz => ∃ k : Nat, k ≤ XS.length ∧ i = .int .i64 k ∧ Below w5.heap.size w5 wz ∧ wz.cell? ⟨pf, 0, none⟩ = some (.string wd) ∧ wz.cell? ⟨pf, 1, none⟩ = some (.int .i64 r) ∧ wz.cell? ⟨pf, 2, none⟩ = some (.int .i64 co) ∧ posE ltF ⟨wd, r, co⟩ XS XS.length = posE ltF ⟨wd, r, co⟩ XS k) (fun i _ => (intOf i).toNat)
        case atStart => exact ⟨XS.length, Nat.le_refl _, rfl, Below.refl _ _, f0, f1, f2, rfl⟩
        case round =>
          clear f0 f1 f2
          obtain ⟨k, hk, rfl, hb, f0, f1, f2, hpos⟩ := hrel
          have HPP := hid hpos
          clear hpos
          have x_f0 := ext_cell f0
          have x_f1 := ext_cell f1
          have x_f2 := ext_cell f2
          by_cases hk0 : 0 < k
          · have hki : (0 : Int) < (k : Int) := by omega
            have hk1 : (0 : Int) ≤ (k : Int) - 1 := by omega
            have hk2 : (k : Int) - 1 < (XS.length : Int) := by omega
            have et : ((k : Int) - 1).toNat = k - 1 := by omega
            obtain ⟨a, ha⟩ : ∃ a, XS[k - 1]? = some a := ⟨_, List.getElem?_eq_getElem (by omega)⟩
            obtain ⟨c0, c1, c2⟩ := eFound_cells (hcc.below hb hgl) ha
            have c0' : wr.cell? ⟨g, (k - 1) * 3, none⟩ = some (.string a.word) := by simpa using c0
            have c1' : wr.cell? ⟨g, (k - 1) * 3 + 1, none⟩ = some (.int .i64 a.path) := by simpa using c1
            have c2' : wr.cell? ⟨g, (k - 1) * 3 + 2, none⟩ = some (.int .i64 a.own_) := by simpa using c2
            have x_c0 := ext_cell c0'
            have x_c1 := ext_cell c1'
            have x_c2 := ext_cell c2'
            have HAA := hid ha
            clear ha c0 c1 c2
            have HST : Hid (posE ltF ⟨wd, r, co⟩ XS k = if ltF ⟨wd, r, co⟩ a = true then posE ltF ⟨wd, r, co⟩ XS (k - 1) else k) := hid (by
              obtain ⟨k', rfl⟩ : ∃ k', k = k' + 1 := ⟨k - 1, by omega⟩
              have := HAA.out
              rw [Nat.add_sub_cancel] at this ⊢
              rw [posE, this])
            have HCM := fun w' => l16Before_any ⟨wd, r, co⟩ a w'
            cases hl : ltF ⟨wd, r, co⟩ a
            · rw [hl] at HST HCM
              have HPOS : Hid (posE ltF ⟨wd, r, co⟩ XS XS.length = k) := hid (by rw [HPP.out, HST.out]; rfl)
              clear hl
              go_wp2
              refine wp_region_ext (by kernel_rfl) (by kernel_rfl) ?_
              repeat (go_big_quiet_step ((go_at_call 33; exact ret_ext (HCM _))))
              refine wpQuiet_nil ?_
              intro _ hw'
              obtain ⟨nq, hw''⟩ := hw'
              subst hw''
              have HB := hb.trans ((ext_below _ nq).mono hb.size)
              have F0 := ext_cell f0 nq
              have F1 := ext_cell f1 nq
              have F2 := ext_cell f2 nq
              have hfz := cell_lt F0
              generalize ext wr nq = WN at HB F0 F1 F2 hfz ⊢
              obtain ⟨B, hB⟩ : ∃ B, B = WN.heap.size := ⟨_, rfl⟩
              have hgB : g < B := by rw [hB]; exact Nat.lt_of_lt_of_le hgl HB.size
              have hccN : Cells eFound WN g 0 XS := hcc.below HB hgl
              have hH5B : w5.heap.size ≤ B := by rw [hB]; exact HB.size
              have hHB : H ≤ B := Nat.le_trans hH5 hH5B
              have hfB : pf < B := by rw [hB]; exact hfz
              obtain ⟨L1, hL1⟩ : ∃ L1, L1 = XS.take k := ⟨_, rfl⟩
              have hl1 : k = L1.length := by rw [hL1, List.length_take]; omega
              have hin : Hid (∀ w', Below B WN w' → ∀ j u, (eFound.flat L1)[j]? = some u → w'.cell? ((⟨g, 0, none⟩ : Addr).add j) = some u) := by
                intro w' hb' j u hu
                rw [Addr.add_lit]
                refine flat_cells (hccN.below hb' hgB) j u ?_
                have hsp : eFound.flat XS = eFound.flat L1 ++ eFound.flat (XS.drop k) := by rw [hL1, ← eFound.flat_append, List.take_append_drop]
                rw [hsp, List.getElem?_append_left (List.getElem?_eq_some_iff.1 hu).1]; exact hu
              obtain ⟨A, hA, _, hAc⟩ := sub_addr hccN rfl hncx hk
              have hA' : (if cap = k then some (⟨g, 0, none⟩ : Addr) else some ⟨g, k * 3, none⟩) = some A := hA
              have HAC := hid hAc
              have HINS : Hid (insE ltF XS ⟨wd, r, co⟩ = L1 ++ ⟨wd, r, co⟩ :: XS.drop k) := hid (by unfold insE; rw [HPOS.out, hL1])
              clear hA hAc hb f0 f1 f2
              have HL1 := hid hL1
              have Hl1 := hid hl1
              clear hL1 hl1
              have hl2 : XS.length - k = (XS.drop k).length := by rw [List.length_drop]
              have Hl2 := hid hl2
              clear hl2
              have hkc : k ≤ cap := by omega
              have hbB : Below B WN (WN.alloc (.cells #[] 48)) := by rw [hB]; exact below_alloc _ _
              have HBQ := hid hB
              clear hB
              go_wp2_with (at_builtin; refine wpList_appM rfl _ _ 79 rfl B 48 _ 32 infFound Tryz.underlying79 rfl WN.heap.size 0 0 [] rfl (Own.empty _ _ (by rw [HBQ.out]; exact Nat.le_refl _)) ⟨g, 0, none⟩ k cap L1 rfl Hl1.out (hin.out _ hbB) k (by have := Hl1.out; simp; omega) (by unfold maxLen; omega) (by omega) (by rw [HBQ.out]; simp) ?_)
              intro g1 cap1 w1 ho1 hb1 hc1
              have HB1 : Below B WN w1 := hbB.trans hb1
              have z1 : B ≤ w1.heap.size := by rw [HBQ.out]; exact HB1.size
              have G0 := (HB1.cell (p := ⟨pf, 0, none⟩) hfB).trans F0
              have G1 := (HB1.cell (p := ⟨pf, 1, none⟩) hfB).trans F1
              have G2 := (HB1.cell (p := ⟨pf, 2, none⟩) hfB).trans F2
              go_wp2_with (at_builtin; refine wpList_appM rfl _ _ 79 rfl B 48 _ 32 infFound Tryz.underlying79 rfl g1 _ cap1 L1 rfl (ho1.alloc _) ⟨w1.heap.size, 0, none⟩ 1 1 [⟨wd, r, co⟩] rfl rfl (cells_oneF ⟨wd, r, co⟩ w1) (k + 1) (by have := Hl1.out; simp; omega) (by unfold maxLen; omega) (by omega) (by simp; omega) ?_)
              intro g2 cap2 w2 ho2 hb2 hc2
              have HB2 : Below B WN w2 := (HB1.alloc z1 _).trans hb2
              have z2 : B ≤ w2.heap.size := by rw [HBQ.out]; exact HB2.size
              go_wp2_with (at_builtin; refine wpList_appM rfl _ _ 79 rfl B 48 _ 32 infFound Tryz.underlying79 rfl g2 _ cap2 (L1 ++ [⟨wd, r, co⟩]) rfl ho2 A (XS.length - k) (cap - k) (XS.drop k) rfl Hl2.out (HAC.out w2 (fun o => HB2.cell (p := ⟨g, o, none⟩) hgB)) (XS.length + 1) (by have := Hl1.out; have := Hl2.out; simp only [List.length_append, List.length_cons, List.length_nil]; omega) (by unfold maxLen; omega) (by omega) (by omega) ?_)
              intro g3 cap3 w3 ho3 hb3 hc3
              have HFIN : Hid (findAll ((m : Int), x) (y.take (j + 1)) = L1 ++ ⟨wd, r, co⟩ :: XS.drop k) := hid (by rw [HT.out, HINS.out])
              have HLEN : Hid ((findAll ((m : Int), x) (y.take (j + 1))).length = XS.length + 1) := hid (by rw [HT.out, insE_len])
              have HBE : Below H w w3 := hbw5.trans ((HB.mono hH5).trans ((HB2.trans hb3).mono hHB))
              go_wp2
              go_roundw
              case rel => exact ⟨j + 1, g3, cap3, by omega, by go_num, by rw [HLEN.out], by rw [HLEN.out, HFIN.out]; exact ho3.mono hHB, HBE⟩
              case measure => simp [intOf]; omega
            · rw [hl] at HST HCM
              clear hl
              go_wp2
              refine wp_region_ext (by kernel_rfl) (by kernel_rfl) ?_
              repeat (go_big_quiet_step ((go_at_call 33; exact ret_ext (HCM _))))
              refine wpQuiet_nil ?_
              intro _ hw'
              obtain ⟨nq, hw''⟩ := hw'
              subst hw''
              go_wp2
              go_roundw
              case rel => exact ⟨k - 1, by omega, by go_num, hb.trans ((ext_below _ _).mono hb.size), x_f0 nq, x_f1 nq, x_f2 nq, by rw [HPP.out, HST.out]; rfl⟩
              case measure => simp [intOf]; omega
          · have hki : (k : Int) ≤ 0 := by omega
            have HPOS : Hid (posE ltF ⟨wd, r, co⟩ XS XS.length = k) := hid (by rw [HPP.out, show k = 0 by omega]; rfl)
            have hdk : decide ((0 : Int) < (k : Int)) = false := by simp; omega
            go_wp2
            refine wp_region_ext (by kernel_rfl) (by kernel_rfl) ?_
            repeat (go_big_quiet_step (fail))
            refine wpQuiet_nil ?_
            intro _ hw'
            obtain ⟨nq, hw''⟩ := hw'
            subst hw''
            have HB := hb.trans ((ext_below _ nq).mono hb.size)
            have F0 := ext_cell f0 nq
            have F1 := ext_cell f1 nq
            have F2 := ext_cell f2 nq
            have hfz := cell_lt F0
            generalize ext wr nq = WN at HB F0 F1 F2 hfz ⊢
            obtain ⟨B, hB⟩ : ∃ B, B = WN.heap.size := ⟨_, rfl⟩
            have hgB : g < B := by rw [hB]; exact Nat.lt_of_lt_of_le hgl HB.size
            have hccN : Cells eFound WN g 0 XS := hcc.below HB hgl
            have hH5B : w5.heap.size ≤ B := by rw [hB]; exact HB.size
            have hHB : H ≤ B := Nat.le_trans hH5 hH5B
            have hfB : pf < B := by rw [hB]; exact hfz
            obtain ⟨L1, hL1⟩ : ∃ L1, L1 = XS.take k := ⟨_, rfl⟩
            have hl1 : k = L1.length := by rw [hL1, List.length_take]; omega
            have hin : Hid (∀ w', Below B WN w' → ∀ j u, (eFound.flat L1)[j]? = some u → w'.cell? ((⟨g, 0, none⟩ : Addr).add j) = some u) := by
              intro w' hb' j u hu
              rw [Addr.add_lit]
              refine flat_cells (hccN.below hb' hgB) j u ?_
              have hsp : eFound.flat XS = eFound.flat L1 ++ eFound.flat (XS.drop k) := by rw [hL1, ← eFound.flat_append, List.take_append_drop]
              rw [hsp, List.getElem?_append_left (List.getElem?_eq_some_iff.1 hu).1]; exact hu
            obtain ⟨A, hA, _, hAc⟩ := sub_addr hccN rfl hncx hk
            have hA' : (if cap = k then some (⟨g, 0, none⟩ : Addr) else some ⟨g, k * 3, none⟩) = some A := hA
            have HAC := hid hAc
            have HINS : Hid (insE ltF XS ⟨wd, r, co⟩ = L1 ++ ⟨wd, r, co⟩ :: XS.drop k) := hid (by unfold insE; rw [HPOS.out, hL1])
            clear hA hAc hb f0 f1 f2
            have HL1 := hid hL1
            have Hl1 := hid hl1
            clear hL1 hl1
            have hl2 : XS.length - k = (XS.drop k).length := by rw [List.length_drop]
            have Hl2 := hid hl2
            clear hl2
            have hkc : k ≤ cap := by omega
            have hbB : Below B WN (WN.alloc (.cells #[] 48)) := by rw [hB]; exact below_alloc _ _
            have HBQ := hid hB
            clear hB
            go_wp2_with (at_builtin; refine wpList_appM rfl _ _ 79 rfl B 48 _ 32 infFound Tryz.underlying79 rfl WN.heap.size 0 0 [] rfl (Own.empty _ _ (by rw [HBQ.out]; exact Nat.le_refl _)) ⟨g, 0, none⟩ k cap L1 rfl Hl1.out (hin.out _ hbB) k (by have := Hl1.out; simp; omega) (by unfold maxLen; omega) (by omega) (by rw [HBQ.out]; simp) ?_)
            intro g1 cap1 w1 ho1 hb1 hc1
            have HB1 : Below B WN w1 := hbB.trans hb1
            have z1 : B ≤ w1.heap.size := by rw [HBQ.out]; exact HB1.size
            have G0 := (HB1.cell (p := ⟨pf, 0, none⟩) hfB).trans F0
            have G1 := (HB1.cell (p := ⟨pf, 1, none⟩) hfB).trans F1
            have G2 := (HB1.cell (p := ⟨pf, 2, none⟩) hfB).trans F2
            go_wp2_with (at_builtin; refine wpList_appM rfl _ _ 79 rfl B 48 _ 32 infFound Tryz.underlying79 rfl g1 _ cap1 L1 rfl (ho1.alloc _) ⟨w1.heap.size, 0, none⟩ 1 1 [⟨wd, r, co⟩] rfl rfl (cells_oneF ⟨wd, r, co⟩ w1) (k + 1) (by have := Hl1.out; simp; omega) (by unfold maxLen; omega) (by omega) (by simp; omega) ?_)
            intro g2 cap2 w2 ho2 hb2 hc2
            have HB2 : Below B WN w2 := (HB1.alloc z1 _).trans hb2
            have z2 : B ≤ w2.heap.size := by rw [HBQ.out]; exact HB2.size
            go_wp2_with (at_builtin; refine wpList_appM rfl _ _ 79 rfl B 48 _ 32 infFound Tryz.underlying79 rfl g2 _ cap2 (L1 ++ [⟨wd, r, co⟩]) rfl ho2 A (XS.length - k) (cap - k) (XS.drop k) rfl Hl2.out (HAC.out w2 (fun o => HB2.cell (p := ⟨g, o, none⟩) hgB)) (XS.length + 1) (by have := Hl1.out; have := Hl2.out; simp only [List.length_append, List.length_cons, List.length_nil]; omega) (by unfold maxLen; omega) (by omega) (by omega) ?_)
            intro g3 cap3 w3 ho3 hb3 hc3
            have HFIN : Hid (findAll ((m : Int), x) (y.take (j + 1)) = L1 ++ ⟨wd, r, co⟩ :: XS.drop k) := hid (by rw [HT.out, HINS.out])
            have HLEN : Hid ((findAll ((m : Int), x) (y.take (j + 1))).length = XS.length + 1) := hid (by rw [HT.out, insE_len])
            have HBE : Below H w w3 := hbw5.trans ((HB.mono hH5).trans ((HB2.trans hb3).mono hHB))
            go_wp2
            go_roundw
            case rel => exact ⟨j + 1, g3, cap3, by omega, by go_num, by rw [HLEN.out], by rw [HLEN.out, HFIN.out]; exact ho3.mono hHB, HBE⟩
            case measure => simp [intOf]; omega
    · obtain rfl : j = y.length := by omega
      rw [List.take_length] at HXS
      go_wp2
      go_ret
      exact ⟨_, rfl, by rw [← HXS.out, ← HH.out]; exact ho, by rw [← HH.out]; exact hb⟩
end Go.Proofs.YtcikndmmbfompaaGreatDoor
