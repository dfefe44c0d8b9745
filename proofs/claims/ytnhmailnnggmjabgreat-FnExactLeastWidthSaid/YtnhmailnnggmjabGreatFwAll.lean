/- The reference's list of readable words. -/
import Derived.Test.YtnhmailnnggmjabGreatFwRead
import Derived.Test.YtnhmailnnggmjabGreatLxSet
import Derived.Test.YtnhmailnnggmjabGreatLtText2
namespace Go.Proofs.YtnhmailnnggmjabGreat
open Go.RowKit Go.Sort
attribute [local go_sem ↓] Go.wp_at_zero Go.wp_at_succ

theorem cells_oneF (e : DFound) (w : World) : ∀ j u, (eFound.flat [e])[j]? = some u → (w.alloc (.cells #[.string e.word, .int .i64 e.path, .int .i64 e.own_] 53)).cell? ((⟨w.heap.size, 0, none⟩ : Addr).add j) = some u := by
  intro j u hu
  match j, hu with
  | 0, hu => cases hu; simp [Addr.add]
  | 1, hu => cases hu; simp [Addr.add]
  | 2, hu => cases hu; simp [Addr.add]
  | j + 3, hu => simp [Enc.flat, eFound] at hu
set_option maxHeartbeats 8000000 in
set_option maxRecDepth 100000 in
theorem l16All_any (p1 p2 m : Nat) (v : Value) (x : List DEdge) (vy : Value) (y : XLexicon) (w : World) (hp0 : w.cell? ⟨p1, 0, none⟩ = some (.int .i64 m)) (hp1 : w.cell? ⟨p1, 1, none⟩ = some v) (hx : Arr eEdge w v x) (hv : validLt ((m : Int), x) = true) (hq : w.cell? ⟨p2, 0, none⟩ = some vy) (hy : Arr eEntry w vy y) (hvy : validLx y = true) :
    Calls Tryz.prog 34 #[.pointer (some ⟨p1, 0, none⟩), .pointer (some ⟨p2, 0, none⟩)] w (RetOwn eFound 53 (findAll ((m : Int), x) y) w) := by
  obtain ⟨by_, offy, ay, capy, rfl, hncy, hcmy, haoy, hcy⟩ := hy
  unfold maxLen at hcmy
  have hly := valid_len hvy
  obtain ⟨H, hH⟩ : ∃ H, H = w.heap.size := ⟨_, rfl⟩
  have l1 : p1 < H := by rw [hH]; exact cell_lt hp0
  have l2 : p2 < H := by rw [hH]; exact cell_lt hq
  have HH := hid hH
  have HV := hid hv
  have HVY := hid hvy
  have hbH : 0 < y.length → by_ < H := fun hl => by rw [hH]; exact (haoy hl).2
  clear hH hv hvy
  go_enter Tryz.func34, Tryz.ntmps34
  go_wp2_with fail
  go_loopw [5, 6] (fun l i wr => ∃ j g cap : Nat, j ≤ y.length ∧ i = .int .i64 j ∧ l = .slice (some ⟨g, 0, none⟩) (findAll ((m : Int), x) (y.take j)).length cap ∧ Own eFound 53 H wr (.slice (some ⟨g, 0, none⟩) (findAll ((m : Int), x) (y.take j)).length cap) (findAll ((m : Int), x) (y.take j)) ∧ Below H w wr) (fun _ i _ => y.length - (intOf i).toNat)
  case atStart => exact ⟨0, w.heap.size, 0, Nat.zero_le _, rfl, by simp [findAll, foundL], by simpa [findAll, foundL] using (Own.empty (E := eFound) 53 w (by rw [HH.out]; exact Nat.le_refl _)), by rw [HH.out]; exact below_alloc _ _⟩
  case round =>
    obtain ⟨j, g, cap, hj, rfl, rfl, ho, hb⟩ := hrel
    have hXl : (findAll ((m : Int), x) (y.take j)).length ≤ 60 := by
      have := findAll_len ((m : Int), x) (y.take j)
      rw [List.length_take] at this; omega
    obtain ⟨XS, hXS⟩ : ∃ XS, XS = findAll ((m : Int), x) (y.take j) := ⟨_, rfl⟩
    rw [← hXS] at ho hXl ⊢
    have HXS := hid hXS
    clear hXS
    have t0 := below_cell hb l1 hp0
    have t1 := below_cell hb l1 hp1
    have t2 := below_cell hb l2 hq
    have hHr : H ≤ wr.heap.size := by rw [HH.out]; exact hb.size
    by_cases hlt : j < y.length
    · obtain ⟨hao', hbw⟩ := haoy (by omega)
      subst hao'
      obtain ⟨e, he⟩ : ∃ e, y[j]? = some e := ⟨_, List.getElem?_eq_getElem hlt⟩
      have hli : (j : Int) < (y.length : Int) := by omega
      obtain ⟨c0, c1⟩ := eEntry_cells (hcy.below hb (hbH (by omega))) he
      have hsz : e.word.size ≤ 20 := by have := word_size HVY.out he; omega
      have HT := hid (findAll_take (x := ((m : Int), x)) he)
      obtain ⟨n1, n2, x2⟩ := valid_bd HV.out
      have hr := okC_row (valid_good HV.out) e.word e.word.size (m - 1)
      have hrr : textR ((m : Int), x) e.word = rowC e.word x e.word.size (m - 1) := by unfold textR; simp only [Int.toNat_natCast]
      have hf1 : found1 ((m : Int), x) e = if rowC e.word x e.word.size (m - 1) < NW then some ⟨e.word, rowC e.word x e.word.size (m - 1), e.cost⟩ else none := by unfold found1; rw [hrr]
      rw [hf1, ← HXS.out] at HT
      have HRW : Hid (rowC e.word x e.word.size (m - 1) = NW ∨ (0 ≤ rowC e.word x e.word.size (m - 1) ∧ rowC e.word x e.word.size (m - 1) < NW)) := hid (by have e := NW_eq; omega)
      have hx3 : Arr eEdge wr v x := hx.below (HH.out ▸ hb)
      have HCON := hid (l15TextCost_any p1 v m x e.word wr t0 t1 hx3 HV.out hsz)
      obtain ⟨wd, co⟩ := e
      simp only at c0 c1 hsz HT HRW HCON
      obtain ⟨r, hrw⟩ : ∃ r, r = rowC wd x wd.size (m - 1) := ⟨_, rfl⟩
      rw [← hrw] at HT HRW HCON
      clear hr hrr hf1 he hrw
      rcases HRW.out with h1 | ⟨h1, h2⟩
      · subst h1
        rw [enc1_no] at HCON
        have HT' : Hid (findAll ((m : Int), x) (y.take (j + 1)) = XS) := hid (by rw [HT.out, if_neg (by omega)])
        go_wp2_with (go_at_call 57; refine HCON.out.mono ?_; rintro e w4 ⟨rfl, hb4⟩)
        go_roundw
        case rel => exact ⟨j + 1, g, cap, by omega, by go_num, by rw [HT'.out], by rw [HT'.out]; exact ho.below hb4, hb.trans (hb4.mono hHr)⟩
        case measure => simp [intOf]; omega
      · rw [enc1_yes (by omega)] at HCON
        have HT' : Hid (findAll ((m : Int), x) (y.take (j + 1)) = insE ltF XS ⟨wd, r, co⟩) := hid (by rw [HT.out, if_pos h2])
        replace HT := HT'
        clear HT'
        have hd : decide (r < 0) = false := by simp; omega
        obtain ⟨hcx, hncx⟩ := own_cells ho rfl
        have hgr := ho.lt.2
        go_wp2_with (go_at_call 57; refine HCON.out.mono ?_; rintro e w4 ⟨rfl, hb4⟩; have c0 := cell_later hb4 c0; have c1 := cell_later hb4 c1; have t2 := cell_later hb4 t2)
        have z0 := cell_alloc c0 (.cells #[.string ⟨#[]⟩, .int .i64 0, .int .i64 0] 53)
        have z1 := cell_alloc c1 (.cells #[.string ⟨#[]⟩, .int .i64 0, .int .i64 0] 53)
        have z2 := cell_alloc t2 (.cells #[.string ⟨#[]⟩, .int .i64 0, .int .i64 0] 53)
        go_region
        obtain ⟨pf, hpf⟩ : ∃ p, p = w4.heap.size := ⟨_, rfl⟩
        obtain ⟨w5, hw5⟩ : ∃ w5, w5 = (w4.alloc (.cells #[.string wd, .int .i64 r, .int .i64 co] 53)).drew := ⟨_, rfl⟩
        have hm5 : Below w4.heap.size w4 w5 := by rw [hw5]; exact (below_alloc _ _).drew
        have f0 : w5.cell? ⟨pf, 0, none⟩ = some (.string wd) := by rw [hw5, hpf]; simp
        have f1 : w5.cell? ⟨pf, 1, none⟩ = some (.int .i64 r) := by rw [hw5, hpf]; simp
        have f2 : w5.cell? ⟨pf, 2, none⟩ = some (.int .i64 co) := by rw [hw5, hpf]; simp
        have hbr5 : Below wr.heap.size wr w5 := hb4.trans (hm5.mono hb4.size)
        have hbw5 : Below H w w5 := hb.trans (hbr5.mono hHr)
        have hH5 : H ≤ w5.heap.size := by rw [HH.out]; exact hbw5.size
        have hgl : g < w5.heap.size := Nat.lt_of_lt_of_le hgr hbr5.size
        have hcc : Cells eFound w5 g 0 XS := hcx.below hbr5 hgr
        rw [← hw5, ← hpf]
        clear hw5 hpf z0 z1 z2 c0 c1 t2 t0 t1 hcx ho
        go_wp2
        go_loopw [9] (fun i wz => ∃ k : Nat, k ≤ XS.length ∧ i = .int .i64 k ∧ Below w5.heap.size w5 wz ∧ wz.cell? ⟨pf, 0, none⟩ = some (.string wd) ∧ wz.cell? ⟨pf, 1, none⟩ = some (.int .i64 r) ∧ wz.cell? ⟨pf, 2, none⟩ = some (.int .i64 co) ∧ posE ltF ⟨wd, r, co⟩ XS XS.length = posE ltF ⟨wd, r, co⟩ XS k) (fun i _ => (intOf i).toNat)
        case atStart => exact ⟨XS.length, Nat.le_refl _, rfl, Below.refl _ _, f0, f1, f2, rfl⟩
        case round =>
          clear f0 f1 f2
          obtain ⟨k, hk, rfl, hb, f0, f1, f2, hpos⟩ := hrel
          have HPP := hid hpos
          clear hpos
          have x_f0 := ext_cell f0
          have x_f1 := ext_cell f1
          have x_f2 := ext_cell f2
          by_cases hk0 : 0 < k
          · have hki : (0 : Int) < (k : Int) := by omega
            have hk1 : (0 : Int) ≤ (k : Int) - 1 := by omega
            have hk2 : (k : Int) - 1 < (XS.length : Int) := by omega
            have et : ((k : Int) - 1).toNat = k - 1 := by omega
            obtain ⟨a, ha⟩ : ∃ a, XS[k - 1]? = some a := ⟨_, List.getElem?_eq_getElem (by omega)⟩
            obtain ⟨c0, c1, c2⟩ := eFound_cells (hcc.below hb hgl) ha
            have c0' : wr.cell? ⟨g, (k - 1) * 3, none⟩ = some (.string a.word) := by simpa using c0
            have c1' : wr.cell? ⟨g, (k - 1) * 3 + 1, none⟩ = some (.int .i64 a.path) := by simpa using c1
            have c2' : wr.cell? ⟨g, (k - 1) * 3 + 2, none⟩ = some (.int .i64 a.own_) := by simpa using c2
            have x_c0 := ext_cell c0'
            have x_c1 := ext_cell c1'
            have x_c2 := ext_cell c2'
            have HAA := hid ha
            clear ha c0 c1 c2
            have HST : Hid (posE ltF ⟨wd, r, co⟩ XS k = if ltF ⟨wd, r, co⟩ a = true then posE ltF ⟨wd, r, co⟩ XS (k - 1) else k) := hid (by
              obtain ⟨k', rfl⟩ : ∃ k', k = k' + 1 := ⟨k - 1, by omega⟩
              have := HAA.out
              rw [Nat.add_sub_cancel] at this ⊢
              rw [posE, this])
            have HCM := fun w' => l16Before_any ⟨wd, r, co⟩ a w'
            cases hl : ltF ⟨wd, r, co⟩ a
            · rw [hl] at HST HCM
              have HPOS : Hid (posE ltF ⟨wd, r, co⟩ XS XS.length = k) := hid (by rw [HPP.out, HST.out]; rfl)
              clear hl
              go_wp2
              refine wp_region_ext (by kernel_rfl) (by kernel_rfl) ?_
              repeat (go_big_quiet_step ((go_at_call 56; exact ret_ext (HCM _))))
              refine wpQuiet_nil ?_
              intro _ hw'
              obtain ⟨nq, hw''⟩ := hw'
              subst hw''
              have HB := hb.trans ((ext_below _ nq).mono hb.size)
              have F0 := ext_cell f0 nq
              have F1 := ext_cell f1 nq
              have F2 := ext_cell f2 nq
              have hfz := cell_lt F0
              generalize ext wr nq = WN at HB F0 F1 F2 hfz ⊢
              obtain ⟨B, hB⟩ : ∃ B, B = WN.heap.size := ⟨_, rfl⟩
              have hgB : g < B := by rw [hB]; exact Nat.lt_of_lt_of_le hgl HB.size
              have hccN : Cells eFound WN g 0 XS := hcc.below HB hgl
              have hH5B : w5.heap.size ≤ B := by rw [hB]; exact HB.size
              have hHB : H ≤ B := Nat.le_trans hH5 hH5B
              have hfB : pf < B := by rw [hB]; exact hfz
              obtain ⟨L1, hL1⟩ : ∃ L1, L1 = XS.take k := ⟨_, rfl⟩
              have hl1 : k = L1.length := by rw [hL1, List.length_take]; omega
              have hin : Hid (∀ w', Below B WN w' → ∀ j u, (eFound.flat L1)[j]? = some u → w'.cell? ((⟨g, 0, none⟩ : Addr).add j) = some u) := by
                intro w' hb' j u hu
                rw [Addr.add_lit]
                refine flat_cells (hccN.below hb' hgB) j u ?_
                have hsp : eFound.flat XS = eFound.flat L1 ++ eFound.flat (XS.drop k) := by rw [hL1, ← eFound.flat_append, List.take_append_drop]
                rw [hsp, List.getElem?_append_left (List.getElem?_eq_some_iff.1 hu).1]; exact hu
              obtain ⟨A, hA, _, hAc⟩ := sub_addr hccN rfl hncx hk
              have hA' : (if cap = k then some (⟨g, 0, none⟩ : Addr) else some ⟨g, k * 3, none⟩) = some A := hA
              have HAC := hid hAc
              have HINS : Hid (insE ltF XS ⟨wd, r, co⟩ = L1 ++ ⟨wd, r, co⟩ :: XS.drop k) := hid (by unfold insE; rw [HPOS.out, hL1])
              clear hA hAc hb f0 f1 f2
              have HL1 := hid hL1
              have Hl1 := hid hl1
              clear hL1 hl1
              have hl2 : XS.length - k = (XS.drop k).length := by rw [List.length_drop]
              have Hl2 := hid hl2
              clear hl2
              have hkc : k ≤ cap := by omega
              have hbB : Below B WN (WN.alloc (.cells #[] 53)) := by rw [hB]; exact below_alloc _ _
              have HBQ := hid hB
              clear hB
              go_wp2_with (at_builtin; refine wpList_appM rfl _ _ 56 rfl B 53 _ 32 infFound Tryz.underlying56 rfl WN.heap.size 0 0 [] rfl (Own.empty _ _ (by rw [HBQ.out]; exact Nat.le_refl _)) ⟨g, 0, none⟩ k cap L1 rfl Hl1.out (hin.out _ hbB) k (by have := Hl1.out; simp; omega) (by unfold maxLen; omega) (by omega) (by rw [HBQ.out]; simp) ?_)
              intro g1 cap1 w1 ho1 hb1 hc1
              have HB1 : Below B WN w1 := hbB.trans hb1
              have z1 : B ≤ w1.heap.size := by rw [HBQ.out]; exact HB1.size
              have G0 := (HB1.cell (p := ⟨pf, 0, none⟩) hfB).trans F0
              have G1 := (HB1.cell (p := ⟨pf, 1, none⟩) hfB).trans F1
              have G2 := (HB1.cell (p := ⟨pf, 2, none⟩) hfB).trans F2
              go_wp2_with (at_builtin; refine wpList_appM rfl _ _ 56 rfl B 53 _ 32 infFound Tryz.underlying56 rfl g1 _ cap1 L1 rfl (ho1.alloc _) ⟨w1.heap.size, 0, none⟩ 1 1 [⟨wd, r, co⟩] rfl rfl (cells_oneF ⟨wd, r, co⟩ w1) (k + 1) (by have := Hl1.out; simp; omega) (by unfold maxLen; omega) (by omega) (by simp; omega) ?_)
              intro g2 cap2 w2 ho2 hb2 hc2
              have HB2 : Below B WN w2 := (HB1.alloc z1 _).trans hb2
              have z2 : B ≤ w2.heap.size := by rw [HBQ.out]; exact HB2.size
              go_wp2_with (at_builtin; refine wpList_appM rfl _ _ 56 rfl B 53 _ 32 infFound Tryz.underlying56 rfl g2 _ cap2 (L1 ++ [⟨wd, r, co⟩]) rfl ho2 A (XS.length - k) (cap - k) (XS.drop k) rfl Hl2.out (HAC.out w2 (fun o => HB2.cell (p := ⟨g, o, none⟩) hgB)) (XS.length + 1) (by have := Hl1.out; have := Hl2.out; simp only [List.length_append, List.length_cons, List.length_nil]; omega) (by unfold maxLen; omega) (by omega) (by omega) ?_)
              intro g3 cap3 w3 ho3 hb3 hc3
              have HFIN : Hid (findAll ((m : Int), x) (y.take (j + 1)) = L1 ++ ⟨wd, r, co⟩ :: XS.drop k) := hid (by rw [HT.out, HINS.out])
              have HLEN : Hid ((findAll ((m : Int), x) (y.take (j + 1))).length = XS.length + 1) := hid (by rw [HT.out, insE_len])
              have HBE : Below H w w3 := hbw5.trans ((HB.mono hH5).trans ((HB2.trans hb3).mono hHB))
              go_wp2
              go_roundw
              case rel => exact ⟨j + 1, g3, cap3, by omega, by go_num, by rw [HLEN.out], by rw [HLEN.out, HFIN.out]; exact ho3.mono hHB, HBE⟩
              case measure => simp [intOf]; omega
            · rw [hl] at HST HCM
              clear hl
              go_wp2
              refine wp_region_ext (by kernel_rfl) (by kernel_rfl) ?_
              repeat (go_big_quiet_step ((go_at_call 56; exact ret_ext (HCM _))))
              refine wpQuiet_nil ?_
              intro _ hw'
              obtain ⟨nq, hw''⟩ := hw'
              subst hw''
              go_wp2
              go_roundw
              case rel => exact ⟨k - 1, by omega, by go_num, hb.trans ((ext_below _ _).mono hb.size), x_f0 nq, x_f1 nq, x_f2 nq, by rw [HPP.out, HST.out]; rfl⟩
              case measure => simp [intOf]; omega
          · have hki : (k : Int) ≤ 0 := by omega
            have HPOS : Hid (posE ltF ⟨wd, r, co⟩ XS XS.length = k) := hid (by rw [HPP.out, show k = 0 by omega]; rfl)
            have hdk : decide ((0 : Int) < (k : Int)) = false := by simp; omega
            go_wp2
            refine wp_region_ext (by kernel_rfl) (by kernel_rfl) ?_
            repeat (go_big_quiet_step (fail))
            refine wpQuiet_nil ?_
            intro _ hw'
            obtain ⟨nq, hw''⟩ := hw'
            subst hw''
            have HB := hb.trans ((ext_below _ nq).mono hb.size)
            have F0 := ext_cell f0 nq
            have F1 := ext_cell f1 nq
            have F2 := ext_cell f2 nq
            have hfz := cell_lt F0
            generalize ext wr nq = WN at HB F0 F1 F2 hfz ⊢
            obtain ⟨B, hB⟩ : ∃ B, B = WN.heap.size := ⟨_, rfl⟩
            have hgB : g < B := by rw [hB]; exact Nat.lt_of_lt_of_le hgl HB.size
            have hccN : Cells eFound WN g 0 XS := hcc.below HB hgl
            have hH5B : w5.heap.size ≤ B := by rw [hB]; exact HB.size
            have hHB : H ≤ B := Nat.le_trans hH5 hH5B
            have hfB : pf < B := by rw [hB]; exact hfz
            obtain ⟨L1, hL1⟩ : ∃ L1, L1 = XS.take k := ⟨_, rfl⟩
            have hl1 : k = L1.length := by rw [hL1, List.length_take]; omega
            have hin : Hid (∀ w', Below B WN w' → ∀ j u, (eFound.flat L1)[j]? = some u → w'.cell? ((⟨g, 0, none⟩ : Addr).add j) = some u) := by
              intro w' hb' j u hu
              rw [Addr.add_lit]
              refine flat_cells (hccN.below hb' hgB) j u ?_
              have hsp : eFound.flat XS = eFound.flat L1 ++ eFound.flat (XS.drop k) := by rw [hL1, ← eFound.flat_append, List.take_append_drop]
              rw [hsp, List.getElem?_append_left (List.getElem?_eq_some_iff.1 hu).1]; exact hu
            obtain ⟨A, hA, _, hAc⟩ := sub_addr hccN rfl hncx hk
            have hA' : (if cap = k then some (⟨g, 0, none⟩ : Addr) else some ⟨g, k * 3, none⟩) = some A := hA
            have HAC := hid hAc
            have HINS : Hid (insE ltF XS ⟨wd, r, co⟩ = L1 ++ ⟨wd, r, co⟩ :: XS.drop k) := hid (by unfold insE; rw [HPOS.out, hL1])
            clear hA hAc hb f0 f1 f2
            have HL1 := hid hL1
            have Hl1 := hid hl1
            clear hL1 hl1
            have hl2 : XS.length - k = (XS.drop k).length := by rw [List.length_drop]
            have Hl2 := hid hl2
            clear hl2
            have hkc : k ≤ cap := by omega
            have hbB : Below B WN (WN.alloc (.cells #[] 53)) := by rw [hB]; exact below_alloc _ _
            have HBQ := hid hB
            clear hB
            go_wp2_with (at_builtin; refine wpList_appM rfl _ _ 56 rfl B 53 _ 32 infFound Tryz.underlying56 rfl WN.heap.size 0 0 [] rfl (Own.empty _ _ (by rw [HBQ.out]; exact Nat.le_refl _)) ⟨g, 0, none⟩ k cap L1 rfl Hl1.out (hin.out _ hbB) k (by have := Hl1.out; simp; omega) (by unfold maxLen; omega) (by omega) (by rw [HBQ.out]; simp) ?_)
            intro g1 cap1 w1 ho1 hb1 hc1
            have HB1 : Below B WN w1 := hbB.trans hb1
            have z1 : B ≤ w1.heap.size := by rw [HBQ.out]; exact HB1.size
            have G0 := (HB1.cell (p := ⟨pf, 0, none⟩) hfB).trans F0
            have G1 := (HB1.cell (p := ⟨pf, 1, none⟩) hfB).trans F1
            have G2 := (HB1.cell (p := ⟨pf, 2, none⟩) hfB).trans F2
            go_wp2_with (at_builtin; refine wpList_appM rfl _ _ 56 rfl B 53 _ 32 infFound Tryz.underlying56 rfl g1 _ cap1 L1 rfl (ho1.alloc _) ⟨w1.heap.size, 0, none⟩ 1 1 [⟨wd, r, co⟩] rfl rfl (cells_oneF ⟨wd, r, co⟩ w1) (k + 1) (by have := Hl1.out; simp; omega) (by unfold maxLen; omega) (by omega) (by simp; omega) ?_)
            intro g2 cap2 w2 ho2 hb2 hc2
            have HB2 : Below B WN w2 := (HB1.alloc z1 _).trans hb2
            have z2 : B ≤ w2.heap.size := by rw [HBQ.out]; exact HB2.size
            go_wp2_with (at_builtin; refine wpList_appM rfl _ _ 56 rfl B 53 _ 32 infFound Tryz.underlying56 rfl g2 _ cap2 (L1 ++ [⟨wd, r, co⟩]) rfl ho2 A (XS.length - k) (cap - k) (XS.drop k) rfl Hl2.out (HAC.out w2 (fun o => HB2.cell (p := ⟨g, o, none⟩) hgB)) (XS.length + 1) (by have := Hl1.out; have := Hl2.out; simp only [List.length_append, List.length_cons, List.length_nil]; omega) (by unfold maxLen; omega) (by omega) (by omega) ?_)
            intro g3 cap3 w3 ho3 hb3 hc3
            have HFIN : Hid (findAll ((m : Int), x) (y.take (j + 1)) = L1 ++ ⟨wd, r, co⟩ :: XS.drop k) := hid (by rw [HT.out, HINS.out])
            have HLEN : Hid ((findAll ((m : Int), x) (y.take (j + 1))).length = XS.length + 1) := hid (by rw [HT.out, insE_len])
            have HBE : Below H w w3 := hbw5.trans ((HB.mono hH5).trans ((HB2.trans hb3).mono hHB))
            go_wp2
            go_roundw
            case rel => exact ⟨j + 1, g3, cap3, by omega, by go_num, by rw [HLEN.out], by rw [HLEN.out, HFIN.out]; exact ho3.mono hHB, HBE⟩
            case measure => simp [intOf]; omega
    · obtain rfl : j = y.length := by omega
      rw [List.take_length] at HXS
      go_wp2
      go_ret
      exact ⟨_, rfl, by rw [← HXS.out, ← HH.out]; exact ho, by rw [← HH.out]; exact hb⟩
end Go.Proofs.YtnhmailnnggmjabGreat
