/- The reference's insertion of a reading into the first ones of a list. -/
import Derived.Test.YtcikndmmbfompaaGreatDoorRdSort
import Derived.Test.YtcikndmmbfompaaGreatDoorFwCmp
import Derived.Test.YtcikndmmbfompaaGreatDoorSubAddr
namespace Go.Proofs.YtcikndmmbfompaaGreatDoor
open Go.RowKit Go.Sort
attribute [local go_sem ↓] Go.wp_at_zero Go.wp_at_succ

theorem cells_oneR (e : DReading) (w : World) : ∀ j u, (eReading.flat [e])[j]? = some u → (w.alloc (.cells #[.string e.text, .int .i64 e.cost] 74)).cell? ((⟨w.heap.size, 0, none⟩ : Addr).add j) = some u := by
  intro j u hu
  match j, hu with
  | 0, hu => cases hu; simp [Addr.add]
  | 1, hu => cases hu; simp [Addr.add]
  | j + 2, hu => simp [Enc.flat, eReading] at hu
theorem own_cellsR {α : Type} {E : Enc α} {e : TypeId} {B g n cap : Nat} {w : World} {X : List α} (h : Own E e B w (.slice (some ⟨g, 0, none⟩) n cap) X) (hn : n = X.length) : Cells E w g 0 X ∧ X.length ≤ cap := by
  obtain ⟨b, off, ao, c, hv, hl, _, hao, hc⟩ := h.arr
  simp only [Value.slice.injEq] at hv
  obtain ⟨h1, _, rfl⟩ := hv
  refine ⟨?_, hl⟩
  cases X with
  | nil => intro k x hx; simp at hx
  | cons a t =>
    have := (hao (by simp)).1
    rw [← h1] at this
    cases this
    exact hc
theorem insK_len (m : Nat) (L : List DReading) (h : DReading) : (insK m L h).length ≤ L.length + 1 := by
  unfold insK
  split
  · omega
  · rw [List.length_take, insE_len]
    have := List.length_filter_le (fun g => !smR g h) L
    omega
theorem arr_take {α : Type} {E : Enc α} {lo hi : Nat} {w : World} {ao : Option Addr} {n m c : Nat} {xs : List α} (h : ArrIn E lo hi w (.slice ao n c) xs) (hm : m ≤ n) : ArrIn E lo hi w (.slice ao m c) (xs.take m) := by
  obtain ⟨b, off, ao', cap, hv, h1, h2, h3, h4⟩ := h
  simp only [Value.slice.injEq] at hv
  obtain ⟨rfl, rfl, rfl⟩ := hv
  have hl : (xs.take m).length = m := by rw [List.length_take]; omega
  refine ⟨b, off, ao, c, by rw [hl], by omega, h2, fun h0 => h3 (by omega), fun k x hx j u hu => ?_⟩
  have hk : k < m := by have := (List.getElem?_eq_some_iff.1 hx).1; omega
  rw [List.getElem?_take_of_lt hk] at hx
  exact h4 k x hx j u hu
theorem beforeR_is {a b : DReading} {c : Bool} (h : ltR a b = c) (w : World) : Calls Tryz.prog 56 #[.agg #[.string a.text, .int .i64 a.cost], .agg #[.string b.text, .int .i64 b.cost]] w (Ret (.bool c) w) := by
  subst h; rw [ltR_bef]; exact l15Before_any _ _ _ _ _
set_option maxHeartbeats 8000000 in
set_option maxRecDepth 100000 in
theorem l15Insert_any (v : Value) (L : List DReading) (h : DReading) (m : Nat) (w : World) {lo : Nat} (hL : ArrIn eReading lo w.heap.size w v L) (hlo : lo ≤ w.heap.size) (hl : L.length ≤ 100000) (hm : m ≤ 100000) :
    Calls Tryz.prog 55 #[v, .agg #[.string h.text, .int .i64 h.cost], .int .i64 m] w fun e w' => ∃ u, e = .returned u ∧ ArrIn eReading lo w'.heap.size w' u (insK m L h) ∧ Below w.heap.size w w' := by
  have hL0 := hL
  replace hL := ArrIn.arr hL
  obtain ⟨b, off, ao, capL, rfl, hnc, hcm, hao, hc⟩ := hL
  unfold maxLen at hcm
  obtain ⟨la, co⟩ := h
  obtain ⟨p0, hp0⟩ : ∃ p, p = w.heap.size := ⟨_, rfl⟩
  obtain ⟨W, hW⟩ : ∃ W, W = w.alloc (.cells #[.string la, .int .i64 co] 74) := ⟨_, rfl⟩
  obtain ⟨B, hB⟩ : ∃ B, B = W.heap.size := ⟨_, rfl⟩
  have hbW : Below w.heap.size w W := by rw [hW]; exact below_alloc _ _
  have e0 : W.cell? ⟨p0, 0, none⟩ = some (.string la) := by rw [hW, hp0]; simp
  have e1 : W.cell? ⟨p0, 1, none⟩ = some (.int .i64 co) := by rw [hW, hp0]; simp
  have hpB : p0 < B := by rw [hB]; exact cell_lt e0
  have hwB : w.heap.size ≤ B := by rw [hB]; exact hbW.size
  have hbb : 0 < L.length → b < B := fun hl => Nat.lt_of_lt_of_le (hao hl).2 hwB
  have hcW : 0 < L.length → Cells eReading W b off L := fun hl => hc.below hbW (hao hl).2
  have HP := hid hp0
  have HW := hid hW
  have HB := hid hB
  have HB1 := hid (show B = w.heap.size + 1 by rw [hB, hW]; simp)
  clear hp0 hW hB hc
  go_enter Tryz.func55, Tryz.ntmps55
  go_wp2_with fail
  rw [← HW.out, ← HB1.out, ← HP.out]
  go_loopw [7, 8] (fun l i wr => ∃ j g cap : Nat, j ≤ L.length ∧ i = .int .i64 j ∧ l = .slice (some ⟨g, 0, none⟩) ((L.take j).filter fun x => !smR x ⟨la, co⟩).length cap ∧ Own eReading 74 B wr (.slice (some ⟨g, 0, none⟩) ((L.take j).filter fun x => !smR x ⟨la, co⟩).length cap) ((L.take j).filter fun x => !smR x ⟨la, co⟩) ∧ (L.take j).any (fun x => smR x ⟨la, co⟩ && decide (x.cost ≤ co)) = false ∧ Below B W wr) (fun _ i _ => L.length - (intOf i).toNat)
  case atStart => exact ⟨0, B, 0, Nat.zero_le _, rfl, by simp, by simpa using (by rw [HB.out]; exact Own.empty (E := eReading) 74 W (Nat.le_refl _) : Own eReading 74 B (W.alloc (.cells #[] 74)) (.slice (some ⟨B, 0, none⟩) 0 0) []), by simp, by rw [HB.out]; exact below_alloc _ _⟩
  case round =>
    obtain ⟨j, g, cap, hj, rfl, rfl, ho, hno, hb⟩ := hrel
    have hXl : ((L.take j).filter fun x => !smR x ⟨la, co⟩).length ≤ 100000 := Nat.le_trans (List.length_filter_le _ _) (by rw [List.length_take]; omega)
    obtain ⟨XS, hXS⟩ : ∃ XS, XS = (L.take j).filter fun x => !smR x ⟨la, co⟩ := ⟨_, rfl⟩
    rw [← hXS] at ho hXl ⊢
    have HXS := hid hXS
    have HNO := hid hno
    clear hXS hno
    have t0 := below_cell hb hpB e0
    have t1 := below_cell hb hpB e1
    have hBr : B ≤ wr.heap.size := by rw [HB.out]; exact hb.size
    have hbw : Below w.heap.size w wr := hbW.trans (hb.mono hwB)
    by_cases hlt : j < L.length
    · obtain ⟨hao', hbwl⟩ := hao (by omega)
      subst hao'
      obtain ⟨e, he⟩ : ∃ e, L[j]? = some e := ⟨_, List.getElem?_eq_getElem hlt⟩
      have hli : (j : Int) < (L.length : Int) := by omega
      obtain ⟨c0, c1⟩ := eReading_cells ((hcW (by omega)).below hb (hbb (by omega))) he
      obtain ⟨lb, cb⟩ := e
      simp only at c0 c1
      have HMEM := hid (List.mem_of_getElem? he)
      have HT := hid (show L.take (j + 1) = L.take j ++ [⟨lb, cb⟩] by rw [List.take_add_one, he]; rfl)
      clear he
      cases hs : eqS lb la
      · have hq : (lb.toList == la.toList) = false := hs
        have hsm : smR ⟨lb, cb⟩ ⟨la, co⟩ = false := hs
        have HF : Hid ((L.take (j + 1)).filter (fun x => !smR x ⟨la, co⟩) = XS ++ [⟨lb, cb⟩]) := hid (by rw [HT.out, List.filter_append, ← HXS.out]; simp [hsm])
        have HN2 : Hid ((L.take (j + 1)).any (fun x => smR x ⟨la, co⟩ && decide (x.cost ≤ co)) = false) := hid (by rw [HT.out, List.any_append, HNO.out]; simp [hsm])
        clear hs hsm
        go_wp2
        go_big_quiet (fail)
        obtain ⟨w2, hw2⟩ : ∃ w2, w2 = wr.drewN nq := ⟨_, rfl⟩
        replace c0 := cell_eqN hw2 c0
        replace c1 := cell_eqN hw2 c1
        have ho2 : Own eReading 74 B w2 (.slice (some ⟨g, 0, none⟩) XS.length cap) XS := by rw [hw2]; exact ho
        have hb2 : Below B W w2 := by rw [hw2]; exact below_drewN hb _
        have hB2 : B ≤ w2.heap.size := by rw [HB.out]; exact hb2.size
        rw [← hw2]
        clear hw2 ho t0 t1
        go_wp2_with (at_builtin; refine wpList_appM rfl _ _ 69 rfl B 74 _ 24 infReading Tryz.underlying69 rfl g _ cap XS rfl (ho2.alloc _) ⟨w2.heap.size, 0, none⟩ 1 1 [⟨lb, cb⟩] rfl rfl (cells_oneR ⟨lb, cb⟩ w2) (XS.length + 1) (by simp) (by unfold maxLen; omega) (by omega) (by simp; omega) ?_)
        intro g2 cap2 w3 ho3 hb3 hc3
        go_wp2
        go_roundw
        case rel => exact ⟨j + 1, g2, cap2, by omega, by go_num, by rw [HF.out]; simp, by rw [HF.out]; simpa using ho3, HN2.out, (hb2.alloc hB2 _).trans hb3⟩
        case measure => simp [intOf]; omega
      · have hq : (lb.toList == la.toList) = true := hs
        have hsm : smR ⟨lb, cb⟩ ⟨la, co⟩ = true := hs
        by_cases hle : cb ≤ co
        · have HR : Hid (insK m L ⟨la, co⟩ = L) := hid (by
            unfold insK
            rw [if_pos (List.any_eq_true.2 ⟨_, HMEM.out, by simp [hsm, hle]⟩)])
          clear hs hsm
          go_wp2
          go_big_quiet (fail)
          obtain ⟨w2, hw2⟩ : ∃ w2, w2 = wr.drewN nq := ⟨_, rfl⟩
          replace c1 := cell_eqN hw2 c1
          replace t1 := cell_eqN hw2 t1
          have hb2 : Below w.heap.size w w2 := by rw [hw2]; exact below_drewN hbw _
          rw [← hw2]
          clear hw2
          go_wp2
          go_big_quiet (fail)
          go_wp2
          go_ret
          exact ⟨_, rfl, by rw [HR.out]; exact (Rep.flat eReading 74).at_now hL0 (below_drewN hb2 _), below_drewN hb2 _⟩
        · have hdl : decide (cb ≤ co) = false := by simp; omega
          have HF : Hid ((L.take (j + 1)).filter (fun x => !smR x ⟨la, co⟩) = XS) := hid (by rw [HT.out, List.filter_append, ← HXS.out]; simp [hsm])
          have HN2 : Hid ((L.take (j + 1)).any (fun x => smR x ⟨la, co⟩ && decide (x.cost ≤ co)) = false) := hid (by rw [HT.out, List.any_append, HNO.out]; simp [hdl])
          clear hs hsm hle
          go_wp2
          go_big_quiet (fail)
          obtain ⟨w2, hw2⟩ : ∃ w2, w2 = wr.drewN nq := ⟨_, rfl⟩
          replace c1 := cell_eqN hw2 c1
          replace t1 := cell_eqN hw2 t1
          have ho2 : Own eReading 74 B w2 (.slice (some ⟨g, 0, none⟩) XS.length cap) XS := by rw [hw2]; exact ho
          have hb2 : Below B W w2 := by rw [hw2]; exact below_drewN hb _
          rw [← hw2]
          clear hw2
          go_wp2
          go_big_quiet (fail)
          go_wp2
          go_roundw
          case rel => exact ⟨j + 1, g, cap, by omega, by go_num, by rw [HF.out], by rw [HF.out]; exact ho2, HN2.out, below_drewN hb2 _⟩
          case measure => simp [intOf]; omega
    · obtain rfl : j = L.length := by omega
      rw [List.take_length] at HXS HNO
      have HEND : Hid (insK m L ⟨la, co⟩ = (insE ltR XS ⟨la, co⟩).take m) := hid (by unfold insK; rw [if_neg (by rw [HNO.out]; exact Bool.false_ne_true), ← HXS.out])
      obtain ⟨hcc, hncx⟩ := own_cellsR ho rfl
      obtain ⟨w5, rfl⟩ : ∃ w5, w5 = wr := ⟨wr, rfl⟩
      have hgl := ho.lt.2
      have hB5 : B ≤ w5.heap.size := hBr
      have hbw5 : Below w.heap.size w w5 := hbw
      have f0 := t0
      have f1 := t1
      clear t0 t1 ho
      go_wp2
      go_loopw [9] (fun i wz => ∃ k : Nat, k ≤ XS.length ∧ i = .int .i64 k ∧ Below w5.heap.size w5 wz ∧ wz.cell? ⟨p0, 0, none⟩ = some (.string la) ∧ wz.cell? ⟨p0, 1, none⟩ = some (.int .i64 co) ∧ posE ltR ⟨la, co⟩ XS XS.length = posE ltR ⟨la, co⟩ XS k) (fun i _ => (intOf i).toNat)
      case atStart => exact ⟨XS.length, Nat.le_refl _, rfl, Below.refl _ _, f0, f1, rfl⟩
      case round =>
        clear f0 f1
        obtain ⟨k, hk, rfl, hbz, f0, f1, hpos⟩ := hrel
        have HPP := hid hpos
        clear hpos
        have x_f0 := ext_cell f0
        have x_f1 := ext_cell f1
        by_cases hk0 : 0 < k
        · have hki : (0 : Int) < (k : Int) := by omega
          have hk1 : (0 : Int) ≤ (k : Int) - 1 := by omega
          have hk2 : (k : Int) - 1 < (XS.length : Int) := by omega
          have et : ((k : Int) - 1).toNat = k - 1 := by omega
          obtain ⟨a, ha⟩ : ∃ a, XS[k - 1]? = some a := ⟨_, List.getElem?_eq_getElem (by omega)⟩
          obtain ⟨c0, c1⟩ := eReading_cells (hcc.below hbz hgl) ha
          have c0' : wr.cell? ⟨g, (k - 1) * 2, none⟩ = some (.string a.text) := by simpa using c0
          have c1' : wr.cell? ⟨g, (k - 1) * 2 + 1, none⟩ = some (.int .i64 a.cost) := by simpa using c1
          have x_c0 := ext_cell c0'
          have x_c1 := ext_cell c1'
          have HAA := hid ha
          clear ha c0 c1
          have HST : Hid (posE ltR ⟨la, co⟩ XS k = if ltR ⟨la, co⟩ a = true then posE ltR ⟨la, co⟩ XS (k - 1) else k) := hid (by
            obtain ⟨k', rfl⟩ : ∃ k', k = k' + 1 := ⟨k - 1, by omega⟩
            have := HAA.out
            rw [Nat.add_sub_cancel] at this ⊢
            rw [posE, this])
          cases hl : ltR ⟨la, co⟩ a
          · rw [hl] at HST
            have HCM := fun w' => beforeR_is (a := ⟨la, co⟩) (b := a) (c := false) hl w'
            have HPOS : Hid (posE ltR ⟨la, co⟩ XS XS.length = k) := hid (by rw [HPP.out, HST.out]; rfl)
            clear hl
            go_wp2
            refine wp_region_ext (by kernel_rfl) (by kernel_rfl) ?_
            repeat (go_big_quiet_step ((go_at_call 56; exact ret_ext (HCM _))))
            refine wpQuiet_nil ?_
            intro _ hw'
            obtain ⟨nq, hw''⟩ := hw'
            subst hw''
            have HB := hbz.trans ((ext_below _ nq).mono hbz.size)
            have F0 := ext_cell f0 nq
            have F1 := ext_cell f1 nq
            have hfz := cell_lt F0
            generalize ext wr nq = WN at HB F0 F1 hfz ⊢
            obtain ⟨C, hC⟩ : ∃ B, B = WN.heap.size := ⟨_, rfl⟩
            have hgB : g < C := by rw [hC]; exact Nat.lt_of_lt_of_le hgl HB.size
            have hccN : Cells eReading WN g 0 XS := hcc.below HB hgl
            have hH5B : w5.heap.size ≤ C := by rw [hC]; exact HB.size
            have hHB : B ≤ C := Nat.le_trans hB5 hH5B
            have hfB : p0 < C := by rw [hC]; exact hfz
            obtain ⟨L1, hL1⟩ : ∃ L1, L1 = XS.take k := ⟨_, rfl⟩
            have hl1 : k = L1.length := by rw [hL1, List.length_take]; omega
            have hin : Hid (∀ w', Below C WN w' → ∀ j u, (eReading.flat L1)[j]? = some u → w'.cell? ((⟨g, 0, none⟩ : Addr).add j) = some u) := by
              intro w' hb' j u hu
              rw [Addr.add_lit]
              refine flat_cells (hccN.below hb' hgB) j u ?_
              have hsp : eReading.flat XS = eReading.flat L1 ++ eReading.flat (XS.drop k) := by rw [hL1, ← eReading.flat_append, List.take_append_drop]
              rw [hsp, List.getElem?_append_left (List.getElem?_eq_some_iff.1 hu).1]; exact hu
            obtain ⟨A, hA, _, hAc⟩ := sub_addr hccN rfl hncx hk
            have hA' : (if cap = k then some (⟨g, 0, none⟩ : Addr) else some ⟨g, k * 2, none⟩) = some A := hA
            have HAC := hid hAc
            have HINS : Hid (insE ltR XS ⟨la, co⟩ = L1 ++ ⟨la, co⟩ :: XS.drop k) := hid (by unfold insE; rw [HPOS.out, hL1])
            clear hA hAc hbz f0 f1
            have HL1 := hid hL1
            have Hl1 := hid hl1
            clear hL1 hl1
            have hl2 : XS.length - k = (XS.drop k).length := by rw [List.length_drop]
            have Hl2 := hid hl2
            clear hl2
            have hkc : k ≤ cap := by omega
            have hbB : Below C WN (WN.alloc (.cells #[] 74)) := by rw [hC]; exact below_alloc _ _
            have HBQ := hid hC
            clear hC
            go_wp2_with (at_builtin; refine wpList_appM rfl _ _ 69 rfl C 74 _ 24 infReading Tryz.underlying69 rfl WN.heap.size 0 0 [] rfl (Own.empty _ _ (by rw [HBQ.out]; exact Nat.le_refl _)) ⟨g, 0, none⟩ k cap L1 rfl Hl1.out (hin.out _ hbB) k (by have := Hl1.out; simp; omega) (by unfold maxLen; omega) (by omega) (by rw [HBQ.out]; simp) ?_)
            intro g1 cap1 w1 ho1 hb1 hc1
            have HB1 : Below C WN w1 := hbB.trans hb1
            have z1 : C ≤ w1.heap.size := by rw [HBQ.out]; exact HB1.size
            have G0 := (HB1.cell (p := ⟨p0, 0, none⟩) hfB).trans F0
            have G1 := (HB1.cell (p := ⟨p0, 1, none⟩) hfB).trans F1
            go_wp2_with (at_builtin; refine wpList_appM rfl _ _ 69 rfl C 74 _ 24 infReading Tryz.underlying69 rfl g1 _ cap1 L1 rfl (ho1.alloc _) ⟨w1.heap.size, 0, none⟩ 1 1 [⟨la, co⟩] rfl rfl (cells_oneR ⟨la, co⟩ w1) (k + 1) (by have := Hl1.out; simp; omega) (by unfold maxLen; omega) (by omega) (by simp; omega) ?_)
            intro g2 cap2 w2 ho2 hb2 hc2
            have HB2 : Below C WN w2 := (HB1.alloc z1 _).trans hb2
            have z2 : C ≤ w2.heap.size := by rw [HBQ.out]; exact HB2.size
            go_wp2_with (at_builtin; refine wpList_appM rfl _ _ 69 rfl C 74 _ 24 infReading Tryz.underlying69 rfl g2 _ cap2 (L1 ++ [⟨la, co⟩]) rfl ho2 A (XS.length - k) (cap - k) (XS.drop k) rfl Hl2.out (HAC.out w2 (fun o => HB2.cell (p := ⟨g, o, none⟩) hgB)) (XS.length + 1) (by have := Hl1.out; have := Hl2.out; simp only [List.length_append, List.length_cons, List.length_nil]; omega) (by unfold maxLen; omega) (by omega) (by omega) ?_)
            intro g3 cap3 w3 ho3 hb3 hc3
            have HLEN : Hid ((L1 ++ (⟨la, co⟩ : DReading) :: XS.drop k).length = XS.length + 1) := hid (by have := Hl1.out; have := Hl2.out; simp only [List.length_append, List.length_cons]; omega)
            have HBE : Below w.heap.size w w3 := hbw5.trans ((HB.mono (Nat.le_trans hwB hB5)).trans ((HB2.trans hb3).mono (Nat.le_trans hwB hHB)))
            have ho4 : Own eReading 74 C w3 (.slice (some ⟨g3, 0, none⟩) (XS.length + 1) cap3) (L1 ++ ⟨la, co⟩ :: XS.drop k) := by simpa using ho3
            have HFIN : Hid (insK m L ⟨la, co⟩ = (L1 ++ (⟨la, co⟩ : DReading) :: XS.drop k).take m) := hid (by rw [HEND.out, HINS.out])
            have HA4 := hid ((ho4.in_).arrIn.mono (lo' := lo) (by omega) (Nat.le_refl _))
            clear ho3 ho4
            by_cases hmx : m < XS.length + 1
            · have hmi : (m : Int) < (XS.length : Int) + 1 := by omega
              have hm0 : (0 : Int) ≤ (m : Int) := by omega
              have hmc : (m : Int) ≤ (cap3 : Int) := by omega
              go_wp2
              go_ret
              exact ⟨_, rfl, by rw [HFIN.out]; exact arr_take HA4.out (by omega), HBE⟩
            · have hmi : (XS.length : Int) + 1 ≤ (m : Int) := by omega
              have hmd : decide ((m : Int) < (XS.length : Int) + 1) = false := by simp; omega
              go_wp2
              go_ret
              exact ⟨_, rfl, by rw [HFIN.out, List.take_of_length_le (by rw [HLEN.out]; omega)]; exact HA4.out, HBE⟩
          · rw [hl] at HST
            have HCM := fun w' => beforeR_is (a := ⟨la, co⟩) (b := a) (c := true) hl w'
            clear hl
            go_wp2
            refine wp_region_ext (by kernel_rfl) (by kernel_rfl) ?_
            repeat (go_big_quiet_step ((go_at_call 56; exact ret_ext (HCM _))))
            refine wpQuiet_nil ?_
            intro _ hw'
            obtain ⟨nq, hw''⟩ := hw'
            subst hw''
            go_wp2
            go_roundw
            case rel => exact ⟨k - 1, by omega, by go_num, hbz.trans ((ext_below _ _).mono hbz.size), x_f0 nq, x_f1 nq, by rw [HPP.out, HST.out]; rfl⟩
            case measure => simp [intOf]; omega
        · have hki : (k : Int) ≤ 0 := by omega
          have HPOS : Hid (posE ltR ⟨la, co⟩ XS XS.length = k) := hid (by rw [HPP.out, show k = 0 by omega]; rfl)
          have hdk : decide ((0 : Int) < (k : Int)) = false := by simp; omega
          go_wp2
          refine wp_region_ext (by kernel_rfl) (by kernel_rfl) ?_
          repeat (go_big_quiet_step (fail))
          refine wpQuiet_nil ?_
          intro _ hw'
          obtain ⟨nq, hw''⟩ := hw'
          subst hw''
          have HB := hbz.trans ((ext_below _ nq).mono hbz.size)
          have F0 := ext_cell f0 nq
          have F1 := ext_cell f1 nq
          have hfz := cell_lt F0
          generalize ext wr nq = WN at HB F0 F1 hfz ⊢
          obtain ⟨C, hC⟩ : ∃ B, B = WN.heap.size := ⟨_, rfl⟩
          have hgB : g < C := by rw [hC]; exact Nat.lt_of_lt_of_le hgl HB.size
          have hccN : Cells eReading WN g 0 XS := hcc.below HB hgl
          have hH5B : w5.heap.size ≤ C := by rw [hC]; exact HB.size
          have hHB : B ≤ C := Nat.le_trans hB5 hH5B
          have hfB : p0 < C := by rw [hC]; exact hfz
          obtain ⟨L1, hL1⟩ : ∃ L1, L1 = XS.take k := ⟨_, rfl⟩
          have hl1 : k = L1.length := by rw [hL1, List.length_take]; omega
          have hin : Hid (∀ w', Below C WN w' → ∀ j u, (eReading.flat L1)[j]? = some u → w'.cell? ((⟨g, 0, none⟩ : Addr).add j) = some u) := by
            intro w' hb' j u hu
            rw [Addr.add_lit]
            refine flat_cells (hccN.below hb' hgB) j u ?_
            have hsp : eReading.flat XS = eReading.flat L1 ++ eReading.flat (XS.drop k) := by rw [hL1, ← eReading.flat_append, List.take_append_drop]
            rw [hsp, List.getElem?_append_left (List.getElem?_eq_some_iff.1 hu).1]; exact hu
          obtain ⟨A, hA, _, hAc⟩ := sub_addr hccN rfl hncx hk
          have hA' : (if cap = k then some (⟨g, 0, none⟩ : Addr) else some ⟨g, k * 2, none⟩) = some A := hA
          have HAC := hid hAc
          have HINS : Hid (insE ltR XS ⟨la, co⟩ = L1 ++ ⟨la, co⟩ :: XS.drop k) := hid (by unfold insE; rw [HPOS.out, hL1])
          clear hA hAc hbz f0 f1
          have HL1 := hid hL1
          have Hl1 := hid hl1
          clear hL1 hl1
          have hl2 : XS.length - k = (XS.drop k).length := by rw [List.length_drop]
          have Hl2 := hid hl2
          clear hl2
          have hkc : k ≤ cap := by omega
          have hbB : Below C WN (WN.alloc (.cells #[] 74)) := by rw [hC]; exact below_alloc _ _
          have HBQ := hid hC
          clear hC
          go_wp2_with (at_builtin; refine wpList_appM rfl _ _ 69 rfl C 74 _ 24 infReading Tryz.underlying69 rfl WN.heap.size 0 0 [] rfl (Own.empty _ _ (by rw [HBQ.out]; exact Nat.le_refl _)) ⟨g, 0, none⟩ k cap L1 rfl Hl1.out (hin.out _ hbB) k (by have := Hl1.out; simp; omega) (by unfold maxLen; omega) (by omega) (by rw [HBQ.out]; simp) ?_)
          intro g1 cap1 w1 ho1 hb1 hc1
          have HB1 : Below C WN w1 := hbB.trans hb1
          have z1 : C ≤ w1.heap.size := by rw [HBQ.out]; exact HB1.size
          have G0 := (HB1.cell (p := ⟨p0, 0, none⟩) hfB).trans F0
          have G1 := (HB1.cell (p := ⟨p0, 1, none⟩) hfB).trans F1
          go_wp2_with (at_builtin; refine wpList_appM rfl _ _ 69 rfl C 74 _ 24 infReading Tryz.underlying69 rfl g1 _ cap1 L1 rfl (ho1.alloc _) ⟨w1.heap.size, 0, none⟩ 1 1 [⟨la, co⟩] rfl rfl (cells_oneR ⟨la, co⟩ w1) (k + 1) (by have := Hl1.out; simp; omega) (by unfold maxLen; omega) (by omega) (by simp; omega) ?_)
          intro g2 cap2 w2 ho2 hb2 hc2
          have HB2 : Below C WN w2 := (HB1.alloc z1 _).trans hb2
          have z2 : C ≤ w2.heap.size := by rw [HBQ.out]; exact HB2.size
          go_wp2_with (at_builtin; refine wpList_appM rfl _ _ 69 rfl C 74 _ 24 infReading Tryz.underlying69 rfl g2 _ cap2 (L1 ++ [⟨la, co⟩]) rfl ho2 A (XS.length - k) (cap - k) (XS.drop k) rfl Hl2.out (HAC.out w2 (fun o => HB2.cell (p := ⟨g, o, none⟩) hgB)) (XS.length + 1) (by have := Hl1.out; have := Hl2.out; simp only [List.length_append, List.length_cons, List.length_nil]; omega) (by unfold maxLen; omega) (by omega) (by omega) ?_)
          intro g3 cap3 w3 ho3 hb3 hc3
          have HLEN : Hid ((L1 ++ (⟨la, co⟩ : DReading) :: XS.drop k).length = XS.length + 1) := hid (by have := Hl1.out; have := Hl2.out; simp only [List.length_append, List.length_cons]; omega)
          have HBE : Below w.heap.size w w3 := hbw5.trans ((HB.mono (Nat.le_trans hwB hB5)).trans ((HB2.trans hb3).mono (Nat.le_trans hwB hHB)))
          have ho4 : Own eReading 74 C w3 (.slice (some ⟨g3, 0, none⟩) (XS.length + 1) cap3) (L1 ++ ⟨la, co⟩ :: XS.drop k) := by simpa using ho3
          have HFIN : Hid (insK m L ⟨la, co⟩ = (L1 ++ (⟨la, co⟩ : DReading) :: XS.drop k).take m) := hid (by rw [HEND.out, HINS.out])
          have HA4 := hid ((ho4.in_).arrIn.mono (lo' := lo) (by omega) (Nat.le_refl _))
          clear ho3 ho4
          by_cases hmx : m < XS.length + 1
          · have hmi : (m : Int) < (XS.length : Int) + 1 := by omega
            have hm0 : (0 : Int) ≤ (m : Int) := by omega
            have hmc : (m : Int) ≤ (cap3 : Int) := by omega
            go_wp2
            go_ret
            exact ⟨_, rfl, by rw [HFIN.out]; exact arr_take HA4.out (by omega), HBE⟩
          · have hmi : (XS.length : Int) + 1 ≤ (m : Int) := by omega
            have hmd : decide ((m : Int) < (XS.length : Int) + 1) = false := by simp; omega
            go_wp2
            go_ret
            exact ⟨_, rfl, by rw [HFIN.out, List.take_of_length_le (by rw [HLEN.out]; omega)]; exact HA4.out, HBE⟩
end Go.Proofs.YtcikndmmbfompaaGreatDoor
