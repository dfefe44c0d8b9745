/- A perceptron read from its text: the reference's call. -/
import Derived.Test.YtbgjojnjbplblaaGreatDoorRtPcB
import Derived.Test.YtbgjojnjbplblaaGreatDoorRtNum
import Derived.Deep.Cut
namespace Go.Proofs.YtbgjojnjbplblaaGreatDoor
open Go.RowKit

theorem lineP_bad {p a : List UInt8} {t : List (List UInt8)} (hs : splL 32 p = a :: t) {b : List UInt8} (hb : b ∈ t) (hn : rdN b = none) : lineP p = none := by
  unfold lineP
  rw [hs]
  simp only
  rw [mapO_none hb hn]; rfl
theorem lineP_is {p a : List UInt8} {t : List (List UInt8)} (hs : splL 32 p = a :: t) {ns : List Int} (hn : mapO rdN t = some ns) : lineP p = some (⟨a.toArray⟩, ns) := by
  unfold lineP
  rw [hs]
  simp only
  rw [hn]; rfl
theorem rdN_of2 {l : List UInt8} (h : rdNb l = true) : rdN l = some (rdNv l) := by
  unfold rdNb at h
  unfold rdNv
  cases hx : rdN l with
  | none => rw [hx] at h; cases h
  | some n => rfl
theorem rdN_ff2 {l : List UInt8} (h : rdNb l = false) : rdN l = none := by
  unfold rdNb at h
  cases hx : rdN l with
  | none => rfl
  | some n => rw [hx] at h; cases h
set_option maxRecDepth 100000 in
set_option maxHeartbeats 8000000 in
theorem specReadPerceptron_any (s : ByteArray) (w : World) (hs : s.size ≤ 1048576) (_ : TabR w) : Calls Tryz.prog 10 #[.string s] w (RetNew rPerceptron (rdPc s) #[.bool (rdPcB s)] w) := by
  obtain ⟨W, hW⟩ : ∃ u, u = (w.alloc (.cells #[.slice none 0 0, .slice none 0 0] 33)) := ⟨_, rfl⟩
  have hbW : Below w.heap.size w W := by rw [hW]; exact belowA1 _ _
  have q1 : Box W (w.heap.size) #[.slice none 0 0, .slice none 0 0] 33 := by
    have hq := Box.new w #[.slice none 0 0, .slice none 0 0] 33
    rw [hW]
    exact hq
  obtain ⟨p1, hp1⟩ : ∃ p, p = w.heap.size := ⟨_, rfl⟩
  rw [← hp1] at q1
  have hge1 : w.heap.size ≤ p1 := by omega
  have hlW : w.heap.size ≤ W.heap.size := hbW.size
  have hlp1 : p1 < W.heap.size := q1.lt
  have HP1 := hid hp1
  have HW := hid hW
  clear hW hp1
  have finish := finPc s w
  have CS := l01Split_any s 10 W hs
  obtain ⟨hn1, hn2⟩ := splB_len 10 s
  obtain ⟨Q, hQ⟩ : ∃ Q, Q = splL 10 s.data.toList := ⟨_, rfl⟩
  have hQl : (ofS Q).length = Q.length := ofS_len Q
  rw [show splB 10 s = ofS Q by rw [hQ]; rfl] at CS hn1 hn2
  rw [hQl] at hn1 hn2
  obtain ⟨lastB, hlast⟩ : ∃ a, (ofS Q)[Q.length - 1]? = some a := ⟨_, List.getElem?_eq_getElem (by omega)⟩
  have hli1 : (0 : Int) ≤ (Q.length : Int) - 1 := by omega
  have hli2 : (Q.length : Int) - 1 < (Q.length : Int) := by omega
  have et : ((Q.length : Int) - 1).toNat = Q.length - 1 := by omega
  have HQ := hid hQ
  have HQL := hid hQl
  have HLA := hid hlast
  have hlq : Q.getLast? = some lastB.data.toList := by rw [List.getLast?_eq_getElem?]; exact ofS_at hlast
  have HLQ := hid hlq
  clear hQ hQl hlast hlq
  go_enter Tryz.func10, Tryz.ntmps10
  go_upto_region 1 with fail
  rw [← HP1.out, ← HW.out]
  go_wp2_with fail
  refine CS.mono ?_
  rintro en w1 ⟨v1, rfl, ho1, hb1⟩
  clear CS
  obtain ⟨g, cap, hv1, hg1, cl⟩ := own_str ho1 HLA.out
  rw [HQL.out] at hv1
  subst hv1
  have hbE1 := hbW.trans (hb1.mono hlW)
  have bx1 := q1.later hb1
  have hbs1 := hb1.size
  have hge0 := ho1.lt
  go_upto_region 3 with fail
  obtain ⟨q, hqq⟩ : ∃ q, q = w1.heap.size := ⟨_, rfl⟩
  obtain ⟨w4, hw4⟩ : ∃ u, u = w1.alloc (.cells #[.slice none 0 0, .slice none 0 0] 33) := ⟨_, rfl⟩
  rw [← hw4, ← hqq]
  have hx4 : FinP q w4 [] [] w4 := by rw [hw4, hqq]; exact ⟨_, _, [], Box.new _ _ _, Own.nil _ _ _, nilNest _ _ _, Below.refl _ _⟩
  have hb4 : Below w1.heap.size w1 w4 := by rw [hw4]; exact below_alloc _ _
  have bx4 := bx1.later hb4
  have hpq : p1 < q := by have := bx1.lt; omega
  have hgq : g < q := by omega
  have hwq : w.heap.size ≤ q := by have := hbE1.size; omega
  have hbE4 := hbE1.trans (hb4.mono (by omega))
  have cl4 := cell_later hb4 cl
  have hPc : ∀ (P : List (List UInt8)), Q = P ++ [[]] → ∀ (u : World), Below q w4 u → ∀ (k : Nat) (p : List UInt8), P[k]? = some p → u.cell? ⟨g, k, none⟩ = some (.string ⟨p.toArray⟩) := fun P hQP u hb k p hk => by
    have h1 : (ofS Q)[k]? = some ⟨p.toArray⟩ := ofS_get (by rw [hQP, List.getElem?_append_left (List.getElem?_eq_some_iff.1 hk).1]; exact hk)
    obtain ⟨g', cap', hv', _, hc'⟩ := own_str ho1 h1
    simp only [Value.slice.injEq, Option.some.injEq, Addr.mk.injEq, and_true] at hv'
    obtain ⟨rfl, _, rfl⟩ := hv'
    exact below_cell hb hgq (cell_later hb4 hc')
  have HPC0 := hid hPc
  have b0 := bx4.cell (j := 0) rfl
  have b1 := bx4.cell (j := 1) rfl
  have bf := bx4.free
  clear hw4 hqq hPc cl bx1 ho1
  by_cases hle : lastB.toList = []
  case neg =>
    have HN := hid (show linesL s.data.toList = none by
      unfold linesL
      rw [← HQ.out, HLQ.out, if_neg]
      intro h
      have := Option.some.inj h
      rw [← ByteArray.toList_eq] at this
      exact hle this)
    have HZ := hid (rdPc_none (readPc_no HN.out))
    have hse : lastB.toList.isEmpty = false := by
      cases h : lastB.toList.isEmpty with
      | false => rfl
      | true => exact absurd (List.isEmpty_iff.1 h) hle
    go_wp2_with fail
    refine bodyPost_ret (v := .tuple #[.agg #[.slice none 0 0, .slice none 0 0], .bool false]) (by simp [results, Tryz.results10, go_sem, b0, b1]) rfl (finish _ _ _ _ _ _ _ HZ (Own.nil _ _ _) (nilNest _ _ _) ?_)
    exact (hbE4.setCell hge1 _).setCell hge1 _
  have hL0 : linesL s.data.toList = some Q.dropLast := by
    unfold linesL
    rw [← HQ.out, HLQ.out, if_pos (by rw [← ByteArray.toList_eq, hle])]
  have hse : lastB.toList.isEmpty = true := by rw [hle]; rfl
  obtain ⟨P, hPP⟩ : ∃ P, P = Q.dropLast := ⟨_, rfl⟩
  rw [← hPP] at hL0
  have hQP : Q = P ++ [[]] := by rw [← (linesL_some hL0).1]; exact HQ.out
  have hPl : Q.length = P.length + 1 := by rw [hQP]; simp
  have HP := hid hL0
  have HPC := hid (HPC0.out P hQP)
  have HPL := hid hPl
  clear hL0 hPP hQP hle HPC0
  by_cases hm : 13 < Q.length
  · have hmi : (13 : Int) < (Q.length : Int) := by omega
    have HZ := hid (rdPc_none (readPc_many HP.out (by omega)))
    clear hPl
    go_wp2_with fail
    refine bodyPost_ret (v := .tuple #[.agg #[.slice none 0 0, .slice none 0 0], .bool false]) (by simp [results, Tryz.results10, go_sem, b0, b1]) rfl (finish _ _ _ _ _ _ _ HZ (Own.nil _ _ _) (nilNest _ _ _) ?_)
    exact (hbE4.setCell hge1 _).setCell hge1 _
  have hmi : ¬ ((13 : Int) < (Q.length : Int)) := by omega
  have hP12 : P.length ≤ 12 := by omega
  clear hPl
  go_wp2_with fail
  go_loopw [6] (fun i wr => ∃ (k : Nat) (z : List (ByteArray × List Int)), k ≤ P.length ∧ i = .int .i64 k ∧ FinP q w4 (z.map (·.1)) (z.map (·.2)) wr ∧ Hid (mapO lineP (P.take k) = some z)) (fun i _ => P.length - (intOf i).toNat)
  case atStart => exact ⟨0, [], Nat.zero_le _, rfl, hx4, hid rfl⟩
  case round =>
    clear hx4 b0 b1 bf
    obtain ⟨k, z, hk, rfl, ⟨ul, uo, vs, hbx, hoL, hst, hbl⟩, HM⟩ := hrel
    obtain ⟨L, hL⟩ : ∃ L, L = z.map (·.1) := ⟨_, rfl⟩
    obtain ⟨X, hX⟩ : ∃ L, L = z.map (·.2) := ⟨_, rfl⟩
    rw [← hL] at hoL
    rw [← hX] at hst
    have hzk : z.length ≤ 12 := by have := mapO_len HM.out; rw [List.length_take] at this; omega
    have hLl : L.length ≤ 12 := by rw [hL, List.length_map]; exact hzk
    have hXl : X.length ≤ 12 := by rw [hX, List.length_map]; exact hzk
    have hvl : vs.length ≤ 12 := by rw [hst.len]; exact hXl
    have HL := hid hL
    have HX := hid hX
    obtain ⟨la, lc, hul⟩ := hoL.isSlice
    subst hul
    obtain ⟨oa, oc, huo⟩ := hst.outer.1.isSlice
    subst huo
    have hbr := hbE4.trans (hbl.mono hwq)
    have bxr := bx4.below hbl hpq
    have hrq := hbx.lt
    clear hL hX
    by_cases hlt : k < P.length
    · have hki : (k : Int) < (Q.length : Int) - 1 := by have := HPL.out; omega
      have hkq : (k : Int) < (Q.length : Int) := by have := HPL.out; omega
      obtain ⟨p, hp⟩ : ∃ p, P[k]? = some p := ⟨_, List.getElem?_eq_getElem hlt⟩
      have c0 := HPC.out wr hbl k p hp
      obtain ⟨pb, hpb⟩ : ∃ pb : ByteArray, pb = ⟨p.toArray⟩ := ⟨_, rfl⟩
      have hpl : pb.data.toList = p := by rw [hpb]
      rw [← hpb] at c0
      have hps : pb.size ≤ 1048576 := by
        have h1 : p ∈ splL 10 s.data.toList := by rw [(linesL_some HP.out).1]; exact List.mem_append_left _ (List.mem_of_getElem? hp)
        have h2 := splL_plen h1
        have h3 : s.data.toList.length = s.size := by rw [Array.length_toList]; rfl
        rw [hpb]
        show p.toArray.size ≤ _
        rw [List.size_toArray]; omega
      have CS := fun w' => l01Split_any pb 32 w' hps
      obtain ⟨R, hR⟩ : ∃ R, R = splL 32 p := ⟨_, rfl⟩
      rw [show splB 32 pb = ofS R by unfold splB; rw [hpl, hR]] at CS
      have hRl : (ofS R).length = R.length := ofS_len R
      have hR2 : R.length ≤ 1048577 := by
        have h1 := (splB_len 32 pb).2
        rw [show splB 32 pb = ofS R by unfold splB; rw [hpl, hR], hRl] at h1
        omega
      have hR1 : 0 < R.length := List.length_pos_iff.2 (by rw [hR]; exact splL_ne _ _)
      obtain ⟨lab, hlab⟩ : ∃ a, (ofS R)[0]? = some a := ⟨_, List.getElem?_eq_getElem (by omega)⟩
      have hRc : R = lab.data.toList :: R.drop 1 := by
        have h5 := ofS_at hlab
        cases R with
        | nil => simp at hR1
        | cons a t => simp at h5; rw [h5]; simp
      have hsp : splL 32 p = lab.data.toList :: R.drop 1 := by rw [← hR]; exact hRc
      have hri3 : (0 : Int) < (R.length : Int) := by omega
      have HPK := hid hp
      have HRL := hid hRl
      have HLB := hid hlab
      have HSP := hid hsp
      have HBX := hid hbx
      have HOL := hid hoL
      have HST := hid hst
      have HBL := hid hbl
      clear hp hpb hpl hR hRl hlab hRc hsp hbx hoL hst hbl hps
      go_wp2_with fail
      refine (CS wr).mono ?_
      rintro en w5 ⟨v5, rfl, ho5, hb5⟩
      obtain ⟨g5, cap5, hv5, hg5, z0⟩ := own_str ho5 HLB.out
      rw [HRL.out] at hv5
      subst hv5
      have hWc : ∀ (u : World), Below w5.heap.size w5 u → ∀ (j : Nat) (a : ByteArray), (ofS R)[j]? = some a → u.cell? ⟨g5, j, none⟩ = some (.string a) := fun u hb j a hj => by
        obtain ⟨g', cap', hv', _, hc'⟩ := own_str ho5 hj
        simp only [Value.slice.injEq, Option.some.injEq, Addr.mk.injEq, and_true] at hv'
        obtain ⟨rfl, _, rfl⟩ := hv'
        exact cell_later hb hc'
      have HWC := hid hWc
      have hs5 := hb5.size
      clear hWc CS ho5 z0 c0
      go_wp2_with fail
      obtain ⟨wo, rfl⟩ : ∃ x, x = wr := ⟨wr, rfl⟩
      go_loopw [8, 9] (fun u i wr => ∃ (j : Nat) (ns : List Int), 1 ≤ j ∧ j ≤ R.length ∧ i = .int .i64 j ∧ Own eI 2 w5.heap.size wr u ns ∧ Below w5.heap.size w5 wr ∧ Hid (mapO rdN ((R.drop 1).take (j - 1)) = some ns) ∧ ns.length ≤ j) (fun _ i _ => R.length - (intOf i).toNat)
      case atStart => exact ⟨1, [], Nat.le_refl _, by omega, rfl, Own.empty _ _ (Nat.le_refl _), below_alloc _ _, hid rfl, by simp⟩
      case round =>
        obtain ⟨j, ns, hj1, hjR, rfl, hrow, hbi, HN, hnl⟩ := hrel
        obtain ⟨ra, rc, hrv⟩ := hrow.isSlice
        subst hrv
        have hsi := hbi.size
        have hbri := hb5.trans (hbi.mono hs5)
        by_cases hjl : j < R.length
        · have hji : (j : Int) < (R.length : Int) := by omega
          obtain ⟨b, hb⟩ : ∃ b, (ofS R)[j]? = some b := ⟨_, List.getElem?_eq_getElem (by rw [HRL.out]; exact hjl)⟩
          have y0 := HWC.out wr hbi j b hb
          have hbR := ofS_at hb
          have hbd : (R.drop 1)[j - 1]? = some b.data.toList := by rw [List.getElem?_drop, show 1 + (j - 1) = j by omega]; exact hbR
          have HBD := hid hbd
          have CN := l01Number_any b wr
          clear hb hbR hbd
          cases hn : rdNb b.data.toList
          · have HZ := hid (rdPc_none (readPc_bad HP.out (List.mem_of_getElem? HPK.out) (lineP_bad HSP.out (List.mem_of_getElem? HBD.out) (rdN_ff2 hn))))
            rw [hn] at CN
            clear hn
            go_wp2_with fail
            refine CN.mono ?_
            rintro en w7 ⟨rfl, hb7⟩
            have bx7 := (bxr.later hbri).later hb7
            have b0 := bx7.cell (j := 0) rfl
            have b1 := bx7.cell (j := 1) rfl
            have bf := bx7.free
            go_wp2_with fail
            refine bodyPost_ret (v := .tuple #[.agg #[.slice none 0 0, .slice none 0 0], .bool false]) (by simp [results, Tryz.results10, go_sem, b0, b1]) rfl (finish _ _ _ _ _ _ _ HZ (Own.nil _ _ _) (nilNest _ _ _) ?_)
            exact (((hbr.trans (hbri.mono hbr.size)).trans (hb7.mono (by have := hbr.size; have := hbri.size; omega))).setCell hge1 _).setCell hge1 _
          · have hnn := rdN_of2 hn
            obtain ⟨n, hnv⟩ : ∃ n, n = rdNv b.data.toList := ⟨_, rfl⟩
            rw [hn, ← hnv] at CN
            rw [← hnv] at hnn
            have HN2 := hid (show mapO rdN ((R.drop 1).take (j + 1 - 1)) = some (ns ++ [n]) by
              rw [show j + 1 - 1 = (j - 1) + 1 by omega]
              exact mapO_take HN.out HBD.out hnn)
            clear hn hnn hnv
            go_wp2_with fail
            refine CN.mono ?_
            rintro en w7 ⟨rfl, hb7⟩
            have ho7 := hrow.below hb7
            have hb57 := hbi.trans (hb7.mono hsi)
            have hs7 := hb57.size
            clear CN y0
            go_wp2_with (at_builtin; refine wpList_appA rfl _ _ 51 rfl w5.heap.size 2 _ 8 infIR Tryz.underlying51 rfl _ ns (by rfl) (ho7.alloc _) _ [n] (by rfl) (arr_block (E := eI) (n := 1) [n] #[.int .i64 n] rfl rfl (by decide)) (by unfold maxLen; simp <;> omega) (by simp <;> omega) (by simp <;> omega) ?_)
            intro u8 w8 ho8 hb8 _
            go_wp2_with fail
            go_roundw
            case rel => exact ⟨j + 1, ns ++ [n], by omega, by omega, by go_num, ho8, (hb57.alloc hs7 _).trans hb8, HN2, by simp; omega⟩
            case measure => simp [intOf]; omega
        · obtain rfl : j = R.length := by omega
          have hji : ¬ ((R.length : Int) < (R.length : Int)) := by omega
          have hmN : mapO rdN (R.drop 1) = some ns := by
            have := HN.out
            rw [List.take_of_length_le (by rw [List.length_drop]; exact Nat.le_refl _)] at this
            exact this
          have hlp := lineP_is HSP.out hmN
          have HMZ := hid (mapO_take HM.out HPK.out hlp)
          have hM0 : MidP q w4 wo.heap.size (.slice la L.length lc) (.slice oa vs.length oc) vs X (.slice ra ns.length rc) ns wr := MidP.mk' HBX.out HST.out HBL.out hbri hrow hs5
          have hL0 := HOL.out.below hbri
          have z0 := HWC.out wr hbi 0 lab HLB.out
          have a0 := hM0.box.cell (j := 0) rfl
          have HM0 := hid hM0
          have HL0 := hid hL0
          have hq1 := hM0.box.lt
          have mR1 : 0 < R.length := hR1
          clear hM0 hL0 hmN hlp
          go_upto_region 17 with fail
          refine wp_region_stg 6 8 (fun c w' => match c with | 0 => Below wr.heap.size wr w' | 1 => (MidP q w4 wo.heap.size (.slice la L.length lc) (.slice oa vs.length oc) vs X (.slice ra ns.length rc) ns w') | _ => FinM q w4 wo.heap.size (.slice oa vs.length oc) vs X (.slice ra ns.length rc) ns (L ++ [lab]) w') (fun c i v w' => match i with
                | 0 => v = .pointer (some ⟨q, 0, none⟩)
                | 1 => v = .slice la L.length lc
                | 2 => v = .slice (some ⟨g5, 0, none⟩) R.length cap5
                | 3 => v = .pointer (some ⟨g5, 0, none⟩)
                | 4 => v = .string lab
                | 5 => (match c with | 0 => (Arr eStr w' v [lab]) | 1 => True | _ => True)
                | 6 => (match c with | 0 => True | 1 => (Own eStr 9 (q + 1) w' v (L ++ [lab])) | _ => True)
                | 7 => v = .pointer (some ⟨q, 0, none⟩)
                | 8 => (match c with | 0 => True | 1 => True | _ => True)
                | _ => True) (by kernel_rfl) (by kernel_rfl) (by kernel_rfl) (by kernel_rfl) (by kernel_rfl) ?_ ?_ ?_ ?_ ?_ ?_ (by decide) ?_
          · exact (Below.refl _ wr).drew
          · intro c w w' h hb
            match c, h with
            | 0, h => exact Below.trans (B := wr.heap.size) h (hb.mono (Below.size h))
            | 1, h => exact MidP.below h hb
            | (k + 2), h => exact (FinM.below h hb)
          · intro c i v w w' h hb
            match i, h with
            | 0, h => exact h
            | 1, h => exact h
            | 2, h => exact h
            | 3, h => exact h
            | 4, h => exact h
            | 5, h =>
              match c, h with
              | 0, h => exact h.below hb
              | 1, h => exact trivial
              | (k + 2), h => exact trivial
            | 6, h =>
              match c, h with
              | 0, h => exact trivial
              | 1, h => exact h.below hb
              | (k + 2), h => exact trivial
            | 7, h => exact h
            | 8, h =>
              match c, h with
              | 0, h => exact trivial
              | 1, h => exact trivial
              | (k + 2), h => exact trivial
            | (k + 9), h => exact h
          · refine ⟨?_, ?_, ?_, ?_, ?_, ?_, ?_, ?_, ?_, trivial⟩
            · refine .inr (.inr ⟨fun _ => ?_, can_no (by kernel_rfl), can_no (by kernel_rfl)⟩)
              · intro ρ w' hbw ht hcs hfn hgl hdep G hG
                replace hbw : Below wr.heap.size wr w' := hbw
                refine ⟨fun _ => ?_, fun h => by cases h⟩
                have s5 : ρ (.tmp 5) = .pointer (some ⟨q, 0, none⟩) := ht 5 rfl
                clear ht hdep hgl
                go_simp
                exact hG _ _ (Below.refl _ _) rfl
            · refine .inr (.inr ⟨fun _ => ?_, can_no (by kernel_rfl), can_no (by kernel_rfl)⟩)
              · intro ρ w' hbw ht hcs hfn hgl hdep G hG
                replace hbw : Below wr.heap.size wr w' := hbw
                refine ⟨fun _ => ?_, fun h => by cases h⟩
                have s62 : ρ (.tmp 62) = .pointer (some ⟨q, 0, none⟩) := hdep ⟨0, .data⟩ (by simp) rfl 62 rfl
                have a0 := cell_later hbw a0
                have z0 := cell_later hbw z0
                clear ht hdep hgl
                go_simp
                exact hG _ _ (Below.refl _ _) rfl
            · refine .inr (.inr ⟨fun _ => ?_, can_no (by kernel_rfl), can_no (by kernel_rfl)⟩)
              · intro ρ w' hbw ht hcs hfn hgl hdep G hG
                replace hbw : Below wr.heap.size wr w' := hbw
                refine ⟨fun _ => ?_, fun h => by cases h⟩
                have s7 : ρ (.tmp 7) = .slice (some ⟨g5, 0, none⟩) R.length cap5 := ht 7 rfl
                clear ht hdep hgl
                go_simp
                exact hG _ _ (Below.refl _ _) rfl
            · refine .inr (.inr ⟨fun _ => ?_, can_no (by kernel_rfl), can_no (by kernel_rfl)⟩)
              · intro ρ w' hbw ht hcs hfn hgl hdep G hG
                replace hbw : Below wr.heap.size wr w' := hbw
                refine ⟨fun _ => ?_, fun h => by cases h⟩
                have s64 : ρ (.tmp 64) = .slice (some ⟨g5, 0, none⟩) R.length cap5 := hdep ⟨2, .data⟩ (by simp) rfl 64 rfl
                clear ht hdep hgl
                go_simp
                exact hG _ _ (Below.refl _ _) rfl
            · refine .inr (.inr ⟨fun _ => ?_, can_no (by kernel_rfl), can_no (by kernel_rfl)⟩)
              · intro ρ w' hbw ht hcs hfn hgl hdep G hG
                replace hbw : Below wr.heap.size wr w' := hbw
                refine ⟨fun _ => ?_, fun h => by cases h⟩
                have s65 : ρ (.tmp 65) = .pointer (some ⟨g5, 0, none⟩) := hdep ⟨3, .data⟩ (by simp) rfl 65 rfl
                have a0 := cell_later hbw a0
                have z0 := cell_later hbw z0
                clear ht hdep hgl
                go_simp
                exact hG _ _ (Below.refl _ _) rfl
            · refine .inr (.inr ⟨fun _ => ?_, can_no (by kernel_rfl), can_no (by kernel_rfl)⟩)
              · intro ρ w' hbw ht hcs hfn hgl hdep G hG
                replace hbw : Below wr.heap.size wr w' := hbw
                refine ⟨fun _ => ?_, fun h => by cases h⟩
                have s66 : ρ (.tmp 66) = .string lab := hdep ⟨4, .data⟩ (by simp) rfl 66 rfl
                clear ht hdep hgl
                go_simp
                exact hG _ _ (below_alloc _ _) (arr_block1 (E := eStr) (n := 1) [lab] #[.string lab] rfl rfl (by decide) (by simp))
            · exact .inl rfl
            · refine .inr (.inr ⟨fun _ => ?_, fun _ => ?_, can_no (by kernel_rfl)⟩)
              · intro ρ w' hbw ht hcs hfn hgl hdep G hG
                replace hbw : Below wr.heap.size wr w' := hbw
                refine ⟨fun _ => ?_, fun h => by cases h⟩
                have s5 : ρ (.tmp 5) = .pointer (some ⟨q, 0, none⟩) := ht 5 rfl
                clear ht hdep hgl
                go_simp
                exact hG _ _ (Below.refl _ _) rfl
              · intro ρ w' hbw ht hcs hfn hgl hdep G hG
                replace hbw : (MidP q w4 wo.heap.size (.slice la L.length lc) (.slice oa vs.length oc) vs X (.slice ra ns.length rc) ns w') := hbw
                refine ⟨fun _ => ?_, fun h => by cases h⟩
                have s5 : ρ (.tmp 5) = .pointer (some ⟨q, 0, none⟩) := ht 5 rfl
                clear ht hdep hgl
                go_simp
                exact hG _ _ (Below.refl _ _) rfl
            · exact .inr (.inl rfl)
          · intro o ho
            obtain rfl := Option.some.inj ho
            intro ρ w' hbw ht hcs hfn hgl hdep G hG
            replace hbw : Below wr.heap.size wr w' := hbw
            refine ⟨fun _ => ?_, fun h => by cases h⟩
            have s63 : ρ (.tmp 63) = .slice la L.length lc := hdep ⟨1, .data⟩ (by simp) rfl 63 rfl
            have d67 := hdep ⟨5, .data⟩ (by simp) rfl 67 rfl
            clear ht hdep hgl
            refine upon_appO _ _ 30 (by rfl) (q + 1) 9 _ 16 infoStr2 Tryz.underlying30 rfl _ L s63 (HL0.out.below hbw) [lab] d67 (by unfold maxLen; simp <;> omega) (by simp <;> omega) (by have := hbw.size; omega) ?_
            intro v' wA hoA hgA hlA
            refine hG _ _ ((HM0.out.below hbw).grown (HL0.out.below hbw) hgA) hoA ?_
            intro j u hj hne h
            match j, h with
            | 0, h => exact h
            | 1, h => exact h
            | 2, h => exact h
            | 3, h => exact h
            | 4, h => exact h
            | 5, h => exact trivial
            | 6, h => exact absurd rfl hne
            | 7, h => exact h
            | 8, h => exact trivial
            | (k + 9), h => exact h
          · intro o ho
            obtain rfl := Option.some.inj ho
            intro ρ w' hbw ht hcs hfn hgl hdep G hG
            replace hbw : (MidP q w4 wo.heap.size (.slice la L.length lc) (.slice oa vs.length oc) vs X (.slice ra ns.length rc) ns w') := hbw
            refine ⟨fun _ => ?_, fun h => by cases h⟩
            have s69 : ρ (.tmp 69) = .pointer (some ⟨q, 0, none⟩) := hdep ⟨7, .data⟩ (by simp) rfl 69 rfl
            have d68 := hdep ⟨6, .data⟩ (by simp) rfl 68 rfl
            clear ht hdep hgl
            have h68 : Own eStr 9 (q + 1) w' (ρ (.tmp 68)) (L ++ [lab]) := d68
            obtain ⟨ua, uc, hu⟩ := h68.isSlice
            rw [show (L ++ [lab]).length = L.length + 1 by simp] at hu
            rw [hu] at h68
            have f0 := hbw.box.cell (j := 0) rfl
            have ff := hbw.box.free
            have hx := hid (show FinM q w4 wo.heap.size (.slice oa vs.length oc) vs X (.slice ra ns.length rc) ns (L ++ [lab]) (w'.setCell ⟨q, 0, none⟩ (.slice ua (L.length + 1) uc)) from ⟨_, hbw.set _, h68.setBelow (Nat.lt_succ_self q) _⟩)
            clear h68
            go_simp
            refine hG _ _ hx.out trivial ?_
            intro j u hj hne h
            match j, h with
            | 0, h => exact h
            | 1, h => exact h
            | 2, h => exact h
            | 3, h => exact h
            | 4, h => exact h
            | 5, h => exact trivial
            | 6, h => exact trivial
            | 7, h => exact h
            | 8, h => exact trivial
            | (k + 9), h => exact h
          intro xx w9 hF hx
          clear hx
          simp only [putAll, Act.put, List.setIfInBounds_toArray, List.set_cons_succ, List.set_cons_zero, Nat.zero_add, Nat.reduceAdd]
          obtain ⟨ul, hM9, hL9⟩ := hF
          obtain ⟨ua, uc, hul⟩ := hL9.isSlice
          rw [show (L ++ [lab]).length = L.length + 1 by simp] at hul
          subst hul
          have a19 := hM9.box.cell (j := 1) rfl
          have hs9 := hM9.hi1
          have hi9 := hM9.hi2
          have HM9 := hid hM9
          have HL9 := hid hL9
          clear hM9 hL9 a0 z0
          go_wp2_with (at_builtin; refine wpList_appO2 rfl _ _ 31 rfl (q + 1) 51 _ 24 infRowR Tryz.underlying31 rfl _ vs (by rfl) ((HM9.out.below (below_alloc _ (.cells #[.slice ra ns.length rc] 51))).nest.outer.1) _ [(⟨ra, ns.length, rc⟩ : SV)] (by rfl) (arr_block (E := eS1) (n := 1) [(⟨ra, ns.length, rc⟩ : SV)] #[.slice ra ns.length rc] rfl rfl (by decide)) (by unfold maxLen; simp <;> omega) (by simp <;> omega) (by simp <;> omega) ?_)
          intro u10 w10 ho10 hg10
          obtain ⟨va, vc, hu10⟩ := ho10.isSlice
          rw [show (vs ++ [(⟨ra, ns.length, rc⟩ : SV)]).length = vs.length + 1 by simp] at hu10
          subst hu10
          have hM10 : MidP q w4 wo.heap.size (.slice ua (L.length + 1) uc) (.slice oa vs.length oc) vs X (SV.val ⟨ra, ns.length, rc⟩) ns (w9.alloc (.cells #[.slice ra ns.length rc] 51)) := HM9.out.below (below_alloc _ _)
          have bx10 := hM10.pushBox hg10
          have f0 := bx10.cell (j := 1) rfl
          have ff := bx10.free
          have HF := hid (show FinP q w4 ((z ++ [(lab, ns)]).map (·.1)) ((z ++ [(lab, ns)]).map (·.2)) (w10.setCell ⟨q, 1, none⟩ (.slice va (vs.length + 1) vc)) by
            have h1 := hM10.push (HL9.out.below (below_alloc _ _)) ho10 hg10
            rw [HL.out, HX.out] at h1
            rw [List.map_append, List.map_append]
            exact h1)
          clear hM10 ho10 hg10 bx10 a19
          go_wp2_with fail
          go_roundw
          case rel => exact ⟨k + 1, z ++ [(lab, ns)], by omega, by go_num, HF.out, HMZ⟩
          case measure => simp [intOf]; omega
    · obtain rfl : k = P.length := by omega
      have hki : ¬ ((P.length : Int) < (Q.length : Int) - 1) := by have := HPL.out; omega
      have hM : mapO lineP P = some z := by have := HM.out; rw [List.take_length] at this; exact this
      have hcx : candX P = (L, X) := by unfold candX; rw [(mapO_candP hM).1, HL.out, HX.out]; rfl
      have hux : unz z = (L, X) := by rw [HL.out, HX.out]; rfl
      have okX := okCandX HP.out hs
      have gX := goodCandX HP.out hs
      have hrd := readPc_is HP.out hP12 hM
      rw [hcx] at okX gX
      rw [hux] at hrd
      have a0 := hbx.cell (j := 0) rfl
      have a1 := hbx.cell (j := 1) rfl
      have CV := l12Ok_any q _ _ L X wr a0 a1 hoL.arr (rowsI_at (rInt64SS.own_at hst.own)) okX.1 okX.2 gX
      have b0 := bxr.cell (j := 0) rfl
      cases hv : pcOk (L, X)
      · have HZ := hid (rdPc_none (show readPc s = none by rw [hrd, hv]; rfl))
        rw [hv] at CV
        clear hM hcx hux hrd hv b0
        go_wp2_with fail
        refine CV.mono ?_
        rintro en w2 ⟨rfl, hb2⟩
        have bx2 := bxr.later hb2
        have b0 := bx2.cell (j := 0) rfl
        have b1 := bx2.cell (j := 1) rfl
        have bf := bx2.free
        go_wp2_with fail
        refine bodyPost_ret (v := .tuple #[.agg #[.slice none 0 0, .slice none 0 0], .bool false]) (by simp [results, Tryz.results10, go_sem, b0, b1]) rfl (finish _ _ _ _ _ _ _ HZ (Own.nil _ _ _) (nilNest _ _ _) ?_)
        exact ((hbr.trans (hb2.mono hbr.size)).setCell hge1 _).setCell hge1 _
      · have HZ := hid (rdPc_some (show readPc s = some (L, X) by rw [hrd, hv]; rfl))
        rw [hv] at CV
        clear hM hcx hux hrd hv b0
        go_wp2_with fail
        refine CV.mono ?_
        rintro en w2 ⟨rfl, hb2⟩
        have bx2 := bxr.later hb2
        have b0 := bx2.cell (j := 0) rfl
        have b1 := bx2.cell (j := 1) rfl
        have bf := bx2.free
        have a02 := cell_later hb2 a0
        have a12 := cell_later hb2 a1
        have ho2 := hoL.below hb2
        have hn2 : NestP (q + 1) w2.heap.size (.slice oa vs.length oc) vs X w2 := NestSt.nowR hst hb2
        go_wp2_with fail
        refine bodyPost_ret (v := .tuple #[.agg #[.slice la L.length lc, .slice oa vs.length oc], .bool true]) (by simp [results, Tryz.results10, go_sem, b0, b1]) rfl (finish _ _ _ vs _ _ _ HZ (((ho2.setBelow (a := ⟨p1, 0, none⟩) (by show p1 < q + 1; omega) _).setBelow (a := ⟨p1, 1, none⟩) (by show p1 < q + 1; omega) _).mono (by omega)) ?_ ?_)
        · exact nest_set2 hn2 (by omega) (by omega)
        · exact ((hbr.trans (hb2.mono hbr.size)).setCell hge1 _).setCell hge1 _
end Go.Proofs.YtbgjojnjbplblaaGreatDoor
