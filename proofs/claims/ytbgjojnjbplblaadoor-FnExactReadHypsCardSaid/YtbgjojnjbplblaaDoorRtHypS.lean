/- Hypotheses read from their text: the reference's call. -/
import Derived.Test.YtbgjojnjbplblaaDoorRtHyp
import Derived.Test.YtbgjojnjbplblaaDoorRtNum
import Derived.Test.YtbgjojnjbplblaaDoorRtBox
import Derived.Deep.Cut
namespace Go.Proofs.YtbgjojnjbplblaaDoor
open Go.RowKit

theorem infHypR : (Tryd.prog.info? 52).map (fun i => (i.zero, i.size, i.bytes)) = some (some (.agg #[.string ByteArray.empty, .int .i64 0]), eHyp.sz, 24) := by kernel_rfl
set_option maxRecDepth 100000 in
set_option maxHeartbeats 8000000 in
theorem specReadHyps_any (s : ByteArray) (w : World) (hs : s.size ≤ 1048576) (_ : TabR w) : Calls Tryd.prog 10 #[.string s] w (RetNew rHypS (rdHy s) #[.bool (rdHyB s)] w) := by
  have finish : ∀ (w' : World) (u : Value) (z : XHypS) (c : Bool), Hid (rdHy s = z ∧ rdHyB s = c) → Own eHyp 52 w.heap.size w' u z → Below w.heap.size w w' → RetNew rHypS (rdHy s) #[.bool (rdHyB s)] w (.returned (.tuple #[u, .bool c])) w' := by
    intro w' u z c hz ho hb
    rw [hz.out.1, hz.out.2]
    exact ⟨_, rfl, rHypS_own ho (Nat.le_refl _), hb⟩
  cases hno : eqS s noneS with
  | true =>
    have HZ := hid (rdHy_some (readHy_none hno))
    have hq : (s.toList == [110, 111, 110, 101]) = true := by rw [← noneS_list]; exact hno
    clear hno
    go_enter Tryd.func10, Tryd.ntmps10
    go_wp2_with fail
    go_ret2
    exact finish _ _ _ _ HZ (Own.empty _ _ (Nat.le_refl _)) (below_alloc _ _)
  | false =>
    have hq : (s.toList == [110, 111, 110, 101]) = false := by rw [← noneS_list]; exact hno
    obtain ⟨P, hP⟩ : ∃ P, P = splL 32 s.data.toList := ⟨_, rfl⟩
    have hrd : readHy s = match mapO partE P with
        | some x => if validHy x then some x else none
        | none => none := by unfold readHy; rw [hno, ← hP]; rfl
    have CS0 := fun w' => l01Split_any s 32 w' hs
    obtain ⟨hn1, hn2⟩ := splB_len 32 s
    have hPB : splB 32 s = ofS P := by rw [hP]; rfl
    rw [hPB] at hn1 hn2 CS0
    have hPl : (ofS P).length = P.length := ofS_len P
    rw [hPl] at hn1 hn2
    have hps0 : ∀ p ∈ P, p.length ≤ 1048576 := fun p hp => by
      rw [hP] at hp
      have h2 := splL_plen hp
      have h3 : s.data.toList.length = s.size := by rw [Array.length_toList]; rfl
      omega
    have hmx : ∀ x, mapO partE P = some x → goodHypS x := fun x hx => by
      rw [← (mapO_candH hx).1, hP]; exact goodCandH hs
    have HRD := hid hrd
    have HPL := hid hPl
    have HPS := hid hps0
    have hsh : ∀ x, mapO partE P = some x → x.length ≤ 1048576 := fun x hx => readHy_short hs (by rw [← hP]; exact hx)
    have HMX := hid hmx
    have HSH := hid hsh
    clear hno hP hrd hPl hps0 hmx hsh hPB
    go_enter Tryd.func10, Tryd.ntmps10
    go_wp2_with fail
    refine (CS0 _).mono ?_
    rintro en w1 ⟨v1, rfl, ho1, hb1⟩
    have hbw : Below w.heap.size w w1 := (below_alloc w (.cells #[] 52)).trans (hb1.mono (by simp))
    have hx1 : Own eHyp 52 w.heap.size w1 (.slice (some ⟨w.heap.size, 0, none⟩) 0 0) [] := (Own.empty _ _ (Nat.le_refl _)).below hb1
    have hbs1 := hbw.size
    have hs1 : Own eStr 9 w.heap.size w1 v1 (ofS P) := ho1.mono (by simp)
    obtain ⟨la, lc, hv1⟩ := hs1.isSlice
    rw [HPL.out] at hv1
    subst hv1
    clear CS0 ho1 hb1
    go_wp2_with fail
    go_loopw [4, 6] (fun u i wr => ∃ (k : Nat) (X : XHypS), k ≤ P.length ∧ i = .int .i64 k ∧ Own eHyp 52 w.heap.size wr u X ∧ Own eStr 9 w.heap.size wr (.slice la P.length lc) (ofS P) ∧ Below w.heap.size w wr ∧ Hid (mapO partE (P.take k) = some X) ∧ X.length ≤ k) (fun _ i _ => P.length - (intOf i).toNat)
    case atStart => exact ⟨0, [], Nat.zero_le _, rfl, hx1, hs1, hbw, hid rfl, Nat.le_refl _⟩
    case round =>
      clear hx1 hs1 hbw hbs1
      obtain ⟨k, X, hk, rfl, hoE, hoS, hbr, HM, hXk⟩ := hrel
      obtain ⟨oa, oc, hu⟩ := hoE.isSlice
      subst hu
      have hbrs := hbr.size
      by_cases hlt : k < P.length
      · have hli : (k : Int) < (P.length : Int) := by omega
        obtain ⟨p, hp⟩ : ∃ p, P[k]? = some p := ⟨_, List.getElem?_eq_getElem hlt⟩
        obtain ⟨g, cap, hv, hg, c0⟩ := own_str hoS (ofS_get hp)
        simp only [Value.slice.injEq] at hv
        obtain ⟨rfl, hx1, rfl⟩ := hv
        clear hx1
        obtain ⟨pb, hpb⟩ : ∃ pb : ByteArray, pb = ⟨p.toArray⟩ := ⟨_, rfl⟩
        have hpl : pb.data.toList = p := by rw [hpb]
        rw [← hpb] at c0
        have hps : pb.size ≤ 1048576 := by
          have h1 := HPS.out p (List.mem_of_getElem? hp)
          rw [hpb]
          show p.toArray.size ≤ _
          simpa using h1
        have CS := fun w' => l01Split_any pb 58 w' hps
        obtain ⟨R, hR⟩ : ∃ R, R = splL 58 p := ⟨_, rfl⟩
        rw [show splB 58 pb = ofS R by unfold splB; rw [hpl, hR]] at CS
        have hRl : (ofS R).length = R.length := ofS_len R
        have hR2 : R.length ≤ 1048577 := by
          have h1 := (splB_len 58 pb).2
          rw [show splB 58 pb = ofS R by unfold splB; rw [hpl, hR], hRl] at h1
          omega
        have hR1 : 0 < R.length := List.length_pos_iff.2 (by rw [hR]; exact splL_ne _ _)
        obtain ⟨lb, hlb⟩ : ∃ a, (ofS R)[R.length - 1]? = some a := ⟨_, List.getElem?_eq_getElem (by omega)⟩
        obtain ⟨fb, hfb⟩ : ∃ a, (ofS R)[0]? = some a := ⟨_, List.getElem?_eq_getElem (by omega)⟩
        have hlR := ofS_at hlb
        have hfR := ofS_at hfb
        have CN := fun w' => l01Number_any lb w'
        have hri1 : (0 : Int) ≤ (R.length : Int) - 1 := by omega
        have hri2 : (R.length : Int) - 1 < (R.length : Int) := by omega
        have ert : ((R.length : Int) - 1).toNat = R.length - 1 := by omega
        have hri3 : (0 : Int) < (R.length : Int) := by omega
        have HPK := hid hp
        have HRE := hid hR
        have HRL := hid hRl
        have HLB := hid hlb
        have HFB := hid hfb
        have HLR := hid hlR
        have HFR := hid hfR
        have HOE := hid hoE
        have HOS := hid hoS
        clear hp hpb hpl hR hRl hlb hfb hlR hfR hoE hoS hps
        have bad : partE p = none → readHy s = none := fun hl => by
          rw [HRD.out, mapO_none (List.mem_of_getElem? HPK.out) hl]
        have BAD := hid bad
        clear bad
        cases hn : rdNb lb.data.toList
        · have hl : partE p = none := by
            unfold partE
            split
            · rename_i a c hs2
              have h1 := HLR.out
              rw [HRE.out, hs2] at h1
              simp at h1
              have h2 : rdN c = none := by
                rw [h1]
                unfold rdNb at hn
                cases hx : rdN lb.data.toList with
                | none => rfl
                | some n => rw [hx] at hn; cases hn
              rw [h2]; rfl
            · rfl
          have HZ := hid (rdHy_none (BAD.out hl))
          rw [hn] at CN
          clear hl
          go_wp2_with fail
          refine (CS wr).mono ?_
          rintro en w2 ⟨v2, rfl, ho2, hb2⟩
          obtain ⟨g2, cap2, hv2, hg2, c2⟩ := own_str ho2 HLB.out
          rw [HRL.out] at hv2
          subst hv2
          go_wp2_with fail
          refine (CN w2).mono ?_
          rintro en w3 ⟨rfl, hb3⟩
          go_wp2_with fail
          go_ret2
          exact finish _ _ _ _ HZ (Own.nil _ _ _) ((hbr.trans (hb2.mono hbr.size)).trans (hb3.mono (Nat.le_trans hbr.size hb2.size)))
        · by_cases h2 : R.length = 2
          case neg =>
            have hl : partE p = none := by
              unfold partE
              split
              · rename_i a c hs2
                have : R.length = 2 := by rw [HRE.out, hs2]; rfl
                exact absurd this h2
              · rfl
            have HZ := hid (rdHy_none (BAD.out hl))
            have h2i : ¬ ((R.length : Int) = 2) := by omega
            have h2b : ((R.length : Int) != 2) = true := by rw [bne_iff_ne]; exact h2i
            rw [hn] at CN
            clear hl
            go_wp2_with fail
            refine (CS wr).mono ?_
            rintro en w2 ⟨v2, rfl, ho2, hb2⟩
            obtain ⟨g2, cap2, hv2, hg2, c2⟩ := own_str ho2 HLB.out
            rw [HRL.out] at hv2
            subst hv2
            go_wp2_with fail
            refine (CN w2).mono ?_
            rintro en w3 ⟨rfl, hb3⟩
            go_wp2_with fail
            go_ret2
            exact finish _ _ _ _ HZ (Own.nil _ _ _) ((hbr.trans (hb2.mono hbr.size)).trans (hb3.mono (Nat.le_trans hbr.size hb2.size)))
          have h2b : ((R.length : Int) != 2) = false := by rw [h2]; rfl
          have H2B := hid h2b
          clear h2b
          obtain ⟨n, hnn⟩ : ∃ n, rdN lb.data.toList = some n := by
            unfold rdNb at hn
            cases hx : rdN lb.data.toList with
            | none => rw [hx] at hn; cases hn
            | some n => exact ⟨n, rfl⟩
          have hle' : partE p = some ⟨fb, n⟩ := by
            have h4 : splL 58 p = [fb.data.toList, lb.data.toList] := by
              rw [← HRE.out]
              have h5 := HLR.out
              have h6 := HFR.out
              rw [h2] at h5
              match R, h2, h5, h6 with
              | [a, c], _, h5, h6 => simp at h5 h6; rw [h5, h6]
            unfold partE
            rw [h4]
            simp only [hnn, Option.map_some]
          have HM2 := hid (mapO_take HM.out HPK.out hle')
          rw [hn, (rdNv_some hnn).1] at CN
          have hXl : X.length ≤ 1048577 := by omega
          clear hle' hnn h2 hn
          go_wp2_with fail
          refine (CS wr).mono ?_
          rintro en w2 ⟨v2, rfl, ho2, hb2⟩
          obtain ⟨g2, cap2, hv2, hg2, c2⟩ := own_str ho2 HLB.out
          rw [HRL.out] at hv2
          subst hv2
          obtain ⟨g2', cap2', hv2', _, c3⟩ := own_str ho2 HFB.out
          simp only [Value.slice.injEq, Option.some.injEq, Addr.mk.injEq, and_true] at hv2'
          obtain ⟨rfl, hx2, rfl⟩ := hv2'
          clear hx2
          go_wp2_with fail
          refine (CN w2).mono ?_
          rintro en w3 ⟨rfl, hb3⟩
          have z3 := cell_later hb3 c3
          have h2b := H2B.out
          have hb23 := hb2.trans (hb3.mono hb2.size)
          have hoE3 := HOE.out.below hb23
          have hoS3 := HOS.out.below hb23
          have hbr3 := hbr.trans (hb23.mono hbrs)
          have hbs3 := hbr3.size
          clear CS CN c2 c3
          go_wp2_with (at_builtin; refine wpList_appA rfl _ _ 30 rfl w.heap.size 52 _ 24 infHypR Tryd.underlying30 rfl _ X (by rfl) (hoE3.alloc _) _ [(⟨fb, n⟩ : DHyp)] (by rfl) (arr_block (E := eHyp) (n := 1) [(⟨fb, n⟩ : DHyp)] #[.string fb, .int .i64 n] rfl rfl (by decide)) (by unfold maxLen; simp <;> omega) (by simp <;> omega) (by simp <;> omega) ?_)
          intro u6 w6 ho6 hb6 ht6
          have hoS6 := (hoS3.alloc (.cells #[.string fb, .int .i64 n] 52)).typedR ht6 rfl
          have hbr6 := (hbr3.alloc hbs3 (.cells #[.string fb, .int .i64 n] 52)).trans hb6
          go_wp2_with fail
          go_roundw
          case rel => exact ⟨k + 1, X ++ [⟨fb, n⟩], by omega, by go_num, ho6, hoS6, hbr6, HM2, by simp; omega⟩
          case measure => simp [intOf]; omega
      · obtain rfl : k = P.length := by omega
        have hli : ¬ ((P.length : Int) < (P.length : Int)) := by omega
        have hM : mapO partE P = some X := by have := HM.out; rw [List.take_length] at this; exact this
        have okX : X.length ≤ 1048577 := by omega
        have gX : goodHypS X := HMX.out X hM
        have hok8 : okHypS X := HSH.out X hM
        have CV := l13Ok_any _ X wr hoE.arr hok8 gX
        cases hv : validHy X
        · have HZ := hid (rdHy_none (show readHy s = none by rw [HRD.out, hM]; simp only; rw [hv]; rfl))
          rw [hv] at CV
          clear hM
          go_wp2_with fail
          refine CV.mono ?_
          rintro en w2 ⟨rfl, hb2⟩
          go_wp2_with fail
          go_ret2
          exact finish _ _ _ _ HZ (Own.nil _ _ _) (hbr.trans (hb2.mono hbr.size))
        · have HZ := hid (rdHy_some (show readHy s = some X by rw [HRD.out, hM]; simp only; rw [hv]; rfl))
          rw [hv] at CV
          clear hM
          go_wp2_with fail
          refine CV.mono ?_
          rintro en w2 ⟨rfl, hb2⟩
          have ho2 := hoE.below hb2
          go_wp2_with fail
          go_ret2
          exact finish _ _ _ _ HZ ho2 (hbr.trans (hb2.mono hbr.size))
end Go.Proofs.YtbgjojnjbplblaaDoor
