/- A lexicon read from its text: the reference's call. -/
import Derived.Test.YtbgjojnjbplblaaDoorRtLex
import Derived.Test.YtbgjojnjbplblaaDoorRtNum
import Derived.Test.YtbgjojnjbplblaaDoorRtBox
import Derived.Deep.Cut
namespace Go.Proofs.YtbgjojnjbplblaaDoor
open Go.RowKit

theorem infEntR : (Tryd.prog.info? 40).map (fun i => (i.zero, i.size, i.bytes)) = some (some (.agg #[.string ByteArray.empty, .int .i64 0]), eEntry.sz, 24) := by kernel_rfl
theorem rLxR_new {w w' : World} {B : Nat} {u : Value} {x : XLexicon} (h : Own eEntry 40 B w' u x) (hB : w.heap.size ≤ B) : rLexicon.own w.heap.size w'.heap.size w' (.agg #[u]) x :=
  ⟨u, rfl, (h.mono hB).in_⟩
set_option maxRecDepth 100000 in
set_option maxHeartbeats 8000000 in
theorem specReadLexicon_any (s : ByteArray) (w : World) (hs : s.size ≤ 1048576) (_ : TabR w) : Calls Tryd.prog 5 #[.string s] w (RetNew rLexicon (rdLx s) #[.bool (rdLxB s)] w) := by
  obtain ⟨W, hW⟩ : ∃ u, u = (w.alloc (.cells #[.slice none 0 0] 24)) := ⟨_, rfl⟩
  have hbW : Below w.heap.size w W := by rw [hW]; exact belowA1 _ _
  have q1 : Box W (w.heap.size) #[.slice none 0 0] 24 := by
    have hq := Box.new w #[.slice none 0 0] 24
    rw [hW]
    exact hq
  obtain ⟨p1, hp1⟩ : ∃ p, p = w.heap.size := ⟨_, rfl⟩
  rw [← hp1] at q1
  have hge1 : w.heap.size ≤ p1 := by omega
  have hlW : w.heap.size ≤ W.heap.size := hbW.size
  have hlp1 : p1 < W.heap.size := q1.lt
  have HP1 := hid hp1
  have HW := hid hW
  clear hW hp1
  have finish : ∀ (w' : World) (u : Value) (z : XLexicon) (c : Bool), Hid (rdLx s = z ∧ rdLxB s = c) → Own eEntry 40 w.heap.size w' u z → Below w.heap.size w w' → RetNew rLexicon (rdLx s) #[.bool (rdLxB s)] w (.returned (.tuple #[.agg #[u], .bool c])) w' := by
    intro w' u z c hz ho hb
    rw [hz.out.1, hz.out.2]
    exact ⟨_, rfl, rLxR_new ho (Nat.le_refl _), hb⟩
  have CS := l01Split_any s 10 W hs
  obtain ⟨hn1, hn2⟩ := splB_len 10 s
  go_enter Tryd.func5, Tryd.ntmps5
  go_wp2_with fail
  rw [← HP1.out, ← HW.out]
  refine CS.mono ?_
  rintro en w1 ⟨v1, rfl, ho1, hb1⟩
  clear CS
  obtain ⟨Q, hQ⟩ : ∃ Q, Q = splL 10 s.data.toList := ⟨_, rfl⟩
  have hQl : (ofS Q).length = Q.length := ofS_len Q
  rw [show splB 10 s = ofS Q by rw [hQ]; rfl] at ho1 hn1 hn2
  rw [hQl] at hn1 hn2
  obtain ⟨lastB, hlast⟩ : ∃ a, (ofS Q)[Q.length - 1]? = some a := ⟨_, List.getElem?_eq_getElem (by omega)⟩
  obtain ⟨g, cap, hv1, hg1, cl⟩ := own_str ho1 hlast
  rw [hQl] at hv1
  subst hv1
  have hli1 : (0 : Int) ≤ (Q.length : Int) - 1 := by omega
  have hli2 : (Q.length : Int) - 1 < (Q.length : Int) := by omega
  have et : ((Q.length : Int) - 1).toNat = Q.length - 1 := by omega
  have hge0 := ho1.lt
  have hbE1 := hbW.trans (hb1.mono hlW)
  have bx1 := q1.later hb1
  have hbs1 := hb1.size
  have HQ := hid hQ
  have HQL := hid hQl
  have hlq : Q.getLast? = some lastB.data.toList := by rw [List.getLast?_eq_getElem?]; exact ofS_at hlast
  have HLQ := hid hlq
  clear hQ hQl hlast hlq
  by_cases hle : lastB.toList = []
  case neg =>
    have HN := hid (show linesL s.data.toList = none by
      unfold linesL
      rw [← HQ.out, HLQ.out, if_neg]
      intro h
      have := Option.some.inj h
      rw [← ByteArray.toList_eq] at this
      exact hle this)
    have HZ := hid (rdLx_none (readLx_no HN.out))
    have hse : lastB.toList.isEmpty = false := by
      cases h : lastB.toList.isEmpty with
      | false => rfl
      | true => exact absurd (List.isEmpty_iff.1 h) hle
    have b0 := bx1.cell (j := 0) rfl
    have bf := bx1.free
    go_wp2_with fail
    refine bodyPost_ret (v := .tuple #[.agg #[.slice none 0 0], .bool false]) (by simp [results, Tryd.results5, go_sem, b0]) rfl (finish _ _ _ _ HZ (Own.nil _ _ _) ?_)
    exact hbE1.setCell hge1 _
  obtain ⟨P, hP⟩ : ∃ P, linesL s.data.toList = some P := by
    refine ⟨Q.dropLast, ?_⟩
    unfold linesL
    rw [← HQ.out, HLQ.out, if_pos (by rw [← ByteArray.toList_eq, hle])]
  have hQP : Q = P ++ [[]] := by rw [HQ.out]; exact (linesL_some hP).1
  have hPl : Q.length = P.length + 1 := by rw [hQP]; simp
  have hP1 : P.length ≤ 1048576 := by omega
  have HP := hid hP
  have HQP := hid hQP
  have hse : lastB.toList.isEmpty = true := by rw [hle]; rfl
  have HPL := hid hPl
  clear hP hQP hPl
  go_upto_region 5 with fail
  all_goals first | (exfalso; simp_all; done) | skip
  obtain ⟨q, hq⟩ : ∃ q, q = w1.heap.size := ⟨_, rfl⟩
  obtain ⟨w4, hw4⟩ : ∃ u, u = w1.alloc (.cells #[.slice none 0 0] 24) := ⟨_, rfl⟩
  rw [← hw4, ← hq]
  have hx4 : FinX eEntry 40 24 q w4 [] w4 := by rw [hw4, hq]; exact ⟨_, Box.new _ _ _, Own.nil _ _ _, Below.refl _ _⟩
  have hb4 : Below w1.heap.size w1 w4 := by rw [hw4]; exact below_alloc _ _
  have bx4 := bx1.later hb4
  have hpq : p1 < q := by have := bx1.lt; omega
  have hgq : g < q := by omega
  have hwq : w.heap.size ≤ q := by have := hbE1.size; omega
  have hbE4 := hbE1.trans (hb4.mono (by omega))
  have hPc : ∀ (u : World), Below q w4 u → ∀ (k : Nat) (p : List UInt8), P[k]? = some p → u.cell? ⟨g, k, none⟩ = some (.string ⟨p.toArray⟩) := fun u hb k p hk => by
    have h1 : (ofS Q)[k]? = some ⟨p.toArray⟩ := ofS_get (by rw [HQP.out, List.getElem?_append_left (List.getElem?_eq_some_iff.1 hk).1]; exact hk)
    obtain ⟨g', cap', hv', _, hc'⟩ := own_str ho1 h1
    simp only [Value.slice.injEq, Option.some.injEq, Addr.mk.injEq, and_true] at hv'
    obtain ⟨rfl, _, rfl⟩ := hv'
    exact below_cell hb hgq (cell_later hb4 hc')
  have HPC := hid hPc
  clear hw4 hq hPc cl bx1
  go_wp2_with fail
  go_loopw [6] (fun i wr => ∃ (k : Nat) (X : XLexicon), k ≤ P.length ∧ i = .int .i64 k ∧ FinX eEntry 40 24 q w4 X wr ∧ Hid (mapO lineE (P.take k) = some X) ∧ X.length ≤ k) (fun i _ => P.length - (intOf i).toNat)
  case atStart => exact ⟨0, [], Nat.zero_le _, rfl, hx4, hid rfl, Nat.le_refl _⟩
  case round =>
    clear hx4
    obtain ⟨k, X, hk, rfl, ⟨u, hbx, hoE, hbl⟩, HM, hXk⟩ := hrel
    obtain ⟨oa, oc, hu⟩ := hoE.isSlice
    subst hu
    have hbr := hbE4.trans (hbl.mono hwq)
    have bxr := bx4.below hbl hpq
    have hrq := hbx.lt
    by_cases hlt : k < P.length
    · have hki : (k : Int) + 1 < (Q.length : Int) := by have := HPL.out; omega
      have hkq : (k : Int) < (Q.length : Int) := by have := HPL.out; omega
      obtain ⟨p, hp⟩ : ∃ p, P[k]? = some p := ⟨_, List.getElem?_eq_getElem hlt⟩
      have c0 := HPC.out wr hbl k p hp
      obtain ⟨pb, hpb⟩ : ∃ pb : ByteArray, pb = ⟨p.toArray⟩ := ⟨_, rfl⟩
      have hpl : pb.data.toList = p := by rw [hpb]
      rw [← hpb] at c0
      have hps : pb.size ≤ 1048576 := by
        have h1 : pb ∈ splB 10 s := by
          have : (ofS Q)[k]? = some pb := by rw [hpb]; exact ofS_get (by rw [HQP.out, List.getElem?_append_left hlt]; exact hp)
          rw [HQ.out] at this
          exact List.mem_of_getElem? this
        have := splB_size h1; omega
      have CS := fun w' => l01Split_any pb 32 w' hps
      obtain ⟨R, hR⟩ : ∃ R, R = splL 32 p := ⟨_, rfl⟩
      rw [show splB 32 pb = ofS R by unfold splB; rw [hpl, hR]] at CS
      have hRl : (ofS R).length = R.length := ofS_len R
      have hR2 : R.length ≤ 1048577 := by
        have h1 := (splB_len 32 pb).2
        rw [show splB 32 pb = ofS R by unfold splB; rw [hpl, hR], hRl] at h1
        omega
      have hR1 : 0 < R.length := List.length_pos_iff.2 (by rw [hR]; exact splL_ne _ _)
      obtain ⟨lb, hlb⟩ : ∃ a, (ofS R)[R.length - 1]? = some a := ⟨_, List.getElem?_eq_getElem (by omega)⟩
      obtain ⟨fb, hfb⟩ : ∃ a, (ofS R)[0]? = some a := ⟨_, List.getElem?_eq_getElem (by omega)⟩
      have hlR := ofS_at hlb
      have hfR := ofS_at hfb
      have CN := fun w' => l01Number_any lb w'
      have hri1 : (0 : Int) ≤ (R.length : Int) - 1 := by omega
      have hri2 : (R.length : Int) - 1 < (R.length : Int) := by omega
      have ert : ((R.length : Int) - 1).toNat = R.length - 1 := by omega
      have hri3 : (0 : Int) < (R.length : Int) := by omega
      have HPK := hid hp
      have HRE := hid hR
      have HRL := hid hRl
      have HLB := hid hlb
      have HFB := hid hfb
      have HLR := hid hlR
      have HFR := hid hfR
      have HBX := hid hbx
      have HOE := hid hoE
      have HBL := hid hbl
      have hbls := hbl.size
      clear hp hpb hpl hR hRl hlb hfb hlR hfR hbx hoE hbl hps
      cases hn : rdNb lb.data.toList
      · have HN := hid (show readLx s = none by
          have hl : lineE p = none := by
            unfold lineE
            split
            · rename_i a c hs2
              have h1 := HLR.out
              rw [HRE.out, hs2] at h1
              simp at h1
              have h2 : rdN c = none := by
                rw [h1]
                unfold rdNb at hn
                cases hx : rdN lb.data.toList with
                | none => rfl
                | some n => rw [hx] at hn; cases hn
              rw [h2]; rfl
            · rfl
          unfold readLx
          rw [HP.out]
          simp only
          rw [mapO_none (List.mem_of_getElem? HPK.out) hl])
        have HZ := hid (rdLx_none HN.out)
        rw [hn] at CN
        go_wp2_with fail
        refine (CS wr).mono ?_
        rintro en w2 ⟨v2, rfl, ho2, hb2⟩
        obtain ⟨g2, cap2, hv2, hg2, c2⟩ := own_str ho2 HLB.out
        rw [HRL.out] at hv2
        subst hv2
        go_wp2_with fail
        refine (CN w2).mono ?_
        rintro en w3 ⟨rfl, hb3⟩
        have bx3 := (bxr.later hb2).later hb3
        have b0 := bx3.cell (j := 0) rfl
        have bf := bx3.free
        go_wp2_with fail
        refine bodyPost_ret (v := .tuple #[.agg #[.slice none 0 0], .bool false]) (by simp [results, Tryd.results5, go_sem, b0]) rfl (finish _ _ _ _ HZ (Own.nil _ _ _) ?_)
        exact ((hbr.trans (hb2.mono hbr.size)).trans (hb3.mono (Nat.le_trans hbr.size hb2.size))).setCell hge1 _
      · by_cases h2 : R.length = 2
        case neg =>
          have HN := hid (show readLx s = none by
            have hl : lineE p = none := by
              unfold lineE
              split
              · rename_i a c hs2
                have : R.length = 2 := by rw [HRE.out, hs2]; rfl
                exact absurd this h2
              · rfl
            unfold readLx
            rw [HP.out]
            simp only
            rw [mapO_none (List.mem_of_getElem? HPK.out) hl])
          have HZ := hid (rdLx_none HN.out)
          have h2i : ¬ ((R.length : Int) = 2) := by omega
          have h2b : ((R.length : Int) != 2) = true := by rw [bne_iff_ne]; exact h2i
          rw [hn] at CN
          go_wp2_with fail
          refine (CS wr).mono ?_
          rintro en w2 ⟨v2, rfl, ho2, hb2⟩
          obtain ⟨g2, cap2, hv2, hg2, c2⟩ := own_str ho2 HLB.out
          rw [HRL.out] at hv2
          subst hv2
          go_wp2_with fail
          refine (CN w2).mono ?_
          rintro en w3 ⟨rfl, hb3⟩
          have bx3 := (bxr.later hb2).later hb3
          have b0 := bx3.cell (j := 0) rfl
          have bf := bx3.free
          go_wp2_with fail
          refine bodyPost_ret (v := .tuple #[.agg #[.slice none 0 0], .bool false]) (by simp [results, Tryd.results5, go_sem, b0]) rfl (finish _ _ _ _ HZ (Own.nil _ _ _) ?_)
          exact ((hbr.trans (hb2.mono hbr.size)).trans (hb3.mono (Nat.le_trans hbr.size hb2.size))).setCell hge1 _
        have h2b : ((R.length : Int) != 2) = false := by rw [h2]; rfl
        have H2B := hid h2b
        clear h2b
        obtain ⟨n, hnn⟩ : ∃ n, rdN lb.data.toList = some n := by
          unfold rdNb at hn
          cases hx : rdN lb.data.toList with
          | none => rw [hx] at hn; cases hn
          | some n => exact ⟨n, rfl⟩
        have hle' : lineE p = some ⟨fb, n⟩ := by
          have h4 : splL 32 p = [fb.data.toList, lb.data.toList] := by
            rw [← HRE.out]
            have h5 := HLR.out
            have h6 := HFR.out
            rw [h2] at h5
            match R, h2, h5, h6 with
            | [a, c], _, h5, h6 => simp at h5 h6; rw [h5, h6]
          unfold lineE
          rw [h4]
          simp only [hnn, Option.map_some]
        have HM2 := hid (mapO_take HM.out HPK.out hle')
        rw [hn, (rdNv_some hnn).1] at CN
        have HR2 := hid h2
        have hXl : X.length ≤ 1048576 := by omega
        clear hle' hnn h2
        go_wp2_with fail
        refine (CS wr).mono ?_
        rintro en w2 ⟨v2, rfl, ho2, hb2⟩
        obtain ⟨g2, cap2, hv2, hg2, c2⟩ := own_str ho2 HLB.out
        rw [HRL.out] at hv2
        subst hv2
        obtain ⟨g2', cap2', hv2', _, c3⟩ := own_str ho2 HFB.out
        simp only [Value.slice.injEq, Option.some.injEq, Addr.mk.injEq, and_true] at hv2'
        obtain ⟨rfl, hx2, rfl⟩ := hv2'
        clear hx2
        go_wp2_with fail
        refine (CN w2).mono ?_
        rintro en w3 ⟨rfl, hb3⟩
        have z3 := cell_later hb3 c3
        have h2b := H2B.out
        have hbx3 := (HBX.out.later hb2).later hb3
        have hoE3 := (HOE.out.below hb2).below hb3
        have hb23 := hb2.trans (hb3.mono hb2.size)
        have hbl3 := HBL.out.trans (hb23.mono (Nat.le_of_lt hrq))
        have a1 := hbx3.cell (j := 0) rfl
        have hlt3 := hbx3.lt
        have HBX3 := hid hbx3
        have HO3 := hid hoE3
        have HBL3 := hid hbl3
        clear hbx3 hoE3 hbl3 CS CN c2 c3 hn
        go_upto_region 12 with fail
        refine wp_region_stg 8 10 (fun c w' => match c with | 0 => Below w3.heap.size w3 w' | 1 => (Box w' q #[.slice oa X.length oc] 24 ∧ Below q w3 w') | _ => FinX eEntry 40 24 q w4 (X ++ [(⟨fb, n⟩ : DEntry)]) w') (fun c i v w' => match i with
              | 0 => v = .pointer (some ⟨q, 0, none⟩)
              | 1 => v = .slice oa X.length oc
              | 2 => v = .slice (some ⟨g2, 0, none⟩) R.length cap2
              | 3 => v = .pointer (some ⟨g2, 0, none⟩)
              | 4 => v = .string fb
              | 5 => v = .int .i64 n
              | 6 => v = .agg #[.string fb, .int .i64 n]
              | 7 => (match c with | 0 => (Arr eEntry w' v [(⟨fb, n⟩ : DEntry)]) | 1 => True | _ => True)
              | 8 => (match c with | 0 => True | 1 => (Own eEntry 40 (q + 1) w' v (X ++ [(⟨fb, n⟩ : DEntry)])) | _ => True)
              | 9 => v = .pointer (some ⟨q, 0, none⟩)
              | 10 => (match c with | 0 => True | 1 => True | _ => True)
              | _ => True) (by kernel_rfl) (by kernel_rfl) (by kernel_rfl) (by kernel_rfl) (by kernel_rfl) ?_ ?_ ?_ ?_ ?_ ?_ (by decide) ?_
        · exact (Below.refl _ w3).drew
        · intro c w w' h hb
          match c, h with
          | 0, h => exact Below.trans (B := w3.heap.size) h (hb.mono (Below.size h))
          | 1, h => exact ⟨h.1.later hb, h.2.trans (hb.mono (Nat.le_of_lt h.1.lt))⟩
          | (k + 2), h => exact (FinX.below h hb)
        · intro c i v w w' h hb
          match i, h with
          | 0, h => exact h
          | 1, h => exact h
          | 2, h => exact h
          | 3, h => exact h
          | 4, h => exact h
          | 5, h => exact h
          | 6, h => exact h
          | 7, h =>
            match c, h with
            | 0, h => exact h.below hb
            | 1, h => exact trivial
            | (k + 2), h => exact trivial
          | 8, h =>
            match c, h with
            | 0, h => exact trivial
            | 1, h => exact h.below hb
            | (k + 2), h => exact trivial
          | 9, h => exact h
          | 10, h =>
            match c, h with
            | 0, h => exact trivial
            | 1, h => exact trivial
            | (k + 2), h => exact trivial
          | (k + 11), h => exact h
        · refine ⟨?_, ?_, ?_, ?_, ?_, ?_, ?_, ?_, ?_, ?_, ?_, trivial⟩
          · refine .inr (.inr ⟨fun _ => ?_, can_no (by kernel_rfl), can_no (by kernel_rfl)⟩)
            · intro ρ w' hbw ht hcs hfn hgl hdep G hG
              replace hbw : Below w3.heap.size w3 w' := hbw
              refine ⟨fun _ => ?_, fun h => by cases h⟩
              have s5 : ρ (.tmp 5) = .pointer (some ⟨q, 0, none⟩) := ht 5 rfl
              clear ht hdep hgl
              go_simp
              exact hG _ _ (Below.refl _ _) rfl
          · refine .inr (.inr ⟨fun _ => ?_, can_no (by kernel_rfl), can_no (by kernel_rfl)⟩)
            · intro ρ w' hbw ht hcs hfn hgl hdep G hG
              replace hbw : Below w3.heap.size w3 w' := hbw
              refine ⟨fun _ => ?_, fun h => by cases h⟩
              have s51 : ρ (.tmp 51) = .pointer (some ⟨q, 0, none⟩) := hdep ⟨0, .data⟩ (by simp) rfl 51 rfl
              have a1 := cell_later hbw a1
              have z3 := cell_later hbw z3
              clear ht hdep hgl
              go_simp
              exact hG _ _ (Below.refl _ _) rfl
          · refine .inr (.inr ⟨fun _ => ?_, can_no (by kernel_rfl), can_no (by kernel_rfl)⟩)
            · intro ρ w' hbw ht hcs hfn hgl hdep G hG
              replace hbw : Below w3.heap.size w3 w' := hbw
              refine ⟨fun _ => ?_, fun h => by cases h⟩
              have s7 : ρ (.tmp 7) = .slice (some ⟨g2, 0, none⟩) R.length cap2 := ht 7 rfl
              clear ht hdep hgl
              go_simp
              exact hG _ _ (Below.refl _ _) rfl
          · refine .inr (.inr ⟨fun _ => ?_, can_no (by kernel_rfl), can_no (by kernel_rfl)⟩)
            · intro ρ w' hbw ht hcs hfn hgl hdep G hG
              replace hbw : Below w3.heap.size w3 w' := hbw
              refine ⟨fun _ => ?_, fun h => by cases h⟩
              have s53 : ρ (.tmp 53) = .slice (some ⟨g2, 0, none⟩) R.length cap2 := hdep ⟨2, .data⟩ (by simp) rfl 53 rfl
              clear ht hdep hgl
              go_simp
              exact hG _ _ (Below.refl _ _) rfl
          · refine .inr (.inr ⟨fun _ => ?_, can_no (by kernel_rfl), can_no (by kernel_rfl)⟩)
            · intro ρ w' hbw ht hcs hfn hgl hdep G hG
              replace hbw : Below w3.heap.size w3 w' := hbw
              refine ⟨fun _ => ?_, fun h => by cases h⟩
              have s54 : ρ (.tmp 54) = .pointer (some ⟨g2, 0, none⟩) := hdep ⟨3, .data⟩ (by simp) rfl 54 rfl
              have a1 := cell_later hbw a1
              have z3 := cell_later hbw z3
              clear ht hdep hgl
              go_simp
              exact hG _ _ (Below.refl _ _) rfl
          · refine .inr (.inr ⟨fun _ => ?_, can_no (by kernel_rfl), can_no (by kernel_rfl)⟩)
            · intro ρ w' hbw ht hcs hfn hgl hdep G hG
              replace hbw : Below w3.heap.size w3 w' := hbw
              refine ⟨fun _ => ?_, fun h => by cases h⟩
              have s8 : ρ (.tmp 8) = .int .i64 n := ht 8 rfl
              clear ht hdep hgl
              go_simp
              exact hG _ _ (Below.refl _ _) rfl
          · refine .inr (.inr ⟨fun _ => ?_, can_no (by kernel_rfl), can_no (by kernel_rfl)⟩)
            · intro ρ w' hbw ht hcs hfn hgl hdep G hG
              replace hbw : Below w3.heap.size w3 w' := hbw
              refine ⟨fun _ => ?_, fun h => by cases h⟩
              have s55 : ρ (.tmp 55) = .string fb := hdep ⟨4, .data⟩ (by simp) rfl 55 rfl
              have s56 : ρ (.tmp 56) = .int .i64 n := hdep ⟨5, .data⟩ (by simp) rfl 56 rfl
              clear ht hdep hgl
              go_simp
              exact hG _ _ (Below.refl _ _) rfl
          · refine .inr (.inr ⟨fun _ => ?_, can_no (by kernel_rfl), can_no (by kernel_rfl)⟩)
            · intro ρ w' hbw ht hcs hfn hgl hdep G hG
              replace hbw : Below w3.heap.size w3 w' := hbw
              refine ⟨fun _ => ?_, fun h => by cases h⟩
              have s57 : ρ (.tmp 57) = .agg #[.string fb, .int .i64 n] := hdep ⟨6, .data⟩ (by simp) rfl 57 rfl
              clear ht hdep hgl
              go_simp
              exact hG _ _ (below_alloc _ _) (arr_block1 (E := eEntry) (n := 1) [(⟨fb, n⟩ : DEntry)] #[.string fb, .int .i64 n] rfl rfl (by decide) (by simp))
          · exact .inl rfl
          · refine .inr (.inr ⟨fun _ => ?_, fun _ => ?_, can_no (by kernel_rfl)⟩)
            · intro ρ w' hbw ht hcs hfn hgl hdep G hG
              replace hbw : Below w3.heap.size w3 w' := hbw
              refine ⟨fun _ => ?_, fun h => by cases h⟩
              have s5 : ρ (.tmp 5) = .pointer (some ⟨q, 0, none⟩) := ht 5 rfl
              clear ht hdep hgl
              go_simp
              exact hG _ _ (Below.refl _ _) rfl
            · intro ρ w' hbw ht hcs hfn hgl hdep G hG
              replace hbw : (Box w' q #[.slice oa X.length oc] 24 ∧ Below q w3 w') := hbw
              refine ⟨fun _ => ?_, fun h => by cases h⟩
              have s5 : ρ (.tmp 5) = .pointer (some ⟨q, 0, none⟩) := ht 5 rfl
              clear ht hdep hgl
              go_simp
              exact hG _ _ (Below.refl _ _) rfl
          · exact .inr (.inl rfl)
        · intro o ho
          obtain rfl := Option.some.inj ho
          intro ρ w' hbw ht hcs hfn hgl hdep G hG
          replace hbw : Below w3.heap.size w3 w' := hbw
          refine ⟨fun _ => ?_, fun h => by cases h⟩
          have s52 : ρ (.tmp 52) = .slice oa X.length oc := hdep ⟨1, .data⟩ (by simp) rfl 52 rfl
          have d58 := hdep ⟨7, .data⟩ (by simp) rfl 58 rfl
          clear ht hdep hgl
          refine upon_appO _ _ 22 (by rfl) (q + 1) 40 _ 24 infEntR Tryd.underlying22 rfl _ X s52 (HO3.out.below hbw) [(⟨fb, n⟩ : DEntry)] d58 (by unfold maxLen; simp <;> omega) (by simp <;> omega) (by have := hbw.size; omega) ?_
          intro v' wA hoA hgA hlA
          refine hG _ _ ⟨grownBoxX (HBX3.out.later hbw) hgA (by intro hh; have := (World.ownsRow.lt (HO3.out.below hbw) q hh).1; omega), (hbw.mono (Nat.le_of_lt hlt3)).grown hgA (by have := hbw.size; omega) (fun kk hh => by have := (World.ownsRow.lt (HO3.out.below hbw) kk hh).1; omega)⟩ hoA ?_
          intro j u hj hne h
          match j, h with
          | 0, h => exact h
          | 1, h => exact h
          | 2, h => exact h
          | 3, h => exact h
          | 4, h => exact h
          | 5, h => exact h
          | 6, h => exact h
          | 7, h => exact trivial
          | 8, h => exact absurd rfl hne
          | 9, h => exact h
          | 10, h => exact trivial
          | (k + 11), h => exact h
        · intro o ho
          obtain rfl := Option.some.inj ho
          intro ρ w' hbw ht hcs hfn hgl hdep G hG
          replace hbw : (Box w' q #[.slice oa X.length oc] 24 ∧ Below q w3 w') := hbw
          refine ⟨fun _ => ?_, fun h => by cases h⟩
          have s60 : ρ (.tmp 60) = .pointer (some ⟨q, 0, none⟩) := hdep ⟨9, .data⟩ (by simp) rfl 60 rfl
          have d59 := hdep ⟨8, .data⟩ (by simp) rfl 59 rfl
          clear ht hdep hgl
          have h59 : Own eEntry 40 (q + 1) w' (ρ (.tmp 59)) (X ++ [(⟨fb, n⟩ : DEntry)]) := d59
          obtain ⟨ua, uc, hu⟩ := h59.isSlice
          rw [show (X ++ [(⟨fb, n⟩ : DEntry)]).length = X.length + 1 by simp] at hu
          rw [hu] at h59
          have f0 := hbw.1.cell (j := 0) rfl
          have ff := hbw.1.free
          have hx := hid (show FinX eEntry 40 24 q w4 (X ++ [(⟨fb, n⟩ : DEntry)]) (w'.setCell ⟨q, 0, none⟩ (.slice ua (X.length + 1) uc)) from ⟨_, hbw.1.set 0 _, h59.setBelow (Nat.lt_succ_self q) _, (HBL3.out.trans hbw.2).setCell (Nat.le_refl _) _⟩)
          clear h59
          go_simp
          refine hG _ _ hx.out trivial ?_
          intro j u hj hne h
          match j, h with
          | 0, h => exact h
          | 1, h => exact h
          | 2, h => exact h
          | 3, h => exact h
          | 4, h => exact h
          | 5, h => exact h
          | 6, h => exact h
          | 7, h => exact trivial
          | 8, h => exact trivial
          | 9, h => exact h
          | 10, h => exact trivial
          | (k + 11), h => exact h
        intro xx w6 hF hx
        clear hx
        simp only [putAll, Act.put, List.setIfInBounds_toArray, List.set_cons_succ, List.set_cons_zero, Nat.zero_add, Nat.reduceAdd]
        go_wp2_with fail
        go_roundw
        case rel => exact ⟨k + 1, X ++ [⟨fb, n⟩], by omega, by go_num, hF, HM2, by simp; omega⟩
        case measure => simp [intOf]; omega
    · obtain rfl : k = P.length := by omega
      have hki : ¬ ((P.length : Int) + 1 < (Q.length : Int)) := by have := HPL.out; omega
      have hM : mapO lineE P = some X := by have := HM.out; rw [List.take_length] at this; exact this
      have a1 := hbx.cell (j := 0) rfl
      have okX : okLexicon X := by unfold okLexicon; omega
      have gX : goodLexicon X := by rw [← (mapO_cand hM).1]; exact goodCand HP.out hs
      have CV := l16Ok_any q _ X wr a1 hoE.arr okX gX
      cases hv : validLx X
      · have HN := hid (show readLx s = none by unfold readLx; rw [HP.out]; simp only; rw [hM]; simp only; rw [hv]; rfl)
        have HZ := hid (rdLx_none HN.out)
        rw [hv] at CV
        clear hM
        go_wp2_with fail
        refine CV.mono ?_
        rintro en w2 ⟨rfl, hb2⟩
        have bx2 := bxr.later hb2
        have b0 := bx2.cell (j := 0) rfl
        have bf := bx2.free
        go_wp2_with fail
        refine bodyPost_ret (v := .tuple #[.agg #[.slice none 0 0], .bool false]) (by simp [results, Tryd.results5, go_sem, b0]) rfl (finish _ _ _ _ HZ (Own.nil _ _ _) ?_)
        exact (hbr.trans (hb2.mono hbr.size)).setCell hge1 _
      · have HN := hid (show readLx s = some X by unfold readLx; rw [HP.out]; simp only; rw [hM]; simp only; rw [hv]; rfl)
        have HZ := hid (rdLx_some HN.out)
        rw [hv] at CV
        clear hM
        go_wp2_with fail
        refine CV.mono ?_
        rintro en w2 ⟨rfl, hb2⟩
        have bx2 := bxr.later hb2
        have b0 := bx2.cell (j := 0) rfl
        have bf := bx2.free
        have a2 := cell_later hb2 a1
        have ho2 := hoE.below hb2
        go_wp2_with fail
        refine bodyPost_ret (v := .tuple #[.agg #[.slice oa X.length oc], .bool true]) (by simp [results, Tryd.results5, go_sem, b0]) rfl (finish _ _ _ _ HZ ((ho2.setBelow (a := ⟨p1, 0, none⟩) (by show p1 < q + 1; omega) _).mono (by omega)) ?_)
        exact (hbr.trans (hb2.mono hbr.size)).setCell hge1 _
end Go.Proofs.YtbgjojnjbplblaaDoor
