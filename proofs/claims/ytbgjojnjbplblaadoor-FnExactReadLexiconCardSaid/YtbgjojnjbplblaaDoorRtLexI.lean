/- A lexicon read from its text: the implementation's call. -/
import Derived.Test.YtbgjojnjbplblaaDoorRtLib
import Derived.Test.YtbgjojnjbplblaaDoorRtLexS
namespace Go.Proofs.YtbgjojnjbplblaaDoor
open Go.RowKit

def candT (P : List (List UInt8)) (k : Nat) : XLexicon := (P.take k).map candE
theorem candT_len {P : List (List UInt8)} {k : Nat} (h : k ≤ P.length) : (candT P k).length = k := by unfold candT; rw [List.length_map, List.length_take]; omega
theorem candT_next {P : List (List UInt8)} {k : Nat} {p : List UInt8} (hp : P[k]? = some p) : candT P k ++ [candE p] = candT P (k + 1) := by
  unfold candT
  rw [List.take_add_one, hp, Option.toList_some, List.map_append]
  rfl
theorem candT_all (P : List (List UInt8)) : candT P P.length = P.map candE := by unfold candT; rw [List.take_length]
set_option maxRecDepth 100000 in
set_option maxHeartbeats 8000000 in
theorem implReadLexicon_any (s : ByteArray) (w : World) (hs : s.size ≤ 1048576) (ht : TabR w) : Calls Tryd.prog 6 #[.string s] w (RetNew rLexicon (rdLx s) #[.bool (rdLxB s)] w) := by
  obtain ⟨W, hW⟩ : ∃ u, u = (w.alloc (.cells #[.slice none 0 0] 24)) := ⟨_, rfl⟩
  have hbW : Below w.heap.size w W := by rw [hW]; exact belowA1 _ _
  have q1 : Box W (w.heap.size) #[.slice none 0 0] 24 := by
    have hq := Box.new w #[.slice none 0 0] 24
    rw [hW]
    exact hq
  obtain ⟨p1, hp1⟩ : ∃ p, p = w.heap.size := ⟨_, rfl⟩
  rw [← hp1] at q1
  have hge1 : w.heap.size ≤ p1 := by omega
  have hlW : w.heap.size ≤ W.heap.size := hbW.size
  have hlp1 : p1 < W.heap.size := q1.lt
  have HP1 := hid hp1
  have HW := hid hW
  clear hW hp1
  have finish : ∀ (w' : World) (u : Value) (z : XLexicon) (c : Bool), Hid (rdLx s = z ∧ rdLxB s = c) → Own eEntry 40 w.heap.size w' u z → Below w.heap.size w w' → RetNew rLexicon (rdLx s) #[.bool (rdLxB s)] w (.returned (.tuple #[.agg #[u], .bool c])) w' := by
    intro w' u z c hz ho hb
    rw [hz.out.1, hz.out.2]
    exact ⟨_, rfl, rLxR_new ho (Nat.le_refl _), hb⟩
  have htW := ht.below hbW
  have CL := linesOf_any s W hs htW.max
  cases hP : linesL s.data.toList with
  | none =>
    rw [hP] at CL
    have HZ := hid (rdLx_none (readLx_no hP))
    go_enter Tryd.func6, Tryd.ntmps6
    go_wp2_with fail
    rw [← HP1.out, ← HW.out]
    refine CL.mono ?_
    rintro en w1 ⟨rfl, hb1⟩
    have bx1 := q1.later hb1
    have b0 := bx1.cell (j := 0) rfl
    have bf := bx1.free
    clear hP
    go_wp2_with fail
    refine bodyPost_ret (v := .tuple #[.agg #[.slice none 0 0], .bool false]) (by simp [results, Tryd.results6, go_sem, b0]) rfl (finish _ _ _ _ HZ (Own.nil _ _ _) ?_)
    exact (hbW.trans (hb1.mono hlW)).setCell hge1 _
  | some P =>
    rw [hP] at CL
    have hPlen := linesL_len hP
    have hsl : s.data.toList.length = s.size := by rw [Array.length_toList]; rfl
    rw [hsl] at hPlen
    have hPs : ∀ p ∈ P, p.length ≤ 1048576 := fun p hp => by
      have h1 : p ∈ splL 10 s.data.toList := by rw [(linesL_some hP).1]; exact List.mem_append_left _ hp
      have h2 := splL_plen h1
      rw [hsl] at h2
      omega
    have hgood := goodCand hP hs
    have hiff := readLx_iff s hP
    have HP := hid hP
    have HPS := hid hPs
    have HGD := hid hgood
    have HIF := hid hiff
    clear hP hPs hgood hiff hsl
    go_enter Tryd.func6, Tryd.ntmps6
    go_wp2_with fail
    rw [← HP1.out, ← HW.out]
    refine CL.mono ?_
    rintro en w1 ⟨⟨v1, rfl, ho1⟩, hb1⟩
    clear CL
    have hPl : (ofS P).length = P.length := ofS_len P
    obtain ⟨la, lc, hv1⟩ := ho1.isSlice
    rw [hPl] at hv1
    subst hv1
    have hbs1 := hb1.size
    have hbE1 := hbW.trans (hb1.mono hlW)
    have bx1 := q1.later hb1
    have ht1 := htW.below hb1
    have HPL := hid hPl
    clear hPl
    go_upto_region 5 with fail
    obtain ⟨q, hq⟩ : ∃ q, q = w1.heap.size := ⟨_, rfl⟩
    obtain ⟨w4, hw4⟩ : ∃ u, u = w1.alloc (.cells #[.slice none 0 0] 24) := ⟨_, rfl⟩
    rw [← hw4, ← hq]
    have hx4 : FinX eEntry 40 24 q w4 [] w4 := by rw [hw4, hq]; exact ⟨_, Box.new _ _ _, Own.nil _ _ _, Below.refl _ _⟩
    have hb4 : Below w1.heap.size w1 w4 := by rw [hw4]; exact below_alloc _ _
    have bx4 := bx1.later hb4
    have ht4 := ht1.below hb4
    have hpq : p1 < q := by have := bx1.lt; omega
    have hwq : w.heap.size ≤ q := by have := hbE1.size; omega
    have hbE4 := hbE1.trans (hb4.mono (by omega))
    have hPc : ∀ (u : World), Below q w4 u → ∀ (k : Nat) (p : List UInt8), P[k]? = some p → ∃ g, la = some ⟨g, 0, none⟩ ∧ u.cell? ⟨g, k, none⟩ = some (.string ⟨p.toArray⟩) := fun u hb k p hk => by
      obtain ⟨g', cap', hv', hg', hc'⟩ := own_str ho1 (ofS_get hk)
      simp only [Value.slice.injEq] at hv'
      obtain ⟨rfl, _, rfl⟩ := hv'
      exact ⟨g', rfl, below_cell hb (by omega) (cell_later hb4 hc')⟩
    have HPC := hid hPc
    have htq : ∀ (u : World), Below q w4 u → TabR u := fun u hb => by
      have hg3 : 3 < q := by have := ht1.tab.lt; omega
      obtain ⟨tp, p, he⟩ := ht1.err
      obtain ⟨m, hm⟩ := ht1.max
      have l1 : 1 < q := by have := cell_lt he; omega
      have l2 : 0 < q := by have := cell_lt hm; omega
      exact ⟨ht4.tab.on hb hg3, ⟨tp, p, below_cell hb l1 (cell_later hb4 he)⟩, ⟨m, below_cell hb l2 (cell_later hb4 hm)⟩⟩
    have HTQ := hid htq
    clear hw4 hq hPc htq bx1
    go_wp2_with fail
    go_loopw [24] (fun i wr => ∃ k : Nat, k ≤ P.length ∧ i = .int .i64 k ∧ FinX eEntry 40 24 q w4 (candT P k) wr) (fun i _ => P.length - (intOf i).toNat)
    case atStart => exact ⟨0, Nat.zero_le _, rfl, hx4⟩
    case round =>
      clear hx4
      obtain ⟨k, hk, rfl, ⟨u, hbx, hoE, hbl⟩⟩ := hrel
      have hXl : (candT P k).length = k := candT_len hk
      obtain ⟨oa, oc, hu⟩ := hoE.isSlice
      rw [hXl] at hu
      subst hu
      have hbr := hbE4.trans (hbl.mono hwq)
      have bxr := bx4.below hbl hpq
      have hrq := hbx.lt
      have htr := HTQ.out wr hbl
      by_cases hlt : k < P.length
      · have hli : (k : Int) < (P.length : Int) := by omega
        obtain ⟨p, hp⟩ : ∃ p, P[k]? = some p := ⟨_, List.getElem?_eq_getElem hlt⟩
        obtain ⟨g, hla, c0⟩ := HPC.out wr hbl k p hp
        subst hla
        obtain ⟨pb, hpb⟩ : ∃ pb : ByteArray, pb = ⟨p.toArray⟩ := ⟨_, rfl⟩
        have hpl : pb.data.toList = p := by rw [hpb]
        rw [← hpb] at c0
        have hps : pb.size ≤ 1048576 := by
          have h1 := HPS.out p (List.mem_of_getElem? hp)
          rw [hpb]
          show p.toArray.size ≤ _
          simpa using h1
        have CC := cutR_any 32 pb wr hps htr.max
        rw [hpl] at CC
        obtain ⟨wb, hwb⟩ : ∃ wb : ByteArray, wb = ⟨(Lib.cut p [32]).1.toArray⟩ := ⟨_, rfl⟩
        obtain ⟨cb, hcb⟩ : ∃ cb : ByteArray, cb = ⟨(Lib.cut p [32]).2.1.toArray⟩ := ⟨_, rfl⟩
        have hcl : cb.data.toList = (Lib.cut p [32]).2.1 := by rw [hcb]
        have hcs : cb.size ≤ 1048576 := by
          have h1 := HPS.out p (List.mem_of_getElem? hp)
          have h2 : (Lib.cut p [32]).2.1.length ≤ p.length := by
            unfold Lib.cut
            split
            · simp
            · simp
          rw [hcb]
          show (Lib.cut p [32]).2.1.toArray.size ≤ _
          rw [List.size_toArray]
          omega
        rw [← hwb, ← hcb] at CC
        obtain ⟨n, hn⟩ : ∃ n, n = rdNv cb.data.toList := ⟨_, rfl⟩
        obtain ⟨f, hf⟩ : ∃ f, f = rdNb cb.data.toList := ⟨_, rfl⟩
        have CD := fun w' (hb : Below wr.heap.size wr w') => ReadDecimal_any cb w' hcs (htr.below hb)
        rw [← hn, ← hf] at CD
        have HE := hid (show candT P k ++ [(⟨wb, n⟩ : DEntry)] = candT P (k + 1) by
          rw [← candT_next hp]
          congr 1
          show [_] = [candE p]
          unfold candE
          rw [← hwb, ← hcl, hn])
        have HBX := hid hbx
        have HOE := hid hoE
        have HBL := hid hbl
        have HXL := hid hXl
        generalize (Lib.cut p [32]).2.2 = bb at *
        clear hp hpb hpl hps hwb hcb hcl hn hf hcs hbx hoE hbl hXl
        go_wp2_with fail
        refine CC.mono ?_
        rintro en w2 ⟨rfl, hb2⟩
        go_wp2_with fail
        refine (CD w2 hb2).mono ?_
        rintro en w3 ⟨rfl, hb3⟩
        have hb23 := hb2.trans (hb3.mono hb2.size)
        have hbx3 := HBX.out.later hb23
        have hoE3 := HOE.out.below hb23
        have hbl3 := HBL.out.trans (hb23.mono (Nat.le_of_lt hrq))
        have a1 := hbx3.cell (j := 0) rfl
        have hlt3 := hbx3.lt
        clear CC CD
        go_wp2_with (at_builtin; refine wpList_appA rfl _ _ 22 rfl (q + 1) 40 _ 24 infEntR Tryd.underlying22 rfl _ (candT P k) (by rfl) (hoE3.alloc _) _ [(⟨wb, n⟩ : DEntry)] (by rfl) (arr_block (E := eEntry) (n := 1) [(⟨wb, n⟩ : DEntry)] #[.string wb, .int .i64 n] rfl rfl (by decide)) (by have := HXL.out; unfold maxLen; simp <;> omega) (by have := HXL.out; simp <;> omega) (by simp <;> omega) ?_)
        intro u6 w6 ho6 hb6 _
        obtain ⟨ua, uc, hu6⟩ := ho6.isSlice
        rw [HE.out] at hu6 ho6
        rw [candT_len (show k + 1 ≤ P.length by omega)] at hu6
        subst hu6
        have bx6 := (hbx3.alloc (.cells #[.string wb, .int .i64 n] 40)).below hb6 (Nat.lt_succ_self q)
        have f0 := bx6.cell (j := 0) rfl
        have ff := bx6.free
        have HF := hid (show FinX eEntry 40 24 q w4 (candT P (k + 1)) (w6.setCell ⟨q, 0, none⟩ (.slice ua (k + 1) uc)) from ⟨_, bx6.set 0 _, ho6.setBelow (Nat.lt_succ_self q) _, ((hbl3.alloc (Nat.le_of_lt hlt3) _).trans (hb6.mono (Nat.le_succ q))).setCell (Nat.le_refl _) _⟩)
        clear ho6 hb6 a1 hbx3 hoE3 hbl3
        go_wp2_with fail
        go_roundw
        case rel => exact ⟨k + 1, by omega, by go_num, HF.out⟩
        case measure => simp [intOf]; omega
      · obtain rfl : k = P.length := by omega
        have hli : ¬ ((P.length : Int) < (P.length : Int)) := by omega
        rw [candT_all] at hoE hXl
        obtain ⟨X, hX⟩ : ∃ X, X = P.map candE := ⟨_, rfl⟩
        have hif := HIF.out
        have gX := HGD.out
        rw [← hX] at hoE hXl hif gX
        have okX : okLexicon X := by unfold okLexicon; omega
        rw [← hXl] at hoE hbx
        have a1 := hbx.cell (j := 0) rfl
        have hat : ∀ (w' : World), Below wr.heap.size wr w' → rLexicon.at_ 0 w'.heap.size w' (.agg #[.slice oa X.length oc]) X := fun w' hb => ⟨_, rfl, (hoE.arr.below hb).in_⟩
        have CV := implValidLexicon_any _ X wr (hat wr (Below.refl _ _)) okX gX
        have HXL := hid hXl
        clear hX hXl
        cases hv : validLx X
        · have HZ := hid (rdLx_none (show readLx s = none by rw [hif, hv]; rfl))
          rw [hv] at CV
          go_wp2_with fail
          rw [← HXL.out]
          refine CV.mono ?_
          rintro en w2 ⟨rfl, hb2⟩
          have bx2 := bxr.later hb2
          have b0 := bx2.cell (j := 0) rfl
          have bf := bx2.free
          go_wp2_with fail
          refine bodyPost_ret (v := .tuple #[.agg #[.slice none 0 0], .bool false]) (by simp [results, Tryd.results6, go_sem, b0]) rfl (finish _ _ _ _ HZ (Own.nil _ _ _) ?_)
          exact (hbr.trans (hb2.mono hbr.size)).setCell hge1 _
        · rw [hv] at CV
          have CT := fun (w' : World) (hb : Below wr.heap.size wr w') => implLexiconText_any _ X w' (hat w' hb) okX gX (htr.below hb).tab
          obtain ⟨TX, hTX⟩ : ∃ TX, TX = lexS X := ⟨_, rfl⟩
          rw [← hTX] at CT
          cases hq : eqS TX s
          · have HZ := hid (rdLx_none (show readLx s = none by rw [hif, hv, ← hTX, hq]; rfl))
            have hq' : (TX.toList == s.toList) = false := hq
            clear hif hTX hq
            go_wp2_with fail
            rw [← HXL.out]
            refine CV.mono ?_
            rintro en w2 ⟨rfl, hb2⟩
            have a2 := cell_later hb2 a1
            go_wp2_with fail
            refine (CT w2 hb2).mono ?_
            rintro en w3 ⟨rfl, hb3⟩
            have hb23 := hb2.trans (hb3.mono hb2.size)
            have bx2 := bxr.later hb23
            have b0 := bx2.cell (j := 0) rfl
            have bf := bx2.free
            clear a2
            go_wp2_with fail
            refine bodyPost_ret (v := .tuple #[.agg #[.slice none 0 0], .bool false]) (by simp [results, Tryd.results6, go_sem, b0]) rfl (finish _ _ _ _ HZ (Own.nil _ _ _) ?_)
            exact (hbr.trans (hb23.mono hbr.size)).setCell hge1 _
          · have HZ := hid (rdLx_some (show readLx s = some X by rw [hif, hv, ← hTX, hq]; rfl))
            have hq' : (TX.toList == s.toList) = true := hq
            clear hif hTX hq
            go_wp2_with fail
            rw [← HXL.out]
            refine CV.mono ?_
            rintro en w2 ⟨rfl, hb2⟩
            have a2 := cell_later hb2 a1
            go_wp2_with fail
            refine (CT w2 hb2).mono ?_
            rintro en w3 ⟨rfl, hb3⟩
            have hb23 := hb2.trans (hb3.mono hb2.size)
            have bx2 := bxr.later hb23
            have b0 := bx2.cell (j := 0) rfl
            have bf := bx2.free
            have a3 := cell_later hb3 a2
            have ho3 := hoE.below hb23
            go_wp2_with fail
            refine bodyPost_ret (v := .tuple #[.agg #[.slice oa X.length oc], .bool true]) (by simp [results, Tryd.results6, go_sem, b0]) rfl (finish _ _ _ _ HZ ((ho3.setBelow (a := ⟨p1, 0, none⟩) (by show p1 < q + 1; omega) _).mono (by omega)) ?_)
            exact (hbr.trans (hb23.mono hbr.size)).setCell hge1 _
end Go.Proofs.YtbgjojnjbplblaaDoor
