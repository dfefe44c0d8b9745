/- A lattice read from its text: the implementation's call. -/
import Derived.Test.YtbgjojnjbplblaaGreatDoorRtLib
import Derived.Test.YtbgjojnjbplblaaGreatDoorRtLatT
namespace Go.Proofs.YtbgjojnjbplblaaGreatDoor
open Go.RowKit

def stN : List (List UInt8) → Nat → Int
  | h :: _, _ + 1 => candN h
  | _, _ => 0
def stX (L : List (List UInt8)) (k : Nat) : List DEdge := ((L.take k).drop 1).map candG
theorem stX_len {L : List (List UInt8)} {k : Nat} (h : k ≤ L.length) : (stX L k).length = k - 1 := by unfold stX; rw [List.length_map, List.length_drop, List.length_take]; omega
theorem st_first {L : List (List UInt8)} {h : List UInt8} (h0 : L[0]? = some h) : stN L 1 = candN h ∧ stX L 1 = [] := by
  cases L with
  | nil => cases h0
  | cons a P => obtain rfl := Option.some.inj h0; exact ⟨rfl, rfl⟩
theorem stN_zero (L : List (List UInt8)) : stN L 0 = 0 := by cases L <;> rfl
theorem stX_zero (L : List (List UInt8)) : stX L 0 = [] := by simp [stX]
theorem st_next {L : List (List UInt8)} {k : Nat} {p : List UInt8} (hk : 0 < k) (hp : L[k]? = some p) : stN L (k + 1) = stN L k ∧ stX L k ++ [candG p] = stX L (k + 1) := by
  obtain ⟨j, rfl⟩ : ∃ j, k = j + 1 := ⟨k - 1, by omega⟩
  refine ⟨by cases L <;> rfl, ?_⟩
  unfold stX
  rw [List.take_add_one (i := j + 1), hp, Option.toList_some, List.drop_append_of_le_length (by rw [List.length_take]; have := (List.getElem?_eq_some_iff.1 hp).1; omega), List.map_append]
  rfl
theorem st_bad0 {s : ByteArray} {L : List (List UInt8)} {h : List UInt8} (hL : linesL s.data.toList = some L) (h0 : L[0]? = some h) (hl : (splL 32 h).length ≠ 2) : readLt s = none := by
  cases L with
  | nil => cases h0
  | cons a P => obtain rfl := Option.some.inj h0; exact readLt_head hL (headN_len hl)
theorem st_bad {s : ByteArray} {L : List (List UInt8)} {k : Nat} {p : List UInt8} (hL : linesL s.data.toList = some L) (hk : 0 < k) (hp : L[k]? = some p) (hl : (splL 32 p).length ≠ 4) : readLt s = none := by
  obtain ⟨j, rfl⟩ : ∃ j, k = j + 1 := ⟨k - 1, by omega⟩
  cases L with
  | nil => cases hp
  | cons a P => exact readLt_line hL (List.mem_of_getElem? (by simpa using hp)) (lineG_len hl)
theorem st_end {s : ByteArray} {L : List (List UInt8)} (hL : linesL s.data.toList = some L) : readLt s = if validLt (stN L L.length, stX L L.length) && eqS (latS (stN L L.length, stX L L.length)) s then some (stN L L.length, stX L L.length) else none := by
  cases L with
  | nil => rw [readLt_nil hL]; rfl
  | cons a P =>
    rw [readLt_iff s hL]
    have e1 : stN (a :: P) (a :: P).length = candN a := rfl
    have e2 : stX (a :: P) (a :: P).length = P.map candG := by unfold stX; rw [List.take_length]; rfl
    rw [e1, e2]
theorem st_good {n : Int} {L : List (List UInt8)} {k : Nat} (hp : ∀ p ∈ L, p.length ≤ 1048576) : goodLattice (n, stX L k) := goodCandG fun p h => hp p (List.mem_of_mem_take (List.mem_of_mem_drop h))
theorem candN_is {h : List UInt8} {A C : ByteArray} (hs : splL 32 h = [A.data.toList, C.data.toList]) : candN h = rdNv C.data.toList := by unfold candN; rw [hs]
theorem candG_is {h : List UInt8} {A B L C : ByteArray} (hs : splL 32 h = [A.data.toList, B.data.toList, L.data.toList, C.data.toList]) : candG h = ⟨rdNv A.data.toList, rdNv B.data.toList, L, rdNv C.data.toList⟩ := by unfold candG; rw [hs]
set_option maxRecDepth 100000 in
set_option maxHeartbeats 8000000 in
theorem implReadLattice_any (s : ByteArray) (w : World) (hs : s.size ≤ 1048576) (ht : TabR w) : Calls Tryz.prog 6 #[.string s] w (RetNew rLattice (rdLt s) #[.bool (rdLtB s)] w) := by
  obtain ⟨W, hW⟩ : ∃ u, u = (w.alloc (.cells #[.int .i64 0, .slice none 0 0] 24)) := ⟨_, rfl⟩
  have hbW : Below w.heap.size w W := by rw [hW]; exact belowA1 _ _
  have q1 : Box W (w.heap.size) #[.int .i64 0, .slice none 0 0] 24 := by
    have hq := Box.new w #[.int .i64 0, .slice none 0 0] 24
    rw [hW]
    exact hq
  obtain ⟨p1, hp1⟩ : ∃ p, p = w.heap.size := ⟨_, rfl⟩
  rw [← hp1] at q1
  have hge1 : w.heap.size ≤ p1 := by omega
  have hlW : w.heap.size ≤ W.heap.size := hbW.size
  have hlp1 : p1 < W.heap.size := q1.lt
  have HP1 := hid hp1
  have HW := hid hW
  clear hW hp1
  have finish := finLt s w
  have htW := ht.below hbW
  have CL := linesOf_any s W hs htW.max
  cases hP : linesL s.data.toList with
  | none =>
    rw [hP] at CL
    have HZ := hid (rdLt_none (readLt_no hP))
    clear hP
    go_enter Tryz.func6, Tryz.ntmps6
    go_upto_region 1 with fail
    rw [← HP1.out, ← HW.out]
    go_wp2_with fail
    refine CL.mono ?_
    rintro en w1 ⟨rfl, hb1⟩
    have bx1 := q1.later hb1
    have b0 := bx1.cell (j := 0) rfl
    have b1 := bx1.cell (j := 1) rfl
    have bf := bx1.free
    go_wp2_with fail
    refine bodyPost_ret (v := .tuple #[.agg #[.int .i64 0, .slice none 0 0], .bool false]) (by simp [results, Tryz.results6, go_sem, b0, b1]) rfl (finish _ _ _ _ _ HZ (Own.nil _ _ _) ?_)
    exact ((hbW.trans (hb1.mono hlW)).setCell hge1 _).setCell hge1 _
  | some P =>
    rw [hP] at CL
    have hPlen := linesL_len hP
    have hsl : s.data.toList.length = s.size := by rw [Array.length_toList]; rfl
    rw [hsl] at hPlen
    have hPs : ∀ p ∈ P, p.length ≤ 1048576 := fun p hp => by
      have h1 : p ∈ splL 10 s.data.toList := by rw [(linesL_some hP).1]; exact List.mem_append_left _ hp
      have h2 := splL_plen h1
      rw [hsl] at h2
      omega
    have HP := hid hP
    have HPS := hid hPs
    clear hP hPs hsl
    go_enter Tryz.func6, Tryz.ntmps6
    go_upto_region 1 with fail
    rw [← HP1.out, ← HW.out]
    go_wp2_with fail
    refine CL.mono ?_
    rintro en w1 ⟨⟨v1, rfl, ho1⟩, hb1⟩
    clear CL
    have hPl : (ofS P).length = P.length := ofS_len P
    obtain ⟨la, lc, hv1⟩ := ho1.isSlice
    rw [hPl] at hv1
    subst hv1
    have hbs1 := hb1.size
    have hbE1 := hbW.trans (hb1.mono hlW)
    have bx1 := q1.later hb1
    have ht1 := htW.below hb1
    have HPL := hid hPl
    clear hPl
    go_upto_region 5 with fail
    obtain ⟨q, hq⟩ : ∃ q, q = w1.heap.size := ⟨_, rfl⟩
    obtain ⟨w4, hw4⟩ : ∃ u, u = w1.alloc (.cells #[.int .i64 0, .slice none 0 0] 24) := ⟨_, rfl⟩
    rw [← hw4, ← hq]
    have hx4 : FinL q w4 0 [] w4 := by rw [hw4, hq]; exact ⟨_, Box.new _ _ _, Own.nil _ _ _, Below.refl _ _⟩
    have hb4 : Below w1.heap.size w1 w4 := by rw [hw4]; exact below_alloc _ _
    have bx4 := bx1.later hb4
    have ht4 := ht1.below hb4
    have hpq : p1 < q := by have := bx1.lt; omega
    have hwq : w.heap.size ≤ q := by have := hbE1.size; omega
    have hbE4 := hbE1.trans (hb4.mono (by omega))
    have hPc : ∀ (u : World), Below q w4 u → ∀ (k : Nat) (p : List UInt8), P[k]? = some p → ∃ g, la = some ⟨g, 0, none⟩ ∧ u.cell? ⟨g, k, none⟩ = some (.string ⟨p.toArray⟩) := fun u hb k p hk => by
      obtain ⟨g', cap', hv', hg', hc'⟩ := own_str ho1 (ofS_get hk)
      simp only [Value.slice.injEq] at hv'
      obtain ⟨rfl, _, rfl⟩ := hv'
      exact ⟨g', rfl, below_cell hb (by omega) (cell_later hb4 hc')⟩
    have HPC := hid hPc
    have htq : ∀ (u : World), Below q w4 u → TabR u := fun u hb => by
      have hg3 : 3 < q := by have := ht1.tab.lt; omega
      obtain ⟨tp, p, he⟩ := ht1.err
      obtain ⟨m, hm⟩ := ht1.max
      have l1 : 0 < q := by have := cell_lt he; omega
      have l2 : 2 < q := by have := cell_lt hm; omega
      exact ⟨ht4.tab.on hb hg3, ⟨tp, p, below_cell hb l1 (cell_later hb4 he)⟩, ⟨m, below_cell hb l2 (cell_later hb4 hm)⟩⟩
    have HTQ := hid htq
    clear hw4 hq hPc htq bx1
    go_wp2_with fail
    go_loopw [21] (fun i wr => ∃ k : Nat, k ≤ P.length ∧ i = .int .i64 k ∧ FinL q w4 (stN P k) (stX P k) wr) (fun i _ => P.length - (intOf i).toNat)
    case atStart => exact ⟨0, Nat.zero_le _, rfl, by rw [stN_zero, stX_zero]; exact hx4⟩
    case round =>
      clear hx4
      obtain ⟨k, hk, rfl, ⟨u, hbx, hoE, hbl⟩⟩ := hrel
      obtain ⟨oa, oc, hu⟩ := hoE.isSlice
      have hXl : (stX P k).length = k - 1 := stX_len hk
      obtain ⟨X, hX⟩ : ∃ X, X = stX P k := ⟨_, rfl⟩
      obtain ⟨nv, hnv⟩ : ∃ n, n = stN P k := ⟨_, rfl⟩
      rw [← hX] at hu hXl hoE
      rw [← hnv] at hbx
      subst hu
      have hbr := hbE4.trans (hbl.mono hwq)
      have bxr := bx4.below hbl hpq
      have hrq := hbx.lt
      have htr := HTQ.out wr hbl
      have HXL := hid hXl
      have HX := hid hX
      have HNV := hid hnv
      clear hXl hX hnv
      by_cases hlt : k < P.length
      · have hli : (k : Int) < (P.length : Int) := by omega
        obtain ⟨p, hp⟩ : ∃ p, P[k]? = some p := ⟨_, List.getElem?_eq_getElem hlt⟩
        obtain ⟨g, hla, c0⟩ := HPC.out wr hbl k p hp
        subst hla
        obtain ⟨pb, hpb⟩ : ∃ pb : ByteArray, pb = ⟨p.toArray⟩ := ⟨_, rfl⟩
        have hpl : pb.data.toList = p := by rw [hpb]
        rw [← hpb] at c0
        have hps : pb.size ≤ 1048576 := by
          have h1 := HPS.out p (List.mem_of_getElem? hp)
          rw [hpb]
          show p.toArray.size ≤ _
          simpa using h1
        have CW := fun w' (hb : Below wr.heap.size wr w') => wordsOf_any pb w' hps (htr.below hb).max
        obtain ⟨Q, hQ⟩ : ∃ R, R = splL 32 p := ⟨_, rfl⟩
        rw [show splB 32 pb = ofS Q by unfold splB; rw [hpl, hQ]] at CW
        have hQl : (ofS Q).length = Q.length := ofS_len Q
        have hqs : ∀ b ∈ ofS Q, b.size ≤ 1048576 := fun b hb => by
          have h1 : b ∈ splB 32 pb := by unfold splB; rw [hpl, ← hQ]; exact hb
          have := splB_size h1
          omega
        have HPK := hid hp
        have HQE := hid hQ
        have HQL := hid hQl
        have HQS := hid hqs
        have HBX := hid hbx
        have HOE := hid hoE
        have HBL := hid hbl
        clear hp hpb hpl hQ hQl hbx hoE hbl hps hqs
        by_cases hk0 : k = 0
        · subst hk0
          by_cases h2 : Q.length = 2
          · obtain ⟨fA, hfA⟩ : ∃ a, (ofS Q)[0]? = some a := ⟨_, List.getElem?_eq_getElem (by rw [HQL.out]; omega)⟩
            obtain ⟨fB, hfB⟩ : ∃ a, (ofS Q)[1]? = some a := ⟨_, List.getElem?_eq_getElem (by rw [HQL.out]; omega)⟩
            have hsp : splL 32 p = [fA.data.toList, fB.data.toList] := by
              rw [← HQE.out]
              have h5 := ofS_at hfA
              have h6 := ofS_at hfB
              match Q, h2, h5, h6 with
              | [a, b], _, h5, h6 => simp at h5 h6; rw [h5, h6]
            obtain ⟨nn, hnn⟩ : ∃ n, n = rdNv fB.data.toList := ⟨_, rfl⟩
            obtain ⟨nf, hnf⟩ : ∃ n, n = rdNb fB.data.toList := ⟨_, rfl⟩
            have CD := fun w' (hb : Below wr.heap.size wr w') => ReadDecimal_any fB w' (HQS.out _ (List.mem_of_getElem? hfB)) (htr.below hb)
            rw [← hnn, ← hnf] at CD
            have HST := hid (show stN P 1 = nn ∧ stX P 1 = X by
              obtain ⟨h1, h2⟩ := st_first HPK.out
              rw [h1, h2, candN_is hsp, ← hnn]
              exact ⟨rfl, by rw [HX.out, stX_zero]⟩)
            have HB := hid hfB
            have h2b : ((Q.length : Int) == 2) = true := by rw [h2]; rfl
            have hq1 : (1 : Int) < (Q.length : Int) := by omega
            have mq1 : 1 < Q.length := by omega
            clear hfA hfB hsp hnn hnf h2
            go_wp2_with fail
            refine (CW wr (Below.refl _ _)).mono ?_
            rintro en w5 ⟨v5, rfl, ho5, hb5⟩
            obtain ⟨g5, cap5, hv5, hg5, dB⟩ := own_str ho5 HB.out
            rw [HQL.out] at hv5
            subst hv5
            go_wp2_with fail
            refine (CD w5 hb5).mono ?_
            rintro en w6 ⟨rfl, hb6⟩
            have hb56 := hb5.trans (hb6.mono hb5.size)
            have hbx6 := HBX.out.later hb56
            have hoE6 := HOE.out.below hb56
            have hbl6 := HBL.out.trans (hb56.mono (Nat.le_of_lt hrq))
            have a0 := hbx6.cell (j := 0) rfl
            have hf := hbx6.free
            have HF := hid (show FinL q w4 (stN P 1) (stX P 1) (w6.setCell ⟨q, 0, none⟩ (.int .i64 nn)) by
              rw [HST.out.1, HST.out.2]
              exact ⟨_, hbx6.set 0 _, hoE6.setBelow (Nat.lt_succ_self q) _, hbl6.setCell (Nat.le_refl _) _⟩)
            clear hbx6 hoE6 hbl6
            go_wp2_with fail
            go_roundw
            case rel => exact ⟨1, by omega, by go_num, HF.out⟩
            case measure => simp [intOf]; omega
          · have HZ := hid (rdLt_none (st_bad0 HP.out HPK.out (by rw [← HQE.out]; exact h2)))
            have h2b : ((Q.length : Int) == 2) = false := by rw [beq_eq_false_iff_ne]; omega
            clear h2
            go_wp2_with fail
            refine (CW wr (Below.refl _ _)).mono ?_
            rintro en w5 ⟨v5, rfl, ho5, hb5⟩
            obtain ⟨sa, sc, hv5⟩ := ho5.isSlice
            rw [HQL.out] at hv5
            subst hv5
            have bx5 := bxr.later hb5
            have b0 := bx5.cell (j := 0) rfl
            have b1 := bx5.cell (j := 1) rfl
            have bf := bx5.free
            go_wp2_with fail
            refine bodyPost_ret (v := .tuple #[.agg #[.int .i64 0, .slice none 0 0], .bool false]) (by simp [results, Tryz.results6, go_sem, b0, b1]) rfl (finish _ _ _ _ _ HZ (Own.nil _ _ _) ?_)
            exact ((hbr.trans (hb5.mono hbr.size)).setCell hge1 _).setCell hge1 _
        · have hke : ((k : Int) == 0) = false := by rw [beq_eq_false_iff_ne]; omega
          have hkg : (0 : Int) < (k : Int) := by omega
          by_cases h4 : Q.length = 4
          · obtain ⟨fA, hfA⟩ : ∃ a, (ofS Q)[0]? = some a := ⟨_, List.getElem?_eq_getElem (by rw [HQL.out]; omega)⟩
            obtain ⟨fB, hfB⟩ : ∃ a, (ofS Q)[1]? = some a := ⟨_, List.getElem?_eq_getElem (by rw [HQL.out]; omega)⟩
            obtain ⟨fL, hfL⟩ : ∃ a, (ofS Q)[2]? = some a := ⟨_, List.getElem?_eq_getElem (by rw [HQL.out]; omega)⟩
            obtain ⟨fC, hfC⟩ : ∃ a, (ofS Q)[3]? = some a := ⟨_, List.getElem?_eq_getElem (by rw [HQL.out]; omega)⟩
            have hsp : splL 32 p = [fA.data.toList, fB.data.toList, fL.data.toList, fC.data.toList] := by
              rw [← HQE.out]
              have h5 := ofS_at hfA
              have h6 := ofS_at hfB
              have h7 := ofS_at hfL
              have h8 := ofS_at hfC
              match Q, h4, h5, h6, h7, h8 with
              | [a, b, c, d], _, h5, h6, h7, h8 => simp at h5 h6 h7 h8; rw [h5, h6, h7, h8]
            obtain ⟨nA, hnA⟩ : ∃ n, n = rdNv fA.data.toList := ⟨_, rfl⟩
            obtain ⟨tA, htA⟩ : ∃ n, n = rdNb fA.data.toList := ⟨_, rfl⟩
            have CDA := fun w' (hb : Below wr.heap.size wr w') => ReadDecimal_any fA w' (HQS.out _ (List.mem_of_getElem? hfA)) (htr.below hb)
            rw [← hnA, ← htA] at CDA
            obtain ⟨nB, hnB⟩ : ∃ n, n = rdNv fB.data.toList := ⟨_, rfl⟩
            obtain ⟨tB, htB⟩ : ∃ n, n = rdNb fB.data.toList := ⟨_, rfl⟩
            have CDB := fun w' (hb : Below wr.heap.size wr w') => ReadDecimal_any fB w' (HQS.out _ (List.mem_of_getElem? hfB)) (htr.below hb)
            rw [← hnB, ← htB] at CDB
            obtain ⟨nC, hnC⟩ : ∃ n, n = rdNv fC.data.toList := ⟨_, rfl⟩
            obtain ⟨tC, htC⟩ : ∃ n, n = rdNb fC.data.toList := ⟨_, rfl⟩
            have CDC := fun w' (hb : Below wr.heap.size wr w') => ReadDecimal_any fC w' (HQS.out _ (List.mem_of_getElem? hfC)) (htr.below hb)
            rw [← hnC, ← htC] at CDC
            obtain ⟨hst1, hst2⟩ := st_next (L := P) (by omega : 0 < k) HPK.out
            rw [candG_is hsp, ← hnA, ← hnB, ← hnC, ← HX.out] at hst2
            rw [← HNV.out] at hst1
            have HS1 := hid hst1
            have HS2 := hid hst2
            have HFA := hid hfA
            have HFB := hid hfB
            have HFL := hid hfL
            have HFC := hid hfC
            have h4b : ((Q.length : Int) == 4) = true := by rw [h4]; rfl
            have hq0 : (0 : Int) < (Q.length : Int) := by omega
            have hq1 : (1 : Int) < (Q.length : Int) := by omega
            have hq2 : (2 : Int) < (Q.length : Int) := by omega
            have hq3 : (3 : Int) < (Q.length : Int) := by omega
            have mq0 : 0 < Q.length := by omega
            have mq1 : 1 < Q.length := by omega
            have mq2 : 2 < Q.length := by omega
            have mq3 : 3 < Q.length := by omega
            clear hfA hfB hfL hfC hsp hnA hnB hnC htA htB htC hst1 hst2 h4
            go_wp2_with fail
            refine (CW wr (Below.refl _ _)).mono ?_
            rintro en w5 ⟨v5, rfl, ho5, hb5⟩
            obtain ⟨g5, cap5, hv5, hg5, dA⟩ := own_str ho5 HFA.out
            rw [HQL.out] at hv5
            subst hv5
            obtain ⟨g6, cap6, hv6, _, dB⟩ := own_str ho5 HFB.out
            simp only [Value.slice.injEq, Option.some.injEq, Addr.mk.injEq, and_true] at hv6
            obtain ⟨rfl, hx6, rfl⟩ := hv6
            clear hx6
            obtain ⟨g6, cap6, hv6, _, dL⟩ := own_str ho5 HFL.out
            simp only [Value.slice.injEq, Option.some.injEq, Addr.mk.injEq, and_true] at hv6
            obtain ⟨rfl, hx6, rfl⟩ := hv6
            clear hx6
            obtain ⟨g6, cap6, hv6, _, dC⟩ := own_str ho5 HFC.out
            simp only [Value.slice.injEq, Option.some.injEq, Addr.mk.injEq, and_true] at hv6
            obtain ⟨rfl, hx6, rfl⟩ := hv6
            clear hx6
            clear ho5 CW
            have hs5 := hb5.size
            go_upto_region 14 with fail
            obtain ⟨pe, hpe⟩ : ∃ u, u = w5.heap.size := ⟨_, rfl⟩
            obtain ⟨x0, hx0⟩ : ∃ u, u = w5.alloc (.cells #[.int .i64 0, .int .i64 0, .string ⟨#[]⟩, .int .i64 0] 46) := ⟨_, rfl⟩
            rw [← hx0, ← hpe]
            have hb0 : Below w5.heap.size w5 x0 := by rw [hx0]; exact below_alloc _ _
            have e0 : Box x0 pe #[.int .i64 0, .int .i64 0, .string ⟨#[]⟩, .int .i64 0] 46 := by rw [hx0, hpe]; exact Box.new _ _ _
            have hge5 : w5.heap.size ≤ pe := by omega
            have y0 := cell_later hb0 dA
            clear hx0 hpe
            go_wp2_with fail
            refine (CDA x0 (hb5.trans (hb0.mono hs5))).mono ?_
            rintro en z0 ⟨rfl, hz0⟩
            have hc0 := hb0.trans (hz0.mono hb0.size)
            have k0 := e0.later hz0
            have a0 := k0.cell (j := 0) rfl
            have r0 := k0.free
            clear y0
            go_upto_region 15 with fail
            obtain ⟨x1, hx1⟩ : ∃ u, u = z0.setCell ⟨pe, 0, none⟩ (.int .i64 nA) := ⟨_, rfl⟩
            rw [← hx1]
            have e1 : Box x1 pe #[.int .i64 nA, .int .i64 0, .string ⟨#[]⟩, .int .i64 0] 46 := by rw [hx1]; exact k0.set 0 _
            have hb1' : Below w5.heap.size w5 x1 := by rw [hx1]; exact hc0.setCell hge5 _
            have y1 := cell_later hb1' dB
            clear hx1 a0 r0 CDA
            go_wp2_with fail
            refine (CDB x1 (hb5.trans (hb1'.mono hs5))).mono ?_
            rintro en z1 ⟨rfl, hz1⟩
            have hc1 := hb1'.trans (hz1.mono hb1'.size)
            have k1 := e1.later hz1
            have a1 := k1.cell (j := 1) rfl
            have r1 := k1.free
            clear y1
            go_upto_region 16 with fail
            obtain ⟨x2, hx2⟩ : ∃ u, u = z1.setCell ⟨pe, 1, none⟩ (.int .i64 nB) := ⟨_, rfl⟩
            rw [← hx2]
            have e2 : Box x2 pe #[.int .i64 nA, .int .i64 nB, .string ⟨#[]⟩, .int .i64 0] 46 := by rw [hx2]; exact k1.set 1 _
            have hb2' : Below w5.heap.size w5 x2 := by rw [hx2]; exact hc1.setCell hge5 _
            have y2 := cell_later hb2' dC
            clear hx2 a1 r1 CDB
            go_wp2_with fail
            refine (CDC x2 (hb5.trans (hb2'.mono hs5))).mono ?_
            rintro en z2 ⟨rfl, hz2⟩
            have hc2 := hb2'.trans (hz2.mono hb2'.size)
            have k2 := e2.later hz2
            have a2 := k2.cell (j := 3) rfl
            have r2 := k2.free
            clear y2
            go_upto_region 17 with fail
            obtain ⟨x3, hx3⟩ : ∃ u, u = z2.setCell ⟨pe, 3, none⟩ (.int .i64 nC) := ⟨_, rfl⟩
            rw [← hx3]
            have e3 : Box x3 pe #[.int .i64 nA, .int .i64 nB, .string ⟨#[]⟩, .int .i64 nC] 46 := by rw [hx3]; exact k2.set 3 _
            have hb3' : Below w5.heap.size w5 x3 := by rw [hx3]; exact hc2.setCell hge5 _
            have y3 := cell_later hb3' dL
            clear hx3 a2 r2 CDC
            have a3 := e3.cell (j := 2) rfl
            have r3 := e3.free
            go_upto_region 18 with fail
            obtain ⟨x4, hx4⟩ : ∃ u, u = x3.setCell ⟨pe, 2, none⟩ (.string fL) := ⟨_, rfl⟩
            rw [← hx4]
            have e4 : Box x4 pe #[.int .i64 nA, .int .i64 nB, .string fL, .int .i64 nC] 46 := by rw [hx4]; exact e3.set 2 _
            have hb4' : Below w5.heap.size w5 x4 := by rw [hx4]; exact hb3'.setCell hge5 _
            have hw4 : Below wr.heap.size wr x4 := hb5.trans (hb4'.mono hs5)
            have c0' := e4.cell (j := 0) rfl
            have c1' := e4.cell (j := 1) rfl
            have c2' := e4.cell (j := 2) rfl
            have c3' := e4.cell (j := 3) rfl
            have hbx3 := HBX.out.later hw4
            have hoE3 := HOE.out.below hw4
            have hbl3 := HBL.out.trans (hw4.mono (Nat.le_of_lt hrq))
            have a1 := hbx3.cell (j := 1) rfl
            have hlt3 := hbx3.lt
            clear hx4 a3 r3 y3 dA dB dC dL
            go_wp2_with (at_builtin; refine wpList_appA rfl _ _ 22 rfl (q + 1) 46 _ 40 infEdgR Tryz.underlying22 rfl _ X (by rfl) (hoE3.alloc _) _ [(⟨nA, nB, fL, nC⟩ : DEdge)] (by rfl) (arr_block (E := eEdge) (n := 1) [(⟨nA, nB, fL, nC⟩ : DEdge)] #[.int .i64 nA, .int .i64 nB, .string fL, .int .i64 nC] rfl rfl (by decide)) (by have := HXL.out; unfold maxLen; simp <;> omega) (by have := HXL.out; simp <;> omega) (by simp <;> omega) ?_)
            intro u6 w6 ho6 hb6 _
            obtain ⟨ua, uc, hu6⟩ := ho6.isSlice
            rw [show (X ++ [(⟨nA, nB, fL, nC⟩ : DEdge)]).length = X.length + 1 by simp] at hu6
            subst hu6
            have bx6 := (hbx3.alloc (.cells #[.int .i64 nA, .int .i64 nB, .string fL, .int .i64 nC] 46)).below hb6 (Nat.lt_succ_self q)
            have f0 := bx6.cell (j := 1) rfl
            have ff := bx6.free
            have HF := hid (show FinL q w4 (stN P (k + 1)) (stX P (k + 1)) (w6.setCell ⟨q, 1, none⟩ (.slice ua (X.length + 1) uc)) by
              rw [HS1.out, ← HS2.out]
              exact ⟨_, bx6.set 1 _, ho6.setBelow (Nat.lt_succ_self q) _, ((hbl3.alloc (Nat.le_of_lt hlt3) _).trans (hb6.mono (Nat.le_succ q))).setCell (Nat.le_refl _) _⟩)
            clear ho6 hb6 a1 hbx3 hoE3 hbl3
            go_wp2_with fail
            go_roundw
            case rel => exact ⟨k + 1, by omega, by go_num, HF.out⟩
            case measure => simp [intOf]; omega
          · have HZ := hid (rdLt_none (st_bad HP.out (by omega) HPK.out (by rw [← HQE.out]; exact h4)))
            have h4b : ((Q.length : Int) == 4) = false := by rw [beq_eq_false_iff_ne]; omega
            clear h4
            go_wp2_with fail
            refine (CW wr (Below.refl _ _)).mono ?_
            rintro en w5 ⟨v5, rfl, ho5, hb5⟩
            obtain ⟨sa, sc, hv5⟩ := ho5.isSlice
            rw [HQL.out] at hv5
            subst hv5
            have bx5 := bxr.later hb5
            have b0 := bx5.cell (j := 0) rfl
            have b1 := bx5.cell (j := 1) rfl
            have bf := bx5.free
            go_wp2_with fail
            refine bodyPost_ret (v := .tuple #[.agg #[.int .i64 0, .slice none 0 0], .bool false]) (by simp [results, Tryz.results6, go_sem, b0, b1]) rfl (finish _ _ _ _ _ HZ (Own.nil _ _ _) ?_)
            exact ((hbr.trans (hb5.mono hbr.size)).setCell hge1 _).setCell hge1 _
      · obtain rfl : k = P.length := by omega
        have hli : ¬ ((P.length : Int) < (P.length : Int)) := by omega
        have hif := st_end HP.out
        rw [← HX.out, ← HNV.out] at hif
        have gX : goodLattice (nv, X) := by rw [HX.out]; exact st_good HPS.out
        have okX : okLattice (nv, X) := by have := HXL.out; show X.length ≤ 1048576; omega
        have a0 := hbx.cell (j := 0) rfl
        have a1 := hbx.cell (j := 1) rfl
        have hat : ∀ (w' : World), Below wr.heap.size wr w' → rLattice.at_ 0 w'.heap.size w' (.agg #[.int .i64 nv, .slice oa X.length oc]) (nv, X) := fun w' hb => ⟨_, rfl, (hoE.arr.below hb).in_⟩
        have CV := implValidLattice_any _ (nv, X) wr (hat wr (Below.refl _ _)) okX gX
        cases hv : validLt (nv, X)
        · have HZ := hid (rdLt_none (show readLt s = none by rw [hif, hv]; rfl))
          rw [hv] at CV
          clear hif hv
          go_wp2_with fail
          refine CV.mono ?_
          rintro en w2 ⟨rfl, hb2⟩
          have bx2 := bxr.later hb2
          have b0 := bx2.cell (j := 0) rfl
          have b1 := bx2.cell (j := 1) rfl
          have bf := bx2.free
          go_wp2_with fail
          refine bodyPost_ret (v := .tuple #[.agg #[.int .i64 0, .slice none 0 0], .bool false]) (by simp [results, Tryz.results6, go_sem, b0, b1]) rfl (finish _ _ _ _ _ HZ (Own.nil _ _ _) ?_)
          exact ((hbr.trans (hb2.mono hbr.size)).setCell hge1 _).setCell hge1 _
        · rw [hv] at CV
          have CT := fun (w' : World) (hb : Below wr.heap.size wr w') => implLatticeText_any _ (nv, X) w' (hat w' hb) okX gX (htr.below hb).tab
          obtain ⟨TX, hTX⟩ : ∃ TX, TX = latS (nv, X) := ⟨_, rfl⟩
          rw [← hTX] at CT
          cases hq : eqS TX s
          · have HZ := hid (rdLt_none (show readLt s = none by rw [hif, hv, ← hTX, hq]; rfl))
            have hq' : (TX.toList == s.toList) = false := hq
            clear hif hTX hq hv
            go_wp2_with fail
            refine CV.mono ?_
            rintro en w2 ⟨rfl, hb2⟩
            have a02 := cell_later hb2 a0
            have a12 := cell_later hb2 a1
            go_wp2_with fail
            refine (CT w2 hb2).mono ?_
            rintro en w3 ⟨rfl, hb3⟩
            have hb23 := hb2.trans (hb3.mono hb2.size)
            have bx2 := bxr.later hb23
            have b0 := bx2.cell (j := 0) rfl
            have b1 := bx2.cell (j := 1) rfl
            have bf := bx2.free
            clear a02 a12
            go_wp2_with fail
            refine bodyPost_ret (v := .tuple #[.agg #[.int .i64 0, .slice none 0 0], .bool false]) (by simp [results, Tryz.results6, go_sem, b0, b1]) rfl (finish _ _ _ _ _ HZ (Own.nil _ _ _) ?_)
            exact ((hbr.trans (hb23.mono hbr.size)).setCell hge1 _).setCell hge1 _
          · have HZ := hid (rdLt_some (show readLt s = some (nv, X) by rw [hif, hv, ← hTX, hq]; rfl))
            have hq' : (TX.toList == s.toList) = true := hq
            clear hif hTX hq hv
            go_wp2_with fail
            refine CV.mono ?_
            rintro en w2 ⟨rfl, hb2⟩
            have a02 := cell_later hb2 a0
            have a12 := cell_later hb2 a1
            go_wp2_with fail
            refine (CT w2 hb2).mono ?_
            rintro en w3 ⟨rfl, hb3⟩
            have hb23 := hb2.trans (hb3.mono hb2.size)
            have bx2 := bxr.later hb23
            have b0 := bx2.cell (j := 0) rfl
            have b1 := bx2.cell (j := 1) rfl
            have bf := bx2.free
            have a03 := cell_later hb3 a02
            have a13 := cell_later hb3 a12
            have ho3 := hoE.below hb23
            go_wp2_with fail
            refine bodyPost_ret (v := .tuple #[.agg #[.int .i64 nv, .slice oa X.length oc], .bool true]) (by simp [results, Tryz.results6, go_sem, b0, b1]) rfl (finish _ _ _ _ _ HZ (((ho3.setBelow (a := ⟨p1, 0, none⟩) (by show p1 < q + 1; omega) _).setBelow (a := ⟨p1, 1, none⟩) (by show p1 < q + 1; omega) _).mono (by omega)) ?_)
            exact ((hbr.trans (hb23.mono hbr.size)).setCell hge1 _).setCell hge1 _
end Go.Proofs.YtbgjojnjbplblaaGreatDoor
