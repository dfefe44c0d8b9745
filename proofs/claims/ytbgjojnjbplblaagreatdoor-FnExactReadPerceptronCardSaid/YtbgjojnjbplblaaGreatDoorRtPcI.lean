/- A perceptron read from its text: the implementation's call. -/
import Derived.Test.YtbgjojnjbplblaaGreatDoorRtLib
import Derived.Test.YtbgjojnjbplblaaGreatDoorRtPcS
namespace Go.Proofs.YtbgjojnjbplblaaGreatDoor
open Go.RowKit

def cnL (P : List (List UInt8)) (k : Nat) : List ByteArray := ((P.take k).map candP).map (·.1)
def cnX (P : List (List UInt8)) (k : Nat) : List (List Int) := ((P.take k).map candP).map (·.2)
def cnR (R : List (List UInt8)) (j : Nat) : List Int := ((R.drop 1).take j).map rdNv
theorem cn_len {P : List (List UInt8)} {k : Nat} (h : k ≤ P.length) : (cnL P k).length = k ∧ (cnX P k).length = k := by
  unfold cnL cnX
  simp only [List.length_map, List.length_take]
  omega
theorem cn_next {P : List (List UInt8)} {k : Nat} {p : List UInt8} (hp : P[k]? = some p) : cnL P k ++ [(candP p).1] = cnL P (k + 1) ∧ cnX P k ++ [(candP p).2] = cnX P (k + 1) := by
  unfold cnL cnX
  rw [List.take_add_one, hp, Option.toList_some, List.map_append, List.map_append, List.map_append]
  exact ⟨rfl, rfl⟩
theorem cn_all (P : List (List UInt8)) : candX P = (cnL P P.length, cnX P P.length) := by
  unfold cnL cnX candX unz
  rw [List.take_length]
theorem cnR_len {R : List (List UInt8)} {j : Nat} (h : j ≤ R.length - 1) : (cnR R j).length = j := by
  unfold cnR
  rw [List.length_map, List.length_take, List.length_drop]
  omega
theorem cnR_next {R : List (List UInt8)} {j : Nat} {b : List UInt8} (hb : R[j + 1]? = some b) : cnR R j ++ [rdNv b] = cnR R (j + 1) := by
  unfold cnR
  have : (R.drop 1)[j]? = some b := by rw [List.getElem?_drop, show 1 + j = j + 1 by omega]; exact hb
  rw [List.take_add_one, this, Option.toList_some, List.map_append]
  rfl
theorem candP_is {p a : List UInt8} {R : List (List UInt8)} (hs : splL 32 p = a :: R.drop 1) : candP p = (⟨a.toArray⟩, cnR R (R.length - 1)) := by
  unfold candP cnR
  rw [hs]
  simp only
  rw [List.take_of_length_le (by rw [List.length_drop]; exact Nat.le_refl _)]
set_option maxRecDepth 100000 in
set_option maxHeartbeats 8000000 in
theorem implReadPerceptron_any (s : ByteArray) (w : World) (hs : s.size ≤ 1048576) (ht : TabR w) : Calls Tryz.prog 11 #[.string s] w (RetNew rPerceptron (rdPc s) #[.bool (rdPcB s)] w) := by
  obtain ⟨W, hW⟩ : ∃ u, u = (w.alloc (.cells #[.slice none 0 0, .slice none 0 0] 33)) := ⟨_, rfl⟩
  have hbW : Below w.heap.size w W := by rw [hW]; exact belowA1 _ _
  have q1 : Box W (w.heap.size) #[.slice none 0 0, .slice none 0 0] 33 := by
    have hq := Box.new w #[.slice none 0 0, .slice none 0 0] 33
    rw [hW]
    exact hq
  obtain ⟨p1, hp1⟩ : ∃ p, p = w.heap.size := ⟨_, rfl⟩
  rw [← hp1] at q1
  have hge1 : w.heap.size ≤ p1 := by omega
  have hlW : w.heap.size ≤ W.heap.size := hbW.size
  have hlp1 : p1 < W.heap.size := q1.lt
  have HP1 := hid hp1
  have HW := hid hW
  clear hW hp1
  have finish := finPc s w
  have htW := ht.below hbW
  have CL := linesOf_any s W hs htW.max
  cases hP : linesL s.data.toList with
  | none =>
    rw [hP] at CL
    have HZ := hid (rdPc_none (readPc_no hP))
    clear hP
    go_enter Tryz.func11, Tryz.ntmps11
    go_upto_region 1 with fail
    rw [← HP1.out, ← HW.out]
    go_wp2_with fail
    refine CL.mono ?_
    rintro en w1 ⟨rfl, hb1⟩
    have bx1 := q1.later hb1
    have b0 := bx1.cell (j := 0) rfl
    have b1 := bx1.cell (j := 1) rfl
    have bf := bx1.free
    go_wp2_with fail
    refine bodyPost_ret (v := .tuple #[.agg #[.slice none 0 0, .slice none 0 0], .bool false]) (by simp [results, Tryz.results11, go_sem, b0, b1]) rfl (finish _ _ _ _ _ _ _ HZ (Own.nil _ _ _) (nilNest _ _ _) ?_)
    exact ((hbW.trans (hb1.mono hlW)).setCell hge1 _).setCell hge1 _
  | some P =>
    rw [hP] at CL
    have hPlen := linesL_len hP
    have hsl : s.data.toList.length = s.size := by rw [Array.length_toList]; rfl
    rw [hsl] at hPlen
    have hPs : ∀ p ∈ P, p.length ≤ 1048576 := fun p hp => by
      have h1 : p ∈ splL 10 s.data.toList := by rw [(linesL_some hP).1]; exact List.mem_append_left _ hp
      have h2 := splL_plen h1
      rw [hsl] at h2
      omega
    have hiff := readPc_iff s hP
    rw [cn_all] at hiff
    have HP := hid hP
    have HPS := hid hPs
    have HIF := hid hiff
    clear hP hPs hsl hiff
    go_enter Tryz.func11, Tryz.ntmps11
    go_upto_region 1 with fail
    rw [← HP1.out, ← HW.out]
    go_wp2_with fail
    refine CL.mono ?_
    rintro en w1 ⟨⟨v1, rfl, ho1⟩, hb1⟩
    clear CL
    have hPl : (ofS P).length = P.length := ofS_len P
    obtain ⟨ga, gc, hv1⟩ := ho1.isSlice
    rw [hPl] at hv1
    subst hv1
    have hbs1 := hb1.size
    have hbE1 := hbW.trans (hb1.mono hlW)
    have bx1 := q1.later hb1
    have ht1 := htW.below hb1
    have HPL := hid hPl
    clear hPl
    go_upto_region 5 with fail
    obtain ⟨q, hq⟩ : ∃ q, q = w1.heap.size := ⟨_, rfl⟩
    obtain ⟨w4, hw4⟩ : ∃ u, u = w1.alloc (.cells #[.slice none 0 0, .slice none 0 0] 33) := ⟨_, rfl⟩
    rw [← hw4, ← hq]
    have hx4 : FinP q w4 [] [] w4 := by rw [hw4, hq]; exact ⟨_, _, [], Box.new _ _ _, Own.nil _ _ _, nilNest _ _ _, Below.refl _ _⟩
    have hb4 : Below w1.heap.size w1 w4 := by rw [hw4]; exact below_alloc _ _
    have bx4 := bx1.later hb4
    have ht4 := ht1.below hb4
    have hpq : p1 < q := by have := bx1.lt; omega
    have hwq : w.heap.size ≤ q := by have := hbE1.size; omega
    have hbE4 := hbE1.trans (hb4.mono (by omega))
    have hPc : ∀ (u : World), Below q w4 u → ∀ (k : Nat) (p : List UInt8), P[k]? = some p → ∃ g, ga = some ⟨g, 0, none⟩ ∧ u.cell? ⟨g, k, none⟩ = some (.string ⟨p.toArray⟩) := fun u hb k p hk => by
      obtain ⟨g', cap', hv', hg', hc'⟩ := own_str ho1 (ofS_get hk)
      simp only [Value.slice.injEq] at hv'
      obtain ⟨rfl, _, rfl⟩ := hv'
      exact ⟨g', rfl, below_cell hb (by omega) (cell_later hb4 hc')⟩
    have HPC := hid hPc
    have htq : ∀ (u : World), Below q w4 u → TabR u := fun u hb => by
      have hg3 : 3 < q := by have := ht1.tab.lt; omega
      obtain ⟨tp, p, he⟩ := ht1.err
      obtain ⟨m, hm⟩ := ht1.max
      have l1 : 0 < q := by have := cell_lt he; omega
      have l2 : 2 < q := by have := cell_lt hm; omega
      exact ⟨ht4.tab.on hb hg3, ⟨tp, p, below_cell hb l1 (cell_later hb4 he)⟩, ⟨m, below_cell hb l2 (cell_later hb4 hm)⟩⟩
    have HTQ := hid htq
    clear hw4 hq hPc htq bx1
    go_wp2_with fail
    go_loopw [25] (fun i wr => ∃ k : Nat, k ≤ P.length ∧ i = .int .i64 k ∧ FinP q w4 (cnL P k) (cnX P k) wr) (fun i _ => P.length - (intOf i).toNat)
    case atStart => exact ⟨0, Nat.zero_le _, rfl, hx4⟩
    case round =>
      clear hx4
      obtain ⟨k, hk, rfl, ⟨ul, uo, vs, hbx, hoL, hst, hbl⟩⟩ := hrel
      obtain ⟨hc1, hc2⟩ := cn_len hk
      obtain ⟨L, hL⟩ : ∃ L, L = cnL P k := ⟨_, rfl⟩
      obtain ⟨X, hX⟩ : ∃ L, L = cnX P k := ⟨_, rfl⟩
      rw [← hL] at hoL hc1
      rw [← hX] at hst hc2
      have hLl : L.length ≤ 1048576 := by omega
      have hXl : X.length ≤ 1048576 := by omega
      have hvl : vs.length ≤ 1048576 := by rw [hst.len]; exact hXl
      have HL := hid hL
      have HX := hid hX
      obtain ⟨la, lc, hul⟩ := hoL.isSlice
      subst hul
      obtain ⟨oa, oc, huo⟩ := hst.outer.1.isSlice
      subst huo
      have hbr := hbE4.trans (hbl.mono hwq)
      have bxr := bx4.below hbl hpq
      have hrq := hbx.lt
      have htr := HTQ.out wr hbl
      clear hL hX hc1 hc2
      by_cases hlt : k < P.length
      · have hli : (k : Int) < (P.length : Int) := by omega
        obtain ⟨p, hp⟩ : ∃ p, P[k]? = some p := ⟨_, List.getElem?_eq_getElem hlt⟩
        obtain ⟨g, hla, c0⟩ := HPC.out wr hbl k p hp
        subst hla
        obtain ⟨pb, hpb⟩ : ∃ pb : ByteArray, pb = ⟨p.toArray⟩ := ⟨_, rfl⟩
        have hpl : pb.data.toList = p := by rw [hpb]
        rw [← hpb] at c0
        have hps : pb.size ≤ 1048576 := by
          have h1 := HPS.out p (List.mem_of_getElem? hp)
          rw [hpb]
          show p.toArray.size ≤ _
          simpa using h1
        have CW := fun w' (hb : Below wr.heap.size wr w') => wordsOf_any pb w' hps (htr.below hb).max
        obtain ⟨R, hR⟩ : ∃ R, R = splL 32 p := ⟨_, rfl⟩
        rw [show splB 32 pb = ofS R by unfold splB; rw [hpl, hR]] at CW
        have hRl : (ofS R).length = R.length := ofS_len R
        have hR2 : R.length ≤ 1048577 := by
          have h1 := (splB_len 32 pb).2
          rw [show splB 32 pb = ofS R by unfold splB; rw [hpl, hR], hRl] at h1
          omega
        have hqs : ∀ b ∈ ofS R, b.size ≤ 1048576 := fun b hb => by
          have h1 : b ∈ splB 32 pb := by unfold splB; rw [hpl, ← hR]; exact hb
          have := splB_size h1
          omega
        have hR1 : 0 < R.length := List.length_pos_iff.2 (by rw [hR]; exact splL_ne _ _)
        obtain ⟨lab, hlab⟩ : ∃ a, (ofS R)[0]? = some a := ⟨_, List.getElem?_eq_getElem (by omega)⟩
        have hRc : R = lab.data.toList :: R.drop 1 := by
          have h5 := ofS_at hlab
          cases R with
          | nil => simp at hR1
          | cons a t => simp at h5; rw [h5]; simp
        have hsp : splL 32 p = lab.data.toList :: R.drop 1 := by rw [← hR]; exact hRc
        have hcp := candP_is hsp
        obtain ⟨hn1, hn2⟩ := cn_next hp
        rw [hcp, ← HL.out] at hn1
        rw [hcp, ← HX.out] at hn2
        have HN1 := hid (show L ++ [lab] = cnL P (k + 1) from hn1)
        have HN2 := hid (show X ++ [cnR R (R.length - 1)] = cnX P (k + 1) from hn2)
        have HRL := hid hRl
        have HQS := hid hqs
        have HLB := hid hlab
        have HBX := hid hbx
        have HOL := hid hoL
        have HST := hid hst
        have HBL := hid hbl
        clear hp hpb hpl hR hRl hlab hRc hsp hbx hoL hst hbl hps hqs hcp hn1 hn2
        go_wp2_with fail
        refine (CW wr (Below.refl _ _)).mono ?_
        rintro en w5 ⟨v5, rfl, ho5, hb5⟩
        obtain ⟨g5, cap5, hv5, hg5, z0⟩ := own_str ho5 HLB.out
        rw [HRL.out] at hv5
        subst hv5
        have hcapN : R.length ≤ cap5 := by
          obtain ⟨_, _, _, c', hv', hnc, _⟩ := ho5.arr
          simp only [Value.slice.injEq] at hv'
          obtain ⟨_, h7, rfl⟩ := hv'
          have := HRL.out
          omega
        have hWc : ∀ (u : World), Below w5.heap.size w5 u → ∀ (j : Nat) (a : ByteArray), (ofS R)[j]? = some a → u.cell? ⟨g5, j, none⟩ = some (.string a) := fun u hb j a hj => by
          obtain ⟨g', cap', hv', _, hc'⟩ := own_str ho5 hj
          simp only [Value.slice.injEq, Option.some.injEq, Addr.mk.injEq, and_true] at hv'
          obtain ⟨rfl, _, rfl⟩ := hv'
          exact cell_later hb hc'
        have HWC := hid hWc
        have hs5 := hb5.size
        clear hWc CW ho5 z0 c0
        go_upto_region 10 with fail
        have hx1 : (1 : Int) ≤ (R.length : Int) := by omega
        have hx2 : (R.length : Int) ≤ (cap5 : Int) := by omega
        have mx1 : 1 ≤ R.length := by omega
        by_cases hc1 : cap5 = 1
        · subst hc1
          go_upto_region 11 with fail
          obtain ⟨wo, rfl⟩ : ∃ x, x = wr := ⟨wr, rfl⟩
          go_loopw [10, 34] (fun u i wr => ∃ j : Nat, j ≤ R.length - 1 ∧ i = .int .i64 j ∧ Own eI 2 w5.heap.size wr u (cnR R j) ∧ Below w5.heap.size w5 wr) (fun _ i _ => R.length - 1 - (intOf i).toNat)
          case atStart => exact ⟨0, Nat.zero_le _, rfl, by rw [show cnR R 0 = [] by simp [cnR]]; exact Own.nil _ _ _, Below.refl _ _⟩
          case round =>
            obtain ⟨j, hjR, rfl, hrow, hbi⟩ := hrel
            have hnl := cnR_len hjR
            obtain ⟨ns, hns⟩ : ∃ ns, ns = cnR R j := ⟨_, rfl⟩
            rw [← hns] at hrow hnl
            have hnb : ns.length ≤ 1048577 := by omega
            clear hnl
            have HNS := hid hns
            clear hns
            obtain ⟨ra, rc, hrv⟩ := hrow.isSlice
            subst hrv
            have hsi := hbi.size
            have hbri := hb5.trans (hbi.mono hs5)
            by_cases hjl : j < R.length - 1
            · exfalso; omega
            · obtain rfl : j = R.length - 1 := by omega
              have hji : ¬ (((R.length - 1 : Nat) : Int) < ((R.length - 1 : Nat) : Int)) := by omega
              have hM0 : MidP q w4 wo.heap.size (.slice la L.length lc) (.slice oa vs.length oc) vs X (.slice ra ns.length rc) ns wr := MidP.mk' HBX.out HST.out HBL.out hbri hrow hs5
              have hL0 := HOL.out.below hbri
              have z0 := HWC.out wr hbi 0 lab HLB.out
              have a0 := hM0.box.cell (j := 0) rfl
              have HM0 := hid hM0
              have HL0 := hid hL0
              have hq1 := hM0.box.lt
              have mR1 : 0 < R.length := hR1
              have hX2 := HN2.out
              rw [← HNS.out] at hX2
              have HX2 := hid hX2
              clear hM0 hL0 hX2
              go_upto_region 16 with fail
              refine wp_region_stg 6 8 (fun c w' => match c with | 0 => Below wr.heap.size wr w' | 1 => (MidP q w4 wo.heap.size (.slice la L.length lc) (.slice oa vs.length oc) vs X (.slice ra ns.length rc) ns w') | _ => FinM q w4 wo.heap.size (.slice oa vs.length oc) vs X (.slice ra ns.length rc) ns (L ++ [lab]) w') (fun c i v w' => match i with
                    | 0 => v = .pointer (some ⟨q, 0, none⟩)
                    | 1 => v = .slice la L.length lc
                    | 2 => v = .slice (some ⟨g5, 0, none⟩) R.length 1
                    | 3 => v = .pointer (some ⟨g5, 0, none⟩)
                    | 4 => v = .string lab
                    | 5 => (match c with | 0 => (Arr eStr w' v [lab]) | 1 => True | _ => True)
                    | 6 => (match c with | 0 => True | 1 => (Own eStr 9 (q + 1) w' v (L ++ [lab])) | _ => True)
                    | 7 => v = .pointer (some ⟨q, 0, none⟩)
                    | 8 => (match c with | 0 => True | 1 => True | _ => True)
                    | _ => True) (by kernel_rfl) (by kernel_rfl) (by kernel_rfl) (by kernel_rfl) (by kernel_rfl) ?_ ?_ ?_ ?_ ?_ ?_ (by decide) ?_
              · exact (Below.refl _ wr).drew
              · intro c w w' h hb
                match c, h with
                | 0, h => exact Below.trans (B := wr.heap.size) h (hb.mono (Below.size h))
                | 1, h => exact MidP.below h hb
                | (k + 2), h => exact (FinM.below h hb)
              · intro c i v w w' h hb
                match i, h with
                | 0, h => exact h
                | 1, h => exact h
                | 2, h => exact h
                | 3, h => exact h
                | 4, h => exact h
                | 5, h =>
                  match c, h with
                  | 0, h => exact h.below hb
                  | 1, h => exact trivial
                  | (k + 2), h => exact trivial
                | 6, h =>
                  match c, h with
                  | 0, h => exact trivial
                  | 1, h => exact h.below hb
                  | (k + 2), h => exact trivial
                | 7, h => exact h
                | 8, h =>
                  match c, h with
                  | 0, h => exact trivial
                  | 1, h => exact trivial
                  | (k + 2), h => exact trivial
                | (k + 9), h => exact h
              · refine ⟨?_, ?_, ?_, ?_, ?_, ?_, ?_, ?_, ?_, trivial⟩
                · refine .inr (.inr ⟨fun _ => ?_, can_no (by kernel_rfl), can_no (by kernel_rfl)⟩)
                  · intro ρ w' hbw ht hcs hfn hgl hdep G hG
                    replace hbw : Below wr.heap.size wr w' := hbw
                    refine ⟨fun _ => ?_, fun h => by cases h⟩
                    have s6 : ρ (.tmp 6) = .pointer (some ⟨q, 0, none⟩) := ht 6 rfl
                    clear ht hdep hgl
                    go_simp
                    exact hG _ _ (Below.refl _ _) rfl
                · refine .inr (.inr ⟨fun _ => ?_, can_no (by kernel_rfl), can_no (by kernel_rfl)⟩)
                  · intro ρ w' hbw ht hcs hfn hgl hdep G hG
                    replace hbw : Below wr.heap.size wr w' := hbw
                    refine ⟨fun _ => ?_, fun h => by cases h⟩
                    have s48 : ρ (.tmp 48) = .pointer (some ⟨q, 0, none⟩) := hdep ⟨0, .data⟩ (by simp) rfl 48 rfl
                    have a0 := cell_later hbw a0
                    have z0 := cell_later hbw z0
                    clear ht hdep hgl
                    go_simp
                    exact hG _ _ (Below.refl _ _) rfl
                · refine .inr (.inr ⟨fun _ => ?_, can_no (by kernel_rfl), can_no (by kernel_rfl)⟩)
                  · intro ρ w' hbw ht hcs hfn hgl hdep G hG
                    replace hbw : Below wr.heap.size wr w' := hbw
                    refine ⟨fun _ => ?_, fun h => by cases h⟩
                    have s9 : ρ (.tmp 9) = .slice (some ⟨g5, 0, none⟩) R.length 1 := ht 9 rfl
                    clear ht hdep hgl
                    go_simp
                    exact hG _ _ (Below.refl _ _) rfl
                · refine .inr (.inr ⟨fun _ => ?_, can_no (by kernel_rfl), can_no (by kernel_rfl)⟩)
                  · intro ρ w' hbw ht hcs hfn hgl hdep G hG
                    replace hbw : Below wr.heap.size wr w' := hbw
                    refine ⟨fun _ => ?_, fun h => by cases h⟩
                    have s50 : ρ (.tmp 50) = .slice (some ⟨g5, 0, none⟩) R.length 1 := hdep ⟨2, .data⟩ (by simp) rfl 50 rfl
                    clear ht hdep hgl
                    go_simp
                    exact hG _ _ (Below.refl _ _) rfl
                · refine .inr (.inr ⟨fun _ => ?_, can_no (by kernel_rfl), can_no (by kernel_rfl)⟩)
                  · intro ρ w' hbw ht hcs hfn hgl hdep G hG
                    replace hbw : Below wr.heap.size wr w' := hbw
                    refine ⟨fun _ => ?_, fun h => by cases h⟩
                    have s51 : ρ (.tmp 51) = .pointer (some ⟨g5, 0, none⟩) := hdep ⟨3, .data⟩ (by simp) rfl 51 rfl
                    have a0 := cell_later hbw a0
                    have z0 := cell_later hbw z0
                    clear ht hdep hgl
                    go_simp
                    exact hG _ _ (Below.refl _ _) rfl
                · refine .inr (.inr ⟨fun _ => ?_, can_no (by kernel_rfl), can_no (by kernel_rfl)⟩)
                  · intro ρ w' hbw ht hcs hfn hgl hdep G hG
                    replace hbw : Below wr.heap.size wr w' := hbw
                    refine ⟨fun _ => ?_, fun h => by cases h⟩
                    have s52 : ρ (.tmp 52) = .string lab := hdep ⟨4, .data⟩ (by simp) rfl 52 rfl
                    clear ht hdep hgl
                    go_simp
                    exact hG _ _ (below_alloc _ _) (arr_block1 (E := eStr) (n := 1) [lab] #[.string lab] rfl rfl (by decide) (by simp))
                · exact .inl rfl
                · refine .inr (.inr ⟨fun _ => ?_, fun _ => ?_, can_no (by kernel_rfl)⟩)
                  · intro ρ w' hbw ht hcs hfn hgl hdep G hG
                    replace hbw : Below wr.heap.size wr w' := hbw
                    refine ⟨fun _ => ?_, fun h => by cases h⟩
                    have s6 : ρ (.tmp 6) = .pointer (some ⟨q, 0, none⟩) := ht 6 rfl
                    clear ht hdep hgl
                    go_simp
                    exact hG _ _ (Below.refl _ _) rfl
                  · intro ρ w' hbw ht hcs hfn hgl hdep G hG
                    replace hbw : (MidP q w4 wo.heap.size (.slice la L.length lc) (.slice oa vs.length oc) vs X (.slice ra ns.length rc) ns w') := hbw
                    refine ⟨fun _ => ?_, fun h => by cases h⟩
                    have s6 : ρ (.tmp 6) = .pointer (some ⟨q, 0, none⟩) := ht 6 rfl
                    clear ht hdep hgl
                    go_simp
                    exact hG _ _ (Below.refl _ _) rfl
                · exact .inr (.inl rfl)
              · intro o ho
                obtain rfl := Option.some.inj ho
                intro ρ w' hbw ht hcs hfn hgl hdep G hG
                replace hbw : Below wr.heap.size wr w' := hbw
                refine ⟨fun _ => ?_, fun h => by cases h⟩
                have s49 : ρ (.tmp 49) = .slice la L.length lc := hdep ⟨1, .data⟩ (by simp) rfl 49 rfl
                have d53 := hdep ⟨5, .data⟩ (by simp) rfl 53 rfl
                clear ht hdep hgl
                refine upon_appO _ _ 30 (by rfl) (q + 1) 9 _ 16 infoStr2 Tryz.underlying30 rfl _ L s49 (HL0.out.below hbw) [lab] d53 (by unfold maxLen; simp <;> omega) (by simp <;> omega) (by have := hbw.size; omega) ?_
                intro v' wA hoA hgA hlA
                refine hG _ _ ((HM0.out.below hbw).grown (HL0.out.below hbw) hgA) hoA ?_
                intro j u hj hne h
                match j, h with
                | 0, h => exact h
                | 1, h => exact h
                | 2, h => exact h
                | 3, h => exact h
                | 4, h => exact h
                | 5, h => exact trivial
                | 6, h => exact absurd rfl hne
                | 7, h => exact h
                | 8, h => exact trivial
                | (k + 9), h => exact h
              · intro o ho
                obtain rfl := Option.some.inj ho
                intro ρ w' hbw ht hcs hfn hgl hdep G hG
                replace hbw : (MidP q w4 wo.heap.size (.slice la L.length lc) (.slice oa vs.length oc) vs X (.slice ra ns.length rc) ns w') := hbw
                refine ⟨fun _ => ?_, fun h => by cases h⟩
                have s55 : ρ (.tmp 55) = .pointer (some ⟨q, 0, none⟩) := hdep ⟨7, .data⟩ (by simp) rfl 55 rfl
                have d54 := hdep ⟨6, .data⟩ (by simp) rfl 54 rfl
                clear ht hdep hgl
                have h54 : Own eStr 9 (q + 1) w' (ρ (.tmp 54)) (L ++ [lab]) := d54
                obtain ⟨ua, uc, hu⟩ := h54.isSlice
                rw [show (L ++ [lab]).length = L.length + 1 by simp] at hu
                rw [hu] at h54
                have f0 := hbw.box.cell (j := 0) rfl
                have ff := hbw.box.free
                have hx := hid (show FinM q w4 wo.heap.size (.slice oa vs.length oc) vs X (.slice ra ns.length rc) ns (L ++ [lab]) (w'.setCell ⟨q, 0, none⟩ (.slice ua (L.length + 1) uc)) from ⟨_, hbw.set _, h54.setBelow (Nat.lt_succ_self q) _⟩)
                clear h54
                go_simp
                refine hG _ _ hx.out trivial ?_
                intro j u hj hne h
                match j, h with
                | 0, h => exact h
                | 1, h => exact h
                | 2, h => exact h
                | 3, h => exact h
                | 4, h => exact h
                | 5, h => exact trivial
                | 6, h => exact trivial
                | 7, h => exact h
                | 8, h => exact trivial
                | (k + 9), h => exact h
              intro xx w9 hF hx
              clear hx
              simp only [putAll, Act.put, List.setIfInBounds_toArray, List.set_cons_succ, List.set_cons_zero, Nat.zero_add, Nat.reduceAdd]
              obtain ⟨ul, hM9, hL9⟩ := hF
              obtain ⟨ua, uc, hul⟩ := hL9.isSlice
              rw [show (L ++ [lab]).length = L.length + 1 by simp] at hul
              subst hul
              have a19 := hM9.box.cell (j := 1) rfl
              have hs9 := hM9.hi1
              have hi9 := hM9.hi2
              have HM9 := hid hM9
              have HL9 := hid hL9
              clear hM9 hL9 a0 z0
              go_wp2_with (at_builtin; refine wpList_appO2 rfl _ _ 31 rfl (q + 1) 51 _ 24 infRowR Tryz.underlying31 rfl _ vs (by rfl) ((HM9.out.below (below_alloc _ (.cells #[.slice ra ns.length rc] 51))).nest.outer.1) _ [(⟨ra, ns.length, rc⟩ : SV)] (by rfl) (arr_block (E := eS1) (n := 1) [(⟨ra, ns.length, rc⟩ : SV)] #[.slice ra ns.length rc] rfl rfl (by decide)) (by unfold maxLen; simp <;> omega) (by simp <;> omega) (by simp <;> omega) ?_)
              intro u10 w10 ho10 hg10
              obtain ⟨va, vc, hu10⟩ := ho10.isSlice
              rw [show (vs ++ [(⟨ra, ns.length, rc⟩ : SV)]).length = vs.length + 1 by simp] at hu10
              subst hu10
              have hM10 : MidP q w4 wo.heap.size (.slice ua (L.length + 1) uc) (.slice oa vs.length oc) vs X (SV.val ⟨ra, ns.length, rc⟩) ns (w9.alloc (.cells #[.slice ra ns.length rc] 51)) := HM9.out.below (below_alloc _ _)
              have bx10 := hM10.pushBox hg10
              have f0 := bx10.cell (j := 1) rfl
              have ff := bx10.free
              have HF := hid (show FinP q w4 (cnL P (k + 1)) (cnX P (k + 1)) (w10.setCell ⟨q, 1, none⟩ (.slice va (vs.length + 1) vc)) by
                have h1 := hM10.push (HL9.out.below (below_alloc _ _)) ho10 hg10
                rw [HN1.out, HX2.out] at h1
                exact h1)
              clear hM10 ho10 hg10 bx10 a19
              go_wp2_with fail
              go_roundw
              case rel => exact ⟨k + 1, by omega, by go_num, HF.out⟩
              case measure => simp [intOf]; omega
        · go_upto_region 11 with fail
          obtain ⟨wo, rfl⟩ : ∃ x, x = wr := ⟨wr, rfl⟩
          go_loopw [10, 34] (fun u i wr => ∃ j : Nat, j ≤ R.length - 1 ∧ i = .int .i64 j ∧ Own eI 2 w5.heap.size wr u (cnR R j) ∧ Below w5.heap.size w5 wr) (fun _ i _ => R.length - 1 - (intOf i).toNat)
          case atStart => exact ⟨0, Nat.zero_le _, rfl, by rw [show cnR R 0 = [] by simp [cnR]]; exact Own.nil _ _ _, Below.refl _ _⟩
          case round =>
            obtain ⟨j, hjR, rfl, hrow, hbi⟩ := hrel
            have hnl := cnR_len hjR
            obtain ⟨ns, hns⟩ : ∃ ns, ns = cnR R j := ⟨_, rfl⟩
            rw [← hns] at hrow hnl
            have hnb : ns.length ≤ 1048577 := by omega
            clear hnl
            have HNS := hid hns
            clear hns
            obtain ⟨ra, rc, hrv⟩ := hrow.isSlice
            subst hrv
            have hsi := hbi.size
            have hbri := hb5.trans (hbi.mono hs5)
            by_cases hjl : j < R.length - 1
            · have hji : (j : Int) < ((R.length - 1 : Nat) : Int) := by omega
              obtain ⟨b, hb⟩ : ∃ b, (ofS R)[j + 1]? = some b := ⟨_, List.getElem?_eq_getElem (by rw [HRL.out]; omega)⟩
              have y0 : wr.cell? ⟨g5, 1 + j, none⟩ = some (.string b) := by rw [Nat.add_comm]; exact HWC.out wr hbi (j + 1) b hb
              have CD := ReadDecimal_any b wr (HQS.out _ (List.mem_of_getElem? hb)) (htr.below hbri)
              obtain ⟨n, hnv⟩ : ∃ n, n = rdNv b.data.toList := ⟨_, rfl⟩
              obtain ⟨nf, hnf⟩ : ∃ n, n = rdNb b.data.toList := ⟨_, rfl⟩
              rw [← hnv, ← hnf] at CD
              have HNN := hid (show ns ++ [n] = cnR R (j + 1) by rw [HNS.out, hnv]; exact cnR_next (ofS_at hb))
              clear hb hnv hnf
              go_wp2_with fail
              refine CD.mono ?_
              rintro en w7 ⟨rfl, hb7⟩
              have ho7 := hrow.below hb7
              have hb57 := hbi.trans (hb7.mono hsi)
              have hs7 := hb57.size
              clear CD y0
              go_wp2_with (at_builtin; refine wpList_appA rfl _ _ 51 rfl w5.heap.size 2 _ 8 infIR Tryz.underlying51 rfl _ ns (by rfl) (ho7.alloc _) _ [n] (by rfl) (arr_block (E := eI) (n := 1) [n] #[.int .i64 n] rfl rfl (by decide)) (by unfold maxLen; simp <;> omega) (by simp <;> omega) (by simp <;> omega) ?_)
              intro u8 w8 ho8 hb8 _
              rw [HNN.out] at ho8
              go_wp2_with fail
              go_roundw
              case rel => exact ⟨j + 1, by omega, by go_num, ho8, (hb57.alloc hs7 _).trans hb8⟩
              case measure => simp [intOf]; omega
            · obtain rfl : j = R.length - 1 := by omega
              have hji : ¬ (((R.length - 1 : Nat) : Int) < ((R.length - 1 : Nat) : Int)) := by omega
              have hM0 : MidP q w4 wo.heap.size (.slice la L.length lc) (.slice oa vs.length oc) vs X (.slice ra ns.length rc) ns wr := MidP.mk' HBX.out HST.out HBL.out hbri hrow hs5
              have hL0 := HOL.out.below hbri
              have z0 := HWC.out wr hbi 0 lab HLB.out
              have a0 := hM0.box.cell (j := 0) rfl
              have HM0 := hid hM0
              have HL0 := hid hL0
              have hq1 := hM0.box.lt
              have mR1 : 0 < R.length := hR1
              have hX2 := HN2.out
              rw [← HNS.out] at hX2
              have HX2 := hid hX2
              clear hM0 hL0 hX2
              go_upto_region 16 with fail
              refine wp_region_stg 6 8 (fun c w' => match c with | 0 => Below wr.heap.size wr w' | 1 => (MidP q w4 wo.heap.size (.slice la L.length lc) (.slice oa vs.length oc) vs X (.slice ra ns.length rc) ns w') | _ => FinM q w4 wo.heap.size (.slice oa vs.length oc) vs X (.slice ra ns.length rc) ns (L ++ [lab]) w') (fun c i v w' => match i with
                    | 0 => v = .pointer (some ⟨q, 0, none⟩)
                    | 1 => v = .slice la L.length lc
                    | 2 => v = .slice (some ⟨g5, 0, none⟩) R.length cap5
                    | 3 => v = .pointer (some ⟨g5, 0, none⟩)
                    | 4 => v = .string lab
                    | 5 => (match c with | 0 => (Arr eStr w' v [lab]) | 1 => True | _ => True)
                    | 6 => (match c with | 0 => True | 1 => (Own eStr 9 (q + 1) w' v (L ++ [lab])) | _ => True)
                    | 7 => v = .pointer (some ⟨q, 0, none⟩)
                    | 8 => (match c with | 0 => True | 1 => True | _ => True)
                    | _ => True) (by kernel_rfl) (by kernel_rfl) (by kernel_rfl) (by kernel_rfl) (by kernel_rfl) ?_ ?_ ?_ ?_ ?_ ?_ (by decide) ?_
              · exact (Below.refl _ wr).drew
              · intro c w w' h hb
                match c, h with
                | 0, h => exact Below.trans (B := wr.heap.size) h (hb.mono (Below.size h))
                | 1, h => exact MidP.below h hb
                | (k + 2), h => exact (FinM.below h hb)
              · intro c i v w w' h hb
                match i, h with
                | 0, h => exact h
                | 1, h => exact h
                | 2, h => exact h
                | 3, h => exact h
                | 4, h => exact h
                | 5, h =>
                  match c, h with
                  | 0, h => exact h.below hb
                  | 1, h => exact trivial
                  | (k + 2), h => exact trivial
                | 6, h =>
                  match c, h with
                  | 0, h => exact trivial
                  | 1, h => exact h.below hb
                  | (k + 2), h => exact trivial
                | 7, h => exact h
                | 8, h =>
                  match c, h with
                  | 0, h => exact trivial
                  | 1, h => exact trivial
                  | (k + 2), h => exact trivial
                | (k + 9), h => exact h
              · refine ⟨?_, ?_, ?_, ?_, ?_, ?_, ?_, ?_, ?_, trivial⟩
                · refine .inr (.inr ⟨fun _ => ?_, can_no (by kernel_rfl), can_no (by kernel_rfl)⟩)
                  · intro ρ w' hbw ht hcs hfn hgl hdep G hG
                    replace hbw : Below wr.heap.size wr w' := hbw
                    refine ⟨fun _ => ?_, fun h => by cases h⟩
                    have s6 : ρ (.tmp 6) = .pointer (some ⟨q, 0, none⟩) := ht 6 rfl
                    clear ht hdep hgl
                    go_simp
                    exact hG _ _ (Below.refl _ _) rfl
                · refine .inr (.inr ⟨fun _ => ?_, can_no (by kernel_rfl), can_no (by kernel_rfl)⟩)
                  · intro ρ w' hbw ht hcs hfn hgl hdep G hG
                    replace hbw : Below wr.heap.size wr w' := hbw
                    refine ⟨fun _ => ?_, fun h => by cases h⟩
                    have s48 : ρ (.tmp 48) = .pointer (some ⟨q, 0, none⟩) := hdep ⟨0, .data⟩ (by simp) rfl 48 rfl
                    have a0 := cell_later hbw a0
                    have z0 := cell_later hbw z0
                    clear ht hdep hgl
                    go_simp
                    exact hG _ _ (Below.refl _ _) rfl
                · refine .inr (.inr ⟨fun _ => ?_, can_no (by kernel_rfl), can_no (by kernel_rfl)⟩)
                  · intro ρ w' hbw ht hcs hfn hgl hdep G hG
                    replace hbw : Below wr.heap.size wr w' := hbw
                    refine ⟨fun _ => ?_, fun h => by cases h⟩
                    have s9 : ρ (.tmp 9) = .slice (some ⟨g5, 0, none⟩) R.length cap5 := ht 9 rfl
                    clear ht hdep hgl
                    go_simp
                    exact hG _ _ (Below.refl _ _) rfl
                · refine .inr (.inr ⟨fun _ => ?_, can_no (by kernel_rfl), can_no (by kernel_rfl)⟩)
                  · intro ρ w' hbw ht hcs hfn hgl hdep G hG
                    replace hbw : Below wr.heap.size wr w' := hbw
                    refine ⟨fun _ => ?_, fun h => by cases h⟩
                    have s50 : ρ (.tmp 50) = .slice (some ⟨g5, 0, none⟩) R.length cap5 := hdep ⟨2, .data⟩ (by simp) rfl 50 rfl
                    clear ht hdep hgl
                    go_simp
                    exact hG _ _ (Below.refl _ _) rfl
                · refine .inr (.inr ⟨fun _ => ?_, can_no (by kernel_rfl), can_no (by kernel_rfl)⟩)
                  · intro ρ w' hbw ht hcs hfn hgl hdep G hG
                    replace hbw : Below wr.heap.size wr w' := hbw
                    refine ⟨fun _ => ?_, fun h => by cases h⟩
                    have s51 : ρ (.tmp 51) = .pointer (some ⟨g5, 0, none⟩) := hdep ⟨3, .data⟩ (by simp) rfl 51 rfl
                    have a0 := cell_later hbw a0
                    have z0 := cell_later hbw z0
                    clear ht hdep hgl
                    go_simp
                    exact hG _ _ (Below.refl _ _) rfl
                · refine .inr (.inr ⟨fun _ => ?_, can_no (by kernel_rfl), can_no (by kernel_rfl)⟩)
                  · intro ρ w' hbw ht hcs hfn hgl hdep G hG
                    replace hbw : Below wr.heap.size wr w' := hbw
                    refine ⟨fun _ => ?_, fun h => by cases h⟩
                    have s52 : ρ (.tmp 52) = .string lab := hdep ⟨4, .data⟩ (by simp) rfl 52 rfl
                    clear ht hdep hgl
                    go_simp
                    exact hG _ _ (below_alloc _ _) (arr_block1 (E := eStr) (n := 1) [lab] #[.string lab] rfl rfl (by decide) (by simp))
                · exact .inl rfl
                · refine .inr (.inr ⟨fun _ => ?_, fun _ => ?_, can_no (by kernel_rfl)⟩)
                  · intro ρ w' hbw ht hcs hfn hgl hdep G hG
                    replace hbw : Below wr.heap.size wr w' := hbw
                    refine ⟨fun _ => ?_, fun h => by cases h⟩
                    have s6 : ρ (.tmp 6) = .pointer (some ⟨q, 0, none⟩) := ht 6 rfl
                    clear ht hdep hgl
                    go_simp
                    exact hG _ _ (Below.refl _ _) rfl
                  · intro ρ w' hbw ht hcs hfn hgl hdep G hG
                    replace hbw : (MidP q w4 wo.heap.size (.slice la L.length lc) (.slice oa vs.length oc) vs X (.slice ra ns.length rc) ns w') := hbw
                    refine ⟨fun _ => ?_, fun h => by cases h⟩
                    have s6 : ρ (.tmp 6) = .pointer (some ⟨q, 0, none⟩) := ht 6 rfl
                    clear ht hdep hgl
                    go_simp
                    exact hG _ _ (Below.refl _ _) rfl
                · exact .inr (.inl rfl)
              · intro o ho
                obtain rfl := Option.some.inj ho
                intro ρ w' hbw ht hcs hfn hgl hdep G hG
                replace hbw : Below wr.heap.size wr w' := hbw
                refine ⟨fun _ => ?_, fun h => by cases h⟩
                have s49 : ρ (.tmp 49) = .slice la L.length lc := hdep ⟨1, .data⟩ (by simp) rfl 49 rfl
                have d53 := hdep ⟨5, .data⟩ (by simp) rfl 53 rfl
                clear ht hdep hgl
                refine upon_appO _ _ 30 (by rfl) (q + 1) 9 _ 16 infoStr2 Tryz.underlying30 rfl _ L s49 (HL0.out.below hbw) [lab] d53 (by unfold maxLen; simp <;> omega) (by simp <;> omega) (by have := hbw.size; omega) ?_
                intro v' wA hoA hgA hlA
                refine hG _ _ ((HM0.out.below hbw).grown (HL0.out.below hbw) hgA) hoA ?_
                intro j u hj hne h
                match j, h with
                | 0, h => exact h
                | 1, h => exact h
                | 2, h => exact h
                | 3, h => exact h
                | 4, h => exact h
                | 5, h => exact trivial
                | 6, h => exact absurd rfl hne
                | 7, h => exact h
                | 8, h => exact trivial
                | (k + 9), h => exact h
              · intro o ho
                obtain rfl := Option.some.inj ho
                intro ρ w' hbw ht hcs hfn hgl hdep G hG
                replace hbw : (MidP q w4 wo.heap.size (.slice la L.length lc) (.slice oa vs.length oc) vs X (.slice ra ns.length rc) ns w') := hbw
                refine ⟨fun _ => ?_, fun h => by cases h⟩
                have s55 : ρ (.tmp 55) = .pointer (some ⟨q, 0, none⟩) := hdep ⟨7, .data⟩ (by simp) rfl 55 rfl
                have d54 := hdep ⟨6, .data⟩ (by simp) rfl 54 rfl
                clear ht hdep hgl
                have h54 : Own eStr 9 (q + 1) w' (ρ (.tmp 54)) (L ++ [lab]) := d54
                obtain ⟨ua, uc, hu⟩ := h54.isSlice
                rw [show (L ++ [lab]).length = L.length + 1 by simp] at hu
                rw [hu] at h54
                have f0 := hbw.box.cell (j := 0) rfl
                have ff := hbw.box.free
                have hx := hid (show FinM q w4 wo.heap.size (.slice oa vs.length oc) vs X (.slice ra ns.length rc) ns (L ++ [lab]) (w'.setCell ⟨q, 0, none⟩ (.slice ua (L.length + 1) uc)) from ⟨_, hbw.set _, h54.setBelow (Nat.lt_succ_self q) _⟩)
                clear h54
                go_simp
                refine hG _ _ hx.out trivial ?_
                intro j u hj hne h
                match j, h with
                | 0, h => exact h
                | 1, h => exact h
                | 2, h => exact h
                | 3, h => exact h
                | 4, h => exact h
                | 5, h => exact trivial
                | 6, h => exact trivial
                | 7, h => exact h
                | 8, h => exact trivial
                | (k + 9), h => exact h
              intro xx w9 hF hx
              clear hx
              simp only [putAll, Act.put, List.setIfInBounds_toArray, List.set_cons_succ, List.set_cons_zero, Nat.zero_add, Nat.reduceAdd]
              obtain ⟨ul, hM9, hL9⟩ := hF
              obtain ⟨ua, uc, hul⟩ := hL9.isSlice
              rw [show (L ++ [lab]).length = L.length + 1 by simp] at hul
              subst hul
              have a19 := hM9.box.cell (j := 1) rfl
              have hs9 := hM9.hi1
              have hi9 := hM9.hi2
              have HM9 := hid hM9
              have HL9 := hid hL9
              clear hM9 hL9 a0 z0
              go_wp2_with (at_builtin; refine wpList_appO2 rfl _ _ 31 rfl (q + 1) 51 _ 24 infRowR Tryz.underlying31 rfl _ vs (by rfl) ((HM9.out.below (below_alloc _ (.cells #[.slice ra ns.length rc] 51))).nest.outer.1) _ [(⟨ra, ns.length, rc⟩ : SV)] (by rfl) (arr_block (E := eS1) (n := 1) [(⟨ra, ns.length, rc⟩ : SV)] #[.slice ra ns.length rc] rfl rfl (by decide)) (by unfold maxLen; simp <;> omega) (by simp <;> omega) (by simp <;> omega) ?_)
              intro u10 w10 ho10 hg10
              obtain ⟨va, vc, hu10⟩ := ho10.isSlice
              rw [show (vs ++ [(⟨ra, ns.length, rc⟩ : SV)]).length = vs.length + 1 by simp] at hu10
              subst hu10
              have hM10 : MidP q w4 wo.heap.size (.slice ua (L.length + 1) uc) (.slice oa vs.length oc) vs X (SV.val ⟨ra, ns.length, rc⟩) ns (w9.alloc (.cells #[.slice ra ns.length rc] 51)) := HM9.out.below (below_alloc _ _)
              have bx10 := hM10.pushBox hg10
              have f0 := bx10.cell (j := 1) rfl
              have ff := bx10.free
              have HF := hid (show FinP q w4 (cnL P (k + 1)) (cnX P (k + 1)) (w10.setCell ⟨q, 1, none⟩ (.slice va (vs.length + 1) vc)) by
                have h1 := hM10.push (HL9.out.below (below_alloc _ _)) ho10 hg10
                rw [HN1.out, HX2.out] at h1
                exact h1)
              clear hM10 ho10 hg10 bx10 a19
              go_wp2_with fail
              go_roundw
              case rel => exact ⟨k + 1, by omega, by go_num, HF.out⟩
              case measure => simp [intOf]; omega
      · obtain rfl : k = P.length := by omega
        have hli : ¬ ((P.length : Int) < (P.length : Int)) := by omega
        have hif := HIF.out
        rw [← HL.out, ← HX.out] at hif
        have hok := okCandX HP.out hs
        have hgd := goodCandX HP.out hs
        rw [cn_all, ← HL.out, ← HX.out] at hok hgd
        have a0 := hbx.cell (j := 0) rfl
        have a1 := hbx.cell (j := 1) rfl
        have hat : ∀ (w' : World), Below wr.heap.size wr w' → rPerceptron.at_ 0 w'.heap.size w' (.agg #[.slice la L.length lc, .slice oa vs.length oc]) (L, X) := fun w' hb => ⟨_, _, rfl, (hoL.arr.below hb).in_, NestIn.mono (rInt64SS.own_at (NestSt.nowR hst hb).own) (Nat.zero_le _) (Nat.le_refl _)⟩
        have CV := implValidPerceptron_any _ (L, X) wr (hat wr (Below.refl _ _)) hok hgd
        cases hv : pcOk (L, X)
        · have HZ := hid (rdPc_none (show readPc s = none by rw [hif, hv]; rfl))
          rw [hv] at CV
          clear hif hv
          go_wp2_with fail
          refine CV.mono ?_
          rintro en w2 ⟨rfl, hb2⟩
          have bx2 := bxr.later hb2
          have b0 := bx2.cell (j := 0) rfl
          have b1 := bx2.cell (j := 1) rfl
          have bf := bx2.free
          go_wp2_with fail
          refine bodyPost_ret (v := .tuple #[.agg #[.slice none 0 0, .slice none 0 0], .bool false]) (by simp [results, Tryz.results11, go_sem, b0, b1]) rfl (finish _ _ _ _ _ _ _ HZ (Own.nil _ _ _) (nilNest _ _ _) ?_)
          exact ((hbr.trans (hb2.mono hbr.size)).setCell hge1 _).setCell hge1 _
        · rw [hv] at CV
          have CT := fun (w' : World) (hb : Below wr.heap.size wr w') => implPerceptronText_any _ (L, X) w' (hat w' hb) hok hgd (htr.below hb).tab
          obtain ⟨TX, hTX⟩ : ∃ TX, TX = pcpS (L, X) := ⟨_, rfl⟩
          rw [← hTX] at CT
          cases hq : eqS TX s
          · have HZ := hid (rdPc_none (show readPc s = none by rw [hif, hv, ← hTX, hq]; rfl))
            have hq' : (TX.toList == s.toList) = false := hq
            clear hif hTX hq hv
            go_wp2_with fail
            refine CV.mono ?_
            rintro en w2 ⟨rfl, hb2⟩
            have a02 := cell_later hb2 a0
            have a12 := cell_later hb2 a1
            go_wp2_with fail
            refine (CT w2 hb2).mono ?_
            rintro en w3 ⟨rfl, hb3⟩
            have hb23 := hb2.trans (hb3.mono hb2.size)
            have bx2 := bxr.later hb23
            have b0 := bx2.cell (j := 0) rfl
            have b1 := bx2.cell (j := 1) rfl
            have bf := bx2.free
            clear a02 a12
            go_wp2_with fail
            refine bodyPost_ret (v := .tuple #[.agg #[.slice none 0 0, .slice none 0 0], .bool false]) (by simp [results, Tryz.results11, go_sem, b0, b1]) rfl (finish _ _ _ _ _ _ _ HZ (Own.nil _ _ _) (nilNest _ _ _) ?_)
            exact ((hbr.trans (hb23.mono hbr.size)).setCell hge1 _).setCell hge1 _
          · have HZ := hid (rdPc_some (show readPc s = some (L, X) by rw [hif, hv, ← hTX, hq]; rfl))
            have hq' : (TX.toList == s.toList) = true := hq
            clear hif hTX hq hv
            go_wp2_with fail
            refine CV.mono ?_
            rintro en w2 ⟨rfl, hb2⟩
            have a02 := cell_later hb2 a0
            have a12 := cell_later hb2 a1
            go_wp2_with fail
            refine (CT w2 hb2).mono ?_
            rintro en w3 ⟨rfl, hb3⟩
            have hb23 := hb2.trans (hb3.mono hb2.size)
            have bx2 := bxr.later hb23
            have b0 := bx2.cell (j := 0) rfl
            have b1 := bx2.cell (j := 1) rfl
            have bf := bx2.free
            have a03 := cell_later hb3 a02
            have a13 := cell_later hb3 a12
            have ho3 := hoL.below hb23
            have hn3 : NestP (q + 1) w3.heap.size (.slice oa vs.length oc) vs X w3 := NestSt.nowR hst hb23
            go_wp2_with fail
            refine bodyPost_ret (v := .tuple #[.agg #[.slice la L.length lc, .slice oa vs.length oc], .bool true]) (by simp [results, Tryz.results11, go_sem, b0, b1]) rfl (finish _ _ _ vs _ _ _ HZ (((ho3.setBelow (a := ⟨p1, 0, none⟩) (by show p1 < q + 1; omega) _).setBelow (a := ⟨p1, 1, none⟩) (by show p1 < q + 1; omega) _).mono (by omega)) ?_ ?_)
            · exact nest_set2 hn3 (by omega) (by omega)
            · exact ((hbr.trans (hb23.mono hbr.size)).setCell hge1 _).setCell hge1 _
end Go.Proofs.YtbgjojnjbplblaaGreatDoor
