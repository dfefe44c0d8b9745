/- MistakesOf: the call of the program. Written by genmis.py. -/
import Derived.Test.YtdifhnckhocmdaaPcMisP
import Derived.Test.YtdifhnckhocmdaaPcTr2
namespace Go.Proofs.Ytdifhnckhocmdaa
open Go.RowKit

set_option maxRecDepth 100000 in
set_option maxHeartbeats 8000000 in
theorem implMistakesOf_any (v1 : Value) (x : XPerceptron) (v2 : Value) (l : XSampleS) (w : World) {lo1 hi1 lo2 hi2 : Nat} (h1 : rPerceptron.at_ lo1 hi1 w v1 x) (h2 : rSampleS.at_ lo2 hi2 w v2 l) (ok1 : okPerceptron x) (ok2 : okSampleS l) (g1 : goodPerceptron x) (g2 : goodSampleS l) :
    Calls Try.prog 36 #[v1, v2] w (RetNew rInt64S (misX x l) #[.int .i64 (trCode x l)] w) := by
  obtain ⟨u1, u2, rfl, h3, h4⟩ := h1
  obtain ⟨x1, x2⟩ := x
  obtain ⟨hn1, hn2⟩ := ok1
  unfold goodPerceptron at g1
  simp only at h3 h4 hn1 hn2 g1
  replace h3 := rStringS_arr h3
  replace h4 := rowsI_at h4
  replace h2 := smps_at h2
  obtain ⟨W, hW⟩ : ∃ u, u = (w.alloc (.cells #[u1, u2] 28)) := ⟨_, rfl⟩
  have hbW : Below w.heap.size w W := by rw [hW]; exact belowA1 _ _
  have q1 : Box W (w.heap.size) #[u1, u2] 28 := by
    have hq := Box.new w #[u1, u2] 28
    rw [hW]
    exact hq
  obtain ⟨p1, hp1⟩ : ∃ p, p = w.heap.size := ⟨_, rfl⟩
  rw [← hp1] at q1
  have hge1 : w.heap.size ≤ p1 := by omega
  have hlW : w.heap.size ≤ W.heap.size := hbW.size
  have hlp1 : p1 < W.heap.size := q1.lt
  have HP1 := hid hp1
  have HW := hid hW
  clear hW hp1
  have h3W := h3.below hbW
  have h4W := h4.below hbW
  have h2W := h2.below hbW
  have m0 := q1.cell (j := 0) rfl
  have m1 := q1.cell (j := 1) rfl
  have CO := trainable_any u1 u2 v2 (x1, x2) l W h3W h4W h2W ⟨hn1, hn2⟩ g1 (okSl_of ok2) g2
  by_cases hc : trCode (x1, x2) l = 0
  case neg =>
    have HG : Hid (misX (x1, x2) l = []) := hid (by rw [misX, if_neg hc])
    generalize trCode (x1, x2) l = n at *
    have hc1 : (n == 0) = false := by rw [beq_eq_false_iff_ne]; exact hc
    have hc2 : (n != 0) = true := by rw [bne_iff_ne]; exact hc
    clear hc
    go_enter Try.func36, Try.ntmps36
    go_wp2_with fail
    rw [← HP1.out, ← HW.out]
    (go_wp2_with fail); refine CO.mono ?_
    rintro e w2 ⟨rfl, hb⟩
    go_wp2_with fail
    go_ret2
    rw [HG.out]
    exact ⟨_, rfl, rInt64S_own (Own.nil _ _ w.heap.size) (Nat.le_refl _), hbW.trans (hb.mono hlW)⟩
  obtain ⟨hp, hsm, _, h40⟩ := trCode_zero hc
  have HG : Hid (misX (x1, x2) l = misTo (x1, x2) l l.length) := hid (by rw [misX, if_pos hc])
  rw [hc] at CO ⊢
  have HP : Hid ((∀ r ∈ x2, rowOk r = true) ∧ x2.length = x1.length ∧ 1 ≤ x1.length ∧ x1.length ≤ 12) := hid (pcOk_rows hp)
  have HPC := hid hp
  have HSM := hid h2W
  have HSO := hid hsm
  obtain ⟨bL, offL, aoL, capL, hvL, hncL, hcmL, haoL, hcL⟩ := h3W
  obtain ⟨haoL', hbwL⟩ := haoL (by have := HP.out.2; omega)
  subst haoL'
  subst hvL
  unfold maxLen at hcmL
  obtain ⟨b, off, ao, cap, es, rfl, hnc, hcm, hao, hcl, hul, hin⟩ := h2W.slice
  unfold maxLen at hcm
  clear hcl hul hin h2W h2 h3 h4 hc hp hsm q1 haoL
  go_enter Try.func36, Try.ntmps36
  go_wp2_with fail
  rw [← HP1.out, ← HW.out]
  (go_wp2_with fail); refine CO.mono ?_
  rintro e w2 ⟨rfl, hb2⟩
  clear CO
  go_wp2_with fail
  go_loopw [7, 18] (fun u i wr => ∃ k : Nat, k ≤ l.length ∧ i = .int .i64 k ∧ Own eI 2 W.heap.size wr u (misTo (x1, x2) l k) ∧ Below W.heap.size W wr) (fun _ i _ => l.length - (intOf i).toNat)
  case atStart => exact ⟨0, Nat.zero_le _, rfl, Own.nil _ _ _, hb2⟩
  case round =>
    clear hb2
    obtain ⟨k, hk, rfl, hown, hb⟩ := hrel
    have hbs := hb.size
    by_cases hlt : k < l.length
    · obtain ⟨hao', hbw⟩ := hao (by omega)
      subst hao'
      obtain ⟨s, he⟩ : ∃ s, l[k]? = some s := ⟨_, List.getElem?_eq_getElem hlt⟩
      have hso := HSO.out s (List.mem_of_getElem? he)
      have hfo := smpOk_feats hso
      obtain ⟨b2, off2, cap2, sa, sc, hsl, _, _, c0, c1, hA⟩ := (HSM.out.below hb).get he
      simp only [Value.slice.injEq, Option.some.injEq, Addr.mk.injEq] at hsl
      obtain ⟨⟨rfl, rfl, _⟩, _, rfl⟩ := hsl
      obtain ⟨lab, hlab⟩ : ∃ t, x1[clsI (x1, x2) s.2]? = some t := cls_lab HPC.out
      have hgot : gotL (x1, x2) s = lab := by simp [gotL, hlab]
      obtain ⟨S, hS⟩ : ∃ S, S = scoresF x2 (inpF s.2) := ⟨_, rfl⟩
      have hS1 : 1 ≤ S.length := by rw [hS, scoresF_len]; have := HP.out.2; omega
      have hS12 : S.length ≤ 12 := by rw [hS, scoresF_len]; have := HP.out.2; omega
      obtain ⟨B, hB⟩ : ∃ B, B = bestI S := ⟨_, rfl⟩
      have hI : clsI (x1, x2) s.2 = B := by rw [hB, hS]; rfl
      rw [hI] at hlab
      have hlx : (B : Int) < (x1.length : Int) := by have := (List.getElem?_eq_some_iff.1 hlab).1; omega
      have hli : (k : Int) < (l.length : Int) := by omega
      have n0 := cell_later hb m0
      have n1 := cell_later hb m1
      have eL := eStr_cell (hcL.below hb hbwL) hlab
      obtain ⟨wB, hwB⟩ : ∃ wB, wB = wr.alloc (.cells #[.string s.1, .slice sa s.2.length sc] 67) := ⟨_, rfl⟩
      have hbB : Below W.heap.size W wB := by rw [hwB]; exact hb.alloc hbs _
      have hbB0 : Below wr.heap.size wr wB := by rw [hwB]; exact below_alloc _ _
      have r0 : wB.cell? ⟨wr.heap.size, 0, none⟩ = some (.string s.1) := by rw [hwB]; simp
      have r1 : wB.cell? ⟨wr.heap.size, 1, none⟩ = some (.slice sa s.2.length sc) := by rw [hwB]; simp
      have hAB := hA.below hbB0
      have k0 := cell_later hbB0 n0
      have k1 := cell_later hbB0 n1
      have kL := cell_later hbB0 eL
      have hownB := hown.below hbB0
      have CI := fun w' (hbw : Below wB.heap.size wB w') => inputOf_any _ s.2 w' (hAB.below hbw) hfo
      have CS := fun u w' (hbw : Below wB.heap.size wB w') (hA : Arr eI w' u (inpF s.2)) => scoresOf_any (.slice (some ⟨bL, offL, none⟩) x1.length capL) u2 u x2 (inpF s.2) w' (h4W.below (hbB.trans (hbw.mono hbB.size))) hA (okInp_of hfo) HP.out.1 (by have := HP.out.2; omega)
      have CB := fun u w' (hA : Arr eI w' u S) => winner_any u S w' hA hS1 (by omega)
      rw [← hS] at CS
      rw [← hB] at CB
      have HE := hid he
      have HGOT := hid hgot
      clear hlab hI hB hS he hgot hao hso hA hown
      cases hw : (lab.toList == s.1.toList)
      · have hw2 : (lab.toList != s.1.toList) = true := by rw [bne, hw]; rfl
        have HT := hid (misAt_t (x := (x1, x2)) HE.out (by unfold wrongB; rw [HGOT.out, hw]; rfl))
        have hml := misTo_len (x1, x2) l k
        go_wp2_with fail
        rw [← hwB]
        clear hwB
        refine wp_region_rel (fun i v w' => match i with
            | 0 => v = .pointer (some ⟨p1, 0, none⟩)
            | 1 => v = .slice (some ⟨bL, offL, none⟩) x1.length capL
            | 2 => v = .agg #[.slice (some ⟨bL, offL, none⟩) x1.length capL, u2]
            | 3 => v = .pointer (some ⟨wr.heap.size, 1, none⟩)
            | 4 => v = .slice sa s.2.length sc
            | 5 => rInt64S.own wB.heap.size w'.heap.size w' v (inpF s.2)
            | 6 => rInt64S.own wB.heap.size w'.heap.size w' v (S)
            | 7 => v = .int .i64 B
            | 8 => v = .pointer (some ⟨bL, offL + B, none⟩)
            | 9 => v = .string lab
            | 10 => v = .pointer (some ⟨wr.heap.size, 0, none⟩)
            | 11 => v = .string s.1
            | _ => v = .bool true) (by kernel_rfl) (by kernel_rfl) (by kernel_rfl) (by kernel_rfl) ?_ ?_ ?_
        · intro i v w w' h hb
          match i, h with
          | 0, h => exact h
          | 1, h => exact h
          | 2, h => exact h
          | 3, h => exact h
          | 4, h => exact h
          | 5, h => exact rInt64S.own_now h hb
          | 6, h => exact rInt64S.own_now h hb
          | 7, h => exact h
          | 8, h => exact h
          | 9, h => exact h
          | 10, h => exact h
          | 11, h => exact h
          | (m + 12), h => exact h
        · refine ⟨?_, ?_, ?_, ?_, ?_, ?_, ?_, ?_, ?_, ?_, ?_, ?_, ?_, trivial⟩
          · intro ρ w' hbw ht hcs hfn hgl hdep
            refine ⟨fun _ => ?_, fun h => by cases h⟩
            have s2 : ρ (.tmp 2) = .pointer (some ⟨p1, 0, none⟩) := ht 2 rfl
            clear ht hdep
            go_simp
            exact ⟨Below.refl _ _, rfl⟩
          · intro ρ w' hbw ht hcs hfn hgl hdep
            refine ⟨fun _ => ?_, fun h => by cases h⟩
            have s23 : ρ (.tmp 23) = .pointer (some ⟨p1, 0, none⟩) := hdep ⟨0, .data⟩ (by simp) rfl 23 rfl
            have d0 := cell_later hbw k0
            clear ht hdep
            go_simp
            exact ⟨Below.refl _ _, rfl⟩
          · intro ρ w' hbw ht hcs hfn hgl hdep
            refine ⟨fun _ => ?_, fun h => by cases h⟩
            have s2 : ρ (.tmp 2) = .pointer (some ⟨p1, 0, none⟩) := ht 2 rfl
            have d0 := cell_later hbw k0
            have d1 := cell_later hbw k1
            clear ht hdep
            go_simp
            exact ⟨Below.refl _ _, rfl⟩
          · intro ρ w' hbw ht hcs hfn hgl hdep
            refine ⟨fun _ => ?_, fun h => by cases h⟩
            have s9 : ρ (.tmp 9) = .pointer (some ⟨wr.heap.size, 0, none⟩) := ht 9 rfl
            clear ht hdep
            go_simp
            exact ⟨Below.refl _ _, rfl⟩
          · intro ρ w' hbw ht hcs hfn hgl hdep
            refine ⟨fun _ => ?_, fun h => by cases h⟩
            have s26 : ρ (.tmp 26) = .pointer (some ⟨wr.heap.size, 1, none⟩) := hdep ⟨3, .data⟩ (by simp) rfl 26 rfl
            have d2 := cell_later hbw r1
            clear ht hdep
            go_simp
            exact ⟨Below.refl _ _, rfl⟩
          · intro ρ w' hbw ht hcs hfn hgl hdep
            refine ⟨fun _ => ?_, fun h => by cases h⟩
            have s27 : ρ (.tmp 27) = .slice sa s.2.length sc := hdep ⟨4, .data⟩ (by simp) rfl 27 rfl
            clear ht hdep
            go_simp
            exact (CI w' hbw).mono fun e w'' ⟨u, he, ho, hb⟩ => ⟨_, he, hb, rInt64S.own_mono ho hbw.size (Nat.le_refl _)⟩
          · intro ρ w' hbw ht hcs hfn hgl hdep
            refine ⟨fun _ => ?_, fun h => by cases h⟩
            have s25 : ρ (.tmp 25) = .agg #[.slice (some ⟨bL, offL, none⟩) x1.length capL, u2] := hdep ⟨2, .data⟩ (by simp) rfl 25 rfl
            have o28 := hdep ⟨5, .data⟩ (by simp) rfl 28 rfl
            clear ht hdep
            go_simp
            exact (CS _ w' hbw (rInt64S_arr (rInt64S.own_at o28))).mono fun e w'' ⟨u, he, ho, hb⟩ => ⟨_, he, hb, rInt64S.own_mono ho hbw.size (Nat.le_refl _)⟩
          · intro ρ w' hbw ht hcs hfn hgl hdep
            refine ⟨fun _ => ?_, fun h => by cases h⟩
            have o29 := hdep ⟨6, .data⟩ (by simp) rfl 29 rfl
            clear ht hdep
            go_simp
            exact (CB _ w' (rInt64S_arr (rInt64S.own_at o29))).mono fun e w'' ⟨he, hw⟩ => ⟨_, he, hw ▸ Below.refl _ _, rfl⟩
          · intro ρ w' hbw ht hcs hfn hgl hdep
            refine ⟨fun _ => ?_, fun h => by cases h⟩
            have s24 : ρ (.tmp 24) = .slice (some ⟨bL, offL, none⟩) x1.length capL := hdep ⟨1, .data⟩ (by simp) rfl 24 rfl
            have s30 : ρ (.tmp 30) = .int .i64 B := hdep ⟨7, .data⟩ (by simp) rfl 30 rfl
            clear ht hdep
            go_simp
            exact ⟨Below.refl _ _, rfl⟩
          · intro ρ w' hbw ht hcs hfn hgl hdep
            refine ⟨fun _ => ?_, fun h => by cases h⟩
            have s31 : ρ (.tmp 31) = .pointer (some ⟨bL, offL + B, none⟩) := hdep ⟨8, .data⟩ (by simp) rfl 31 rfl
            have d3 := cell_later hbw kL
            clear ht hdep
            go_simp
            exact ⟨Below.refl _ _, rfl⟩
          · intro ρ w' hbw ht hcs hfn hgl hdep
            refine ⟨fun _ => ?_, fun h => by cases h⟩
            have s9 : ρ (.tmp 9) = .pointer (some ⟨wr.heap.size, 0, none⟩) := ht 9 rfl
            clear ht hdep
            go_simp
            exact ⟨Below.refl _ _, rfl⟩
          · intro ρ w' hbw ht hcs hfn hgl hdep
            refine ⟨fun _ => ?_, fun h => by cases h⟩
            have s33 : ρ (.tmp 33) = .pointer (some ⟨wr.heap.size, 0, none⟩) := hdep ⟨10, .data⟩ (by simp) rfl 33 rfl
            have d4 := cell_later hbw r0
            clear ht hdep
            go_simp
            exact ⟨Below.refl _ _, rfl⟩
          · intro ρ w' hbw ht hcs hfn hgl hdep
            refine ⟨fun _ => ?_, fun h => by cases h⟩
            have s32 : ρ (.tmp 32) = .string lab := hdep ⟨9, .data⟩ (by simp) rfl 32 rfl
            have s34 : ρ (.tmp 34) = .string s.1 := hdep ⟨11, .data⟩ (by simp) rfl 34 rfl
            clear ht hdep
            go_simp
            exact ⟨Below.refl _ _, rfl⟩
        · intro z w2 hbR hx
          have hx0 : z 0 = .pointer (some ⟨p1, 0, none⟩) := hx 0 (by simp)
          have hx1 : z 1 = .slice (some ⟨bL, offL, none⟩) x1.length capL := hx 1 (by simp)
          have hx2 : z 2 = .agg #[.slice (some ⟨bL, offL, none⟩) x1.length capL, u2] := hx 2 (by simp)
          have hx3 : z 3 = .pointer (some ⟨wr.heap.size, 1, none⟩) := hx 3 (by simp)
          have hx4 : z 4 = .slice sa s.2.length sc := hx 4 (by simp)
          have hx7 : z 7 = .int .i64 B := hx 7 (by simp)
          have hx8 : z 8 = .pointer (some ⟨bL, offL + B, none⟩) := hx 8 (by simp)
          have hx9 : z 9 = .string lab := hx 9 (by simp)
          have hx10 : z 10 = .pointer (some ⟨wr.heap.size, 0, none⟩) := hx 10 (by simp)
          have hx11 : z 11 = .string s.1 := hx 11 (by simp)
          have hx12 : z 12 = .bool true := hx 12 (by simp)
          clear hx
          simp only [putAll, Act.put, List.setIfInBounds_toArray, List.set_cons_succ, List.set_cons_zero, Nat.zero_add, Nat.reduceAdd, hx0, hx1, hx2, hx3, hx4, hx7, hx8, hx9, hx10, hx11, hx12]
          generalize z 5 = kz5 at *
          generalize z 6 = kz6 at *
          clear hx0 hx1 hx2 hx3 hx4 hx7 hx8 hx9 hx10 hx11 hx12
          replace hownB := hownB.below hbR
          replace hbB := hbB.trans (hbR.mono hbB.size)
          have hbs := hbB.size
          clear CI CS CB
          go_wp2_with (at_builtin; (refine wpList_appA rfl _ _ 41 rfl W.heap.size 2 _ 8 infoI Try.underlying41 rfl _ _ rfl (hownB.alloc _) _ [(k : Int)] rfl (by exact arr_block1 (E := eI) (n := 1) [(k : Int)] #[.int .i64 k] rfl rfl (by decide) (by simp)) (by unfold maxLen; simp <;> omega) (by simp <;> omega) (by simp <;> omega) ?_; intro v' wA hoA hbA htA))
          have hbA' := (hbB.alloc hbs _).trans hbA
          go_roundw
          case rel => exact ⟨k + 1, by omega, by go_num, by rw [HT.out]; exact hoA, hbA'⟩
          case measure => simp [intOf]; omega
      · have hw2 : (lab.toList != s.1.toList) = false := by rw [bne, hw]; rfl
        have HT := hid (misAt_f (x := (x1, x2)) HE.out (by unfold wrongB; rw [HGOT.out, hw]; rfl))
        have hml := misTo_len (x1, x2) l k
        go_wp2_with fail
        rw [← hwB]
        clear hwB
        refine wp_region_rel (fun i v w' => match i with
            | 0 => v = .pointer (some ⟨p1, 0, none⟩)
            | 1 => v = .slice (some ⟨bL, offL, none⟩) x1.length capL
            | 2 => v = .agg #[.slice (some ⟨bL, offL, none⟩) x1.length capL, u2]
            | 3 => v = .pointer (some ⟨wr.heap.size, 1, none⟩)
            | 4 => v = .slice sa s.2.length sc
            | 5 => rInt64S.own wB.heap.size w'.heap.size w' v (inpF s.2)
            | 6 => rInt64S.own wB.heap.size w'.heap.size w' v (S)
            | 7 => v = .int .i64 B
            | 8 => v = .pointer (some ⟨bL, offL + B, none⟩)
            | 9 => v = .string lab
            | 10 => v = .pointer (some ⟨wr.heap.size, 0, none⟩)
            | 11 => v = .string s.1
            | _ => v = .bool false) (by kernel_rfl) (by kernel_rfl) (by kernel_rfl) (by kernel_rfl) ?_ ?_ ?_
        · intro i v w w' h hb
          match i, h with
          | 0, h => exact h
          | 1, h => exact h
          | 2, h => exact h
          | 3, h => exact h
          | 4, h => exact h
          | 5, h => exact rInt64S.own_now h hb
          | 6, h => exact rInt64S.own_now h hb
          | 7, h => exact h
          | 8, h => exact h
          | 9, h => exact h
          | 10, h => exact h
          | 11, h => exact h
          | (m + 12), h => exact h
        · refine ⟨?_, ?_, ?_, ?_, ?_, ?_, ?_, ?_, ?_, ?_, ?_, ?_, ?_, trivial⟩
          · intro ρ w' hbw ht hcs hfn hgl hdep
            refine ⟨fun _ => ?_, fun h => by cases h⟩
            have s2 : ρ (.tmp 2) = .pointer (some ⟨p1, 0, none⟩) := ht 2 rfl
            clear ht hdep
            go_simp
            exact ⟨Below.refl _ _, rfl⟩
          · intro ρ w' hbw ht hcs hfn hgl hdep
            refine ⟨fun _ => ?_, fun h => by cases h⟩
            have s23 : ρ (.tmp 23) = .pointer (some ⟨p1, 0, none⟩) := hdep ⟨0, .data⟩ (by simp) rfl 23 rfl
            have d0 := cell_later hbw k0
            clear ht hdep
            go_simp
            exact ⟨Below.refl _ _, rfl⟩
          · intro ρ w' hbw ht hcs hfn hgl hdep
            refine ⟨fun _ => ?_, fun h => by cases h⟩
            have s2 : ρ (.tmp 2) = .pointer (some ⟨p1, 0, none⟩) := ht 2 rfl
            have d0 := cell_later hbw k0
            have d1 := cell_later hbw k1
            clear ht hdep
            go_simp
            exact ⟨Below.refl _ _, rfl⟩
          · intro ρ w' hbw ht hcs hfn hgl hdep
            refine ⟨fun _ => ?_, fun h => by cases h⟩
            have s9 : ρ (.tmp 9) = .pointer (some ⟨wr.heap.size, 0, none⟩) := ht 9 rfl
            clear ht hdep
            go_simp
            exact ⟨Below.refl _ _, rfl⟩
          · intro ρ w' hbw ht hcs hfn hgl hdep
            refine ⟨fun _ => ?_, fun h => by cases h⟩
            have s26 : ρ (.tmp 26) = .pointer (some ⟨wr.heap.size, 1, none⟩) := hdep ⟨3, .data⟩ (by simp) rfl 26 rfl
            have d2 := cell_later hbw r1
            clear ht hdep
            go_simp
            exact ⟨Below.refl _ _, rfl⟩
          · intro ρ w' hbw ht hcs hfn hgl hdep
            refine ⟨fun _ => ?_, fun h => by cases h⟩
            have s27 : ρ (.tmp 27) = .slice sa s.2.length sc := hdep ⟨4, .data⟩ (by simp) rfl 27 rfl
            clear ht hdep
            go_simp
            exact (CI w' hbw).mono fun e w'' ⟨u, he, ho, hb⟩ => ⟨_, he, hb, rInt64S.own_mono ho hbw.size (Nat.le_refl _)⟩
          · intro ρ w' hbw ht hcs hfn hgl hdep
            refine ⟨fun _ => ?_, fun h => by cases h⟩
            have s25 : ρ (.tmp 25) = .agg #[.slice (some ⟨bL, offL, none⟩) x1.length capL, u2] := hdep ⟨2, .data⟩ (by simp) rfl 25 rfl
            have o28 := hdep ⟨5, .data⟩ (by simp) rfl 28 rfl
            clear ht hdep
            go_simp
            exact (CS _ w' hbw (rInt64S_arr (rInt64S.own_at o28))).mono fun e w'' ⟨u, he, ho, hb⟩ => ⟨_, he, hb, rInt64S.own_mono ho hbw.size (Nat.le_refl _)⟩
          · intro ρ w' hbw ht hcs hfn hgl hdep
            refine ⟨fun _ => ?_, fun h => by cases h⟩
            have o29 := hdep ⟨6, .data⟩ (by simp) rfl 29 rfl
            clear ht hdep
            go_simp
            exact (CB _ w' (rInt64S_arr (rInt64S.own_at o29))).mono fun e w'' ⟨he, hw⟩ => ⟨_, he, hw ▸ Below.refl _ _, rfl⟩
          · intro ρ w' hbw ht hcs hfn hgl hdep
            refine ⟨fun _ => ?_, fun h => by cases h⟩
            have s24 : ρ (.tmp 24) = .slice (some ⟨bL, offL, none⟩) x1.length capL := hdep ⟨1, .data⟩ (by simp) rfl 24 rfl
            have s30 : ρ (.tmp 30) = .int .i64 B := hdep ⟨7, .data⟩ (by simp) rfl 30 rfl
            clear ht hdep
            go_simp
            exact ⟨Below.refl _ _, rfl⟩
          · intro ρ w' hbw ht hcs hfn hgl hdep
            refine ⟨fun _ => ?_, fun h => by cases h⟩
            have s31 : ρ (.tmp 31) = .pointer (some ⟨bL, offL + B, none⟩) := hdep ⟨8, .data⟩ (by simp) rfl 31 rfl
            have d3 := cell_later hbw kL
            clear ht hdep
            go_simp
            exact ⟨Below.refl _ _, rfl⟩
          · intro ρ w' hbw ht hcs hfn hgl hdep
            refine ⟨fun _ => ?_, fun h => by cases h⟩
            have s9 : ρ (.tmp 9) = .pointer (some ⟨wr.heap.size, 0, none⟩) := ht 9 rfl
            clear ht hdep
            go_simp
            exact ⟨Below.refl _ _, rfl⟩
          · intro ρ w' hbw ht hcs hfn hgl hdep
            refine ⟨fun _ => ?_, fun h => by cases h⟩
            have s33 : ρ (.tmp 33) = .pointer (some ⟨wr.heap.size, 0, none⟩) := hdep ⟨10, .data⟩ (by simp) rfl 33 rfl
            have d4 := cell_later hbw r0
            clear ht hdep
            go_simp
            exact ⟨Below.refl _ _, rfl⟩
          · intro ρ w' hbw ht hcs hfn hgl hdep
            refine ⟨fun _ => ?_, fun h => by cases h⟩
            have s32 : ρ (.tmp 32) = .string lab := hdep ⟨9, .data⟩ (by simp) rfl 32 rfl
            have s34 : ρ (.tmp 34) = .string s.1 := hdep ⟨11, .data⟩ (by simp) rfl 34 rfl
            clear ht hdep
            go_simp
            exact ⟨Below.refl _ _, rfl⟩
        · intro z w2 hbR hx
          have hx0 : z 0 = .pointer (some ⟨p1, 0, none⟩) := hx 0 (by simp)
          have hx1 : z 1 = .slice (some ⟨bL, offL, none⟩) x1.length capL := hx 1 (by simp)
          have hx2 : z 2 = .agg #[.slice (some ⟨bL, offL, none⟩) x1.length capL, u2] := hx 2 (by simp)
          have hx3 : z 3 = .pointer (some ⟨wr.heap.size, 1, none⟩) := hx 3 (by simp)
          have hx4 : z 4 = .slice sa s.2.length sc := hx 4 (by simp)
          have hx7 : z 7 = .int .i64 B := hx 7 (by simp)
          have hx8 : z 8 = .pointer (some ⟨bL, offL + B, none⟩) := hx 8 (by simp)
          have hx9 : z 9 = .string lab := hx 9 (by simp)
          have hx10 : z 10 = .pointer (some ⟨wr.heap.size, 0, none⟩) := hx 10 (by simp)
          have hx11 : z 11 = .string s.1 := hx 11 (by simp)
          have hx12 : z 12 = .bool false := hx 12 (by simp)
          clear hx
          simp only [putAll, Act.put, List.setIfInBounds_toArray, List.set_cons_succ, List.set_cons_zero, Nat.zero_add, Nat.reduceAdd, hx0, hx1, hx2, hx3, hx4, hx7, hx8, hx9, hx10, hx11, hx12]
          generalize z 5 = kz5 at *
          generalize z 6 = kz6 at *
          clear hx0 hx1 hx2 hx3 hx4 hx7 hx8 hx9 hx10 hx11 hx12
          replace hownB := hownB.below hbR
          replace hbB := hbB.trans (hbR.mono hbB.size)
          have hbs := hbB.size
          clear CI CS CB
          go_wp2
          go_roundw
          case rel => exact ⟨k + 1, by omega, by go_num, by rw [HT.out]; exact hownB, hbB⟩
          case measure => simp [intOf]; omega
    · obtain rfl : k = l.length := by omega
      have hli : ¬ ((l.length : Int) < (l.length : Int)) := by omega
      clear hao
      go_wp2_with fail
      go_ret2
      rw [HG.out]
      exact ⟨_, rfl, rInt64S_own3 hown.in_ hlW, hbW.trans (hb.mono hlW)⟩
end Go.Proofs.Ytdifhnckhocmdaa
