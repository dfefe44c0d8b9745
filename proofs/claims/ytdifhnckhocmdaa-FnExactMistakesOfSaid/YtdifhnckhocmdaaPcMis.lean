/- MistakesOf: the call of the reference. Written by genmis.py. -/
import Derived.Test.YtdifhnckhocmdaaPcMisP
import Derived.Test.YtdifhnckhocmdaaPcTr2
namespace Go.Proofs.Ytdifhnckhocmdaa
open Go.RowKit

set_option maxRecDepth 100000 in
set_option maxHeartbeats 8000000 in
theorem specMistakesOf_any (v1 : Value) (x : XPerceptron) (v2 : Value) (l : XSampleS) (w : World) {lo1 hi1 lo2 hi2 : Nat} (h1 : rPerceptron.at_ lo1 hi1 w v1 x) (h2 : rSampleS.at_ lo2 hi2 w v2 l) (ok1 : okPerceptron x) (ok2 : okSampleS l) (g1 : goodPerceptron x) (g2 : goodSampleS l) :
    Calls Try.prog 34 #[v1, v2] w (RetNew rInt64S (misX x l) #[.int .i64 (trCode x l)] w) := by
  obtain ⟨u1, u2, rfl, h3, h4⟩ := h1
  obtain ⟨x1, x2⟩ := x
  obtain ⟨hn1, hn2⟩ := ok1
  unfold goodPerceptron at g1
  simp only at h3 h4 hn1 hn2 g1
  replace h3 := rStringS_arr h3
  replace h4 := rowsI_at h4
  replace h2 := smps_at h2
  obtain ⟨W, hW⟩ : ∃ u, u = (w.alloc (.cells #[u1, u2] 28)) := ⟨_, rfl⟩
  have hbW : Below w.heap.size w W := by rw [hW]; exact belowA1 _ _
  have q1 : Box W (w.heap.size) #[u1, u2] 28 := by
    have hq := Box.new w #[u1, u2] 28
    rw [hW]
    exact hq
  obtain ⟨p1, hp1⟩ : ∃ p, p = w.heap.size := ⟨_, rfl⟩
  rw [← hp1] at q1
  have hge1 : w.heap.size ≤ p1 := by omega
  have hlW : w.heap.size ≤ W.heap.size := hbW.size
  have hlp1 : p1 < W.heap.size := q1.lt
  have HP1 := hid hp1
  have HW := hid hW
  clear hW hp1
  have h3W := h3.below hbW
  have h4W := h4.below hbW
  have h2W := h2.below hbW
  have m0 := q1.cell (j := 0) rfl
  have m1 := q1.cell (j := 1) rfl
  have CO := l12Code_any p1 u1 u2 v2 (x1, x2) l W m0 m1 h3W h4W h2W ⟨hn1, hn2⟩ g1 ok2 g2
  by_cases hc : trCode (x1, x2) l = 0
  case neg =>
    have HG : Hid (misX (x1, x2) l = []) := hid (by rw [misX, if_neg hc])
    generalize trCode (x1, x2) l = n at *
    have hc1 : (n == 0) = false := by rw [beq_eq_false_iff_ne]; exact hc
    have hc2 : (n != 0) = true := by rw [bne_iff_ne]; exact hc
    clear hc
    go_enter Try.func34, Try.ntmps34
    go_wp2_with fail
    rw [← HP1.out, ← HW.out]
    refine CO.mono ?_
    rintro e w2 ⟨rfl, hb⟩
    go_wp2_with fail
    go_ret2
    rw [HG.out]
    exact ⟨_, rfl, rInt64S_own (Own.nil _ _ w.heap.size) (Nat.le_refl _), hbW.trans (hb.mono hlW)⟩
  obtain ⟨hp, hsm, _, h40⟩ := trCode_zero hc
  have HG : Hid (misX (x1, x2) l = misTo (x1, x2) l l.length) := hid (by rw [misX, if_pos hc])
  rw [hc] at CO ⊢
  have HP : Hid ((∀ r ∈ x2, rowOk r = true) ∧ x2.length = x1.length ∧ 1 ≤ x1.length ∧ x1.length ≤ 12) := hid (pcOk_rows hp)
  have HPC := hid hp
  have HSM := hid h2W
  have HSO := hid hsm
  obtain ⟨bL, offL, aoL, capL, hvL, hncL, hcmL, haoL, hcL⟩ := h3W
  obtain ⟨haoL', hbwL⟩ := haoL (by have := HP.out.2; omega)
  subst haoL'
  subst hvL
  unfold maxLen at hcmL
  obtain ⟨b, off, ao, cap, es, rfl, hnc, hcm, hao, hcl, hul, hin⟩ := h2W.slice
  unfold maxLen at hcm
  clear hcl hul hin h2W h2 h3 h4 hc hp hsm q1 haoL
  go_enter Try.func34, Try.ntmps34
  go_wp2_with fail
  rw [← HP1.out, ← HW.out]
  refine CO.mono ?_
  rintro e w2 ⟨rfl, hb2⟩
  clear CO
  go_wp2_with fail
  go_loopw [7, 8] (fun u i wr => ∃ k : Nat, k ≤ l.length ∧ i = .int .i64 k ∧ Own eI 2 W.heap.size wr u (misTo (x1, x2) l k) ∧ Below W.heap.size W wr) (fun _ i _ => l.length - (intOf i).toNat)
  case atStart => exact ⟨0, Nat.zero_le _, rfl, (Own.empty _ _ hb2.size), hb2.alloc hb2.size _⟩
  case round =>
    clear hb2
    obtain ⟨k, hk, rfl, hown, hb⟩ := hrel
    have hbs := hb.size
    by_cases hlt : k < l.length
    · obtain ⟨hao', hbw⟩ := hao (by omega)
      subst hao'
      obtain ⟨s, he⟩ : ∃ s, l[k]? = some s := ⟨_, List.getElem?_eq_getElem hlt⟩
      have hso := HSO.out s (List.mem_of_getElem? he)
      have hfo := smpOk_feats hso
      obtain ⟨b2, off2, cap2, sa, sc, hsl, _, _, c0, c1, hA⟩ := (HSM.out.below hb).get he
      simp only [Value.slice.injEq, Option.some.injEq, Addr.mk.injEq] at hsl
      obtain ⟨⟨rfl, rfl, _⟩, _, rfl⟩ := hsl
      obtain ⟨lab, hlab⟩ : ∃ t, x1[clsI (x1, x2) s.2]? = some t := cls_lab HPC.out
      have hgot : gotL (x1, x2) s = lab := by simp [gotL, hlab]
      obtain ⟨S, hS⟩ : ∃ S, S = scoresF x2 (inpF s.2) := ⟨_, rfl⟩
      have hS1 : 1 ≤ S.length := by rw [hS, scoresF_len]; have := HP.out.2; omega
      have hS12 : S.length ≤ 12 := by rw [hS, scoresF_len]; have := HP.out.2; omega
      obtain ⟨B, hB⟩ : ∃ B, B = bestI S := ⟨_, rfl⟩
      have hI : clsI (x1, x2) s.2 = B := by rw [hB, hS]; rfl
      rw [hI] at hlab
      have hlx : (B : Int) < (x1.length : Int) := by have := (List.getElem?_eq_some_iff.1 hlab).1; omega
      have hli : (k : Int) < (l.length : Int) := by omega
      have n0 := cell_later hb m0
      have n1 := cell_later hb m1
      have eL := eStr_cell (hcL.below hb hbwL) hlab
      have CI := fun w' (hbw : Below wr.heap.size wr w') => l12Input_any _ s.2 w' (hA.below hbw) hfo
      have CS := fun u w' (hbw : Below wr.heap.size wr w') (hA : Arr eI w' u (inpF s.2)) => l12Scores_any p1 u2 u x2 (inpF s.2) w' (cell_later hbw n1) (h4W.below (hb.trans (hbw.mono hbs))) hA (okInp_of hfo) HP.out.1 (by have := HP.out.2; omega)
      have CB := fun u w' (hA : Arr eI w' u S) => l12Best_any u S w' hA hS1 (by omega)
      rw [← hS] at CS
      rw [← hB] at CB
      have HE := hid he
      have HGOT := hid hgot
      clear hlab hI hB hS he hgot hao hso hA
      cases hw : (lab.toList == s.1.toList)
      · have hw2 : (lab.toList != s.1.toList) = true := by rw [bne, hw]; rfl
        have HT := hid (misAt_t (x := (x1, x2)) HE.out (by unfold wrongB; rw [HGOT.out, hw]; rfl))
        have hml := misTo_len (x1, x2) l k
        go_wp2_with fail
        refine wp_region_rel (fun i v w' => match i with
            | 0 => v = .pointer (some ⟨p1, 0, none⟩)
            | 1 => v = .slice (some ⟨bL, offL, none⟩) x1.length capL
            | 2 => v = .slice (some ⟨b, off, none⟩) l.length cap
            | 3 => v = .int .i64 k
            | 4 => v = .pointer (some ⟨b, off + k * 2, none⟩)
            | 5 => v = .pointer (some ⟨b, off + k * 2 + 1, none⟩)
            | 6 => v = .slice sa s.2.length sc
            | 7 => rInt64S.own wr.heap.size w'.heap.size w' v (inpF s.2)
            | 8 => rInt64S.own wr.heap.size w'.heap.size w' v (S)
            | 9 => v = .int .i64 B
            | 10 => v = .pointer (some ⟨bL, offL + B, none⟩)
            | 11 => v = .string lab
            | 12 => v = .slice (some ⟨b, off, none⟩) l.length cap
            | 13 => v = .int .i64 k
            | 14 => v = .pointer (some ⟨b, off + k * 2, none⟩)
            | 15 => v = .pointer (some ⟨b, off + k * 2, none⟩)
            | 16 => v = .string s.1
            | _ => v = .bool true) (by kernel_rfl) (by kernel_rfl) (by kernel_rfl) (by kernel_rfl) ?_ ?_ ?_
        · intro i v w w' h hb
          match i, h with
          | 0, h => exact h
          | 1, h => exact h
          | 2, h => exact h
          | 3, h => exact h
          | 4, h => exact h
          | 5, h => exact h
          | 6, h => exact h
          | 7, h => exact rInt64S.own_now h hb
          | 8, h => exact rInt64S.own_now h hb
          | 9, h => exact h
          | 10, h => exact h
          | 11, h => exact h
          | 12, h => exact h
          | 13, h => exact h
          | 14, h => exact h
          | 15, h => exact h
          | 16, h => exact h
          | (m + 17), h => exact h
        · refine ⟨?_, ?_, ?_, ?_, ?_, ?_, ?_, ?_, ?_, ?_, ?_, ?_, ?_, ?_, ?_, ?_, ?_, ?_, trivial⟩
          · intro ρ w' hbw ht hcs hfn hgl hdep
            refine ⟨fun _ => ?_, fun h => by cases h⟩
            have s2 : ρ (.tmp 2) = .pointer (some ⟨p1, 0, none⟩) := ht 2 rfl
            clear ht hdep
            go_simp
            exact ⟨Below.refl _ _, rfl⟩
          · intro ρ w' hbw ht hcs hfn hgl hdep
            refine ⟨fun _ => ?_, fun h => by cases h⟩
            have s21 : ρ (.tmp 21) = .pointer (some ⟨p1, 0, none⟩) := hdep ⟨0, .data⟩ (by simp) rfl 21 rfl
            have d0 := cell_later hbw n0
            clear ht hdep
            go_simp
            exact ⟨Below.refl _ _, rfl⟩
          · intro ρ w' hbw ht hcs hfn hgl hdep
            refine ⟨fun _ => ?_, fun h => by cases h⟩
            have s1 : ρ (.tmp 1) = .slice (some ⟨b, off, none⟩) l.length cap := ht 1 rfl
            clear ht hdep
            go_simp
            exact ⟨Below.refl _ _, rfl⟩
          · intro ρ w' hbw ht hcs hfn hgl hdep
            refine ⟨fun _ => ?_, fun h => by cases h⟩
            have s8 : ρ (.tmp 8) = .int .i64 k := ht 8 rfl
            clear ht hdep
            go_simp
            exact ⟨Below.refl _ _, rfl⟩
          · intro ρ w' hbw ht hcs hfn hgl hdep
            refine ⟨fun _ => ?_, fun h => by cases h⟩
            have s23 : ρ (.tmp 23) = .slice (some ⟨b, off, none⟩) l.length cap := hdep ⟨2, .data⟩ (by simp) rfl 23 rfl
            have s24 : ρ (.tmp 24) = .int .i64 k := hdep ⟨3, .data⟩ (by simp) rfl 24 rfl
            clear ht hdep
            go_simp
            exact ⟨Below.refl _ _, rfl⟩
          · intro ρ w' hbw ht hcs hfn hgl hdep
            refine ⟨fun _ => ?_, fun h => by cases h⟩
            have s25 : ρ (.tmp 25) = .pointer (some ⟨b, off + k * 2, none⟩) := hdep ⟨4, .data⟩ (by simp) rfl 25 rfl
            clear ht hdep
            go_simp
            exact ⟨Below.refl _ _, rfl⟩
          · intro ρ w' hbw ht hcs hfn hgl hdep
            refine ⟨fun _ => ?_, fun h => by cases h⟩
            have s26 : ρ (.tmp 26) = .pointer (some ⟨b, off + k * 2 + 1, none⟩) := hdep ⟨5, .data⟩ (by simp) rfl 26 rfl
            have d1 := cell_later hbw c1
            clear ht hdep
            go_simp
            exact ⟨Below.refl _ _, rfl⟩
          · intro ρ w' hbw ht hcs hfn hgl hdep
            refine ⟨fun _ => ?_, fun h => by cases h⟩
            have s27 : ρ (.tmp 27) = .slice sa s.2.length sc := hdep ⟨6, .data⟩ (by simp) rfl 27 rfl
            clear ht hdep
            go_simp
            exact (CI w' hbw).mono fun e w'' ⟨u, he, ho, hb⟩ => ⟨_, he, hb, rInt64S.own_mono ho hbw.size (Nat.le_refl _)⟩
          · intro ρ w' hbw ht hcs hfn hgl hdep
            refine ⟨fun _ => ?_, fun h => by cases h⟩
            have s2 : ρ (.tmp 2) = .pointer (some ⟨p1, 0, none⟩) := ht 2 rfl
            have o28 := hdep ⟨7, .data⟩ (by simp) rfl 28 rfl
            clear ht hdep
            go_simp
            exact (CS _ w' hbw (rInt64S_arr (rInt64S.own_at o28))).mono fun e w'' ⟨u, he, ho, hb⟩ => ⟨_, he, hb, rInt64S.own_mono ho hbw.size (Nat.le_refl _)⟩
          · intro ρ w' hbw ht hcs hfn hgl hdep
            refine ⟨fun _ => ?_, fun h => by cases h⟩
            have o29 := hdep ⟨8, .data⟩ (by simp) rfl 29 rfl
            clear ht hdep
            go_simp
            exact (CB _ w' (rInt64S_arr (rInt64S.own_at o29))).mono fun e w'' ⟨he, hb⟩ => ⟨_, he, hb, rfl⟩
          · intro ρ w' hbw ht hcs hfn hgl hdep
            refine ⟨fun _ => ?_, fun h => by cases h⟩
            have s22 : ρ (.tmp 22) = .slice (some ⟨bL, offL, none⟩) x1.length capL := hdep ⟨1, .data⟩ (by simp) rfl 22 rfl
            have s30 : ρ (.tmp 30) = .int .i64 B := hdep ⟨9, .data⟩ (by simp) rfl 30 rfl
            clear ht hdep
            go_simp
            exact ⟨Below.refl _ _, rfl⟩
          · intro ρ w' hbw ht hcs hfn hgl hdep
            refine ⟨fun _ => ?_, fun h => by cases h⟩
            have s31 : ρ (.tmp 31) = .pointer (some ⟨bL, offL + B, none⟩) := hdep ⟨10, .data⟩ (by simp) rfl 31 rfl
            have d2 := cell_later hbw eL
            clear ht hdep
            go_simp
            exact ⟨Below.refl _ _, rfl⟩
          · intro ρ w' hbw ht hcs hfn hgl hdep
            refine ⟨fun _ => ?_, fun h => by cases h⟩
            have s1 : ρ (.tmp 1) = .slice (some ⟨b, off, none⟩) l.length cap := ht 1 rfl
            clear ht hdep
            go_simp
            exact ⟨Below.refl _ _, rfl⟩
          · intro ρ w' hbw ht hcs hfn hgl hdep
            refine ⟨fun _ => ?_, fun h => by cases h⟩
            have s8 : ρ (.tmp 8) = .int .i64 k := ht 8 rfl
            clear ht hdep
            go_simp
            exact ⟨Below.refl _ _, rfl⟩
          · intro ρ w' hbw ht hcs hfn hgl hdep
            refine ⟨fun _ => ?_, fun h => by cases h⟩
            have s33 : ρ (.tmp 33) = .slice (some ⟨b, off, none⟩) l.length cap := hdep ⟨12, .data⟩ (by simp) rfl 33 rfl
            have s34 : ρ (.tmp 34) = .int .i64 k := hdep ⟨13, .data⟩ (by simp) rfl 34 rfl
            clear ht hdep
            go_simp
            exact ⟨Below.refl _ _, rfl⟩
          · intro ρ w' hbw ht hcs hfn hgl hdep
            refine ⟨fun _ => ?_, fun h => by cases h⟩
            have s35 : ρ (.tmp 35) = .pointer (some ⟨b, off + k * 2, none⟩) := hdep ⟨14, .data⟩ (by simp) rfl 35 rfl
            clear ht hdep
            go_simp
            exact ⟨Below.refl _ _, rfl⟩
          · intro ρ w' hbw ht hcs hfn hgl hdep
            refine ⟨fun _ => ?_, fun h => by cases h⟩
            have s36 : ρ (.tmp 36) = .pointer (some ⟨b, off + k * 2, none⟩) := hdep ⟨15, .data⟩ (by simp) rfl 36 rfl
            have d3 := cell_later hbw c0
            clear ht hdep
            go_simp
            exact ⟨Below.refl _ _, rfl⟩
          · intro ρ w' hbw ht hcs hfn hgl hdep
            refine ⟨fun _ => ?_, fun h => by cases h⟩
            have s32 : ρ (.tmp 32) = .string lab := hdep ⟨11, .data⟩ (by simp) rfl 32 rfl
            have s37 : ρ (.tmp 37) = .string s.1 := hdep ⟨16, .data⟩ (by simp) rfl 37 rfl
            clear ht hdep
            go_simp
            exact ⟨Below.refl _ _, rfl⟩
        · intro z w2 hbR hx
          have hx0 : z 0 = .pointer (some ⟨p1, 0, none⟩) := hx 0 (by simp)
          have hx1 : z 1 = .slice (some ⟨bL, offL, none⟩) x1.length capL := hx 1 (by simp)
          have hx2 : z 2 = .slice (some ⟨b, off, none⟩) l.length cap := hx 2 (by simp)
          have hx3 : z 3 = .int .i64 k := hx 3 (by simp)
          have hx4 : z 4 = .pointer (some ⟨b, off + k * 2, none⟩) := hx 4 (by simp)
          have hx5 : z 5 = .pointer (some ⟨b, off + k * 2 + 1, none⟩) := hx 5 (by simp)
          have hx6 : z 6 = .slice sa s.2.length sc := hx 6 (by simp)
          have hx9 : z 9 = .int .i64 B := hx 9 (by simp)
          have hx10 : z 10 = .pointer (some ⟨bL, offL + B, none⟩) := hx 10 (by simp)
          have hx11 : z 11 = .string lab := hx 11 (by simp)
          have hx12 : z 12 = .slice (some ⟨b, off, none⟩) l.length cap := hx 12 (by simp)
          have hx13 : z 13 = .int .i64 k := hx 13 (by simp)
          have hx14 : z 14 = .pointer (some ⟨b, off + k * 2, none⟩) := hx 14 (by simp)
          have hx15 : z 15 = .pointer (some ⟨b, off + k * 2, none⟩) := hx 15 (by simp)
          have hx16 : z 16 = .string s.1 := hx 16 (by simp)
          have hx17 : z 17 = .bool true := hx 17 (by simp)
          clear hx
          simp only [putAll, Act.put, List.setIfInBounds_toArray, List.set_cons_succ, List.set_cons_zero, Nat.zero_add, Nat.reduceAdd, hx0, hx1, hx2, hx3, hx4, hx5, hx6, hx9, hx10, hx11, hx12, hx13, hx14, hx15, hx16, hx17]
          generalize z 7 = kz7 at *
          generalize z 8 = kz8 at *
          clear hx0 hx1 hx2 hx3 hx4 hx5 hx6 hx9 hx10 hx11 hx12 hx13 hx14 hx15 hx16 hx17
          replace hown := hown.below hbR
          replace hb := hb.trans (hbR.mono hb.size)
          have hbs := hb.size
          clear CI CS CB
          go_wp2_with (at_builtin; (refine wpList_appA rfl _ _ 41 rfl W.heap.size 2 _ 8 infoI Try.underlying41 rfl _ _ rfl (hown.alloc _) _ [(k : Int)] rfl (by exact arr_block1 (E := eI) (n := 1) [(k : Int)] #[.int .i64 k] rfl rfl (by decide) (by simp)) (by unfold maxLen; simp <;> omega) (by simp <;> omega) (by simp <;> omega) ?_; intro v' wA hoA hbA htA))
          have hbA' := (hb.alloc hbs _).trans hbA
          go_roundw
          case rel => exact ⟨k + 1, by omega, by go_num, by rw [HT.out]; exact hoA, hbA'⟩
          case measure => simp [intOf]; omega
      · have hw2 : (lab.toList != s.1.toList) = false := by rw [bne, hw]; rfl
        have HT := hid (misAt_f (x := (x1, x2)) HE.out (by unfold wrongB; rw [HGOT.out, hw]; rfl))
        have hml := misTo_len (x1, x2) l k
        go_wp2_with fail
        refine wp_region_rel (fun i v w' => match i with
            | 0 => v = .pointer (some ⟨p1, 0, none⟩)
            | 1 => v = .slice (some ⟨bL, offL, none⟩) x1.length capL
            | 2 => v = .slice (some ⟨b, off, none⟩) l.length cap
            | 3 => v = .int .i64 k
            | 4 => v = .pointer (some ⟨b, off + k * 2, none⟩)
            | 5 => v = .pointer (some ⟨b, off + k * 2 + 1, none⟩)
            | 6 => v = .slice sa s.2.length sc
            | 7 => rInt64S.own wr.heap.size w'.heap.size w' v (inpF s.2)
            | 8 => rInt64S.own wr.heap.size w'.heap.size w' v (S)
            | 9 => v = .int .i64 B
            | 10 => v = .pointer (some ⟨bL, offL + B, none⟩)
            | 11 => v = .string lab
            | 12 => v = .slice (some ⟨b, off, none⟩) l.length cap
            | 13 => v = .int .i64 k
            | 14 => v = .pointer (some ⟨b, off + k * 2, none⟩)
            | 15 => v = .pointer (some ⟨b, off + k * 2, none⟩)
            | 16 => v = .string s.1
            | _ => v = .bool false) (by kernel_rfl) (by kernel_rfl) (by kernel_rfl) (by kernel_rfl) ?_ ?_ ?_
        · intro i v w w' h hb
          match i, h with
          | 0, h => exact h
          | 1, h => exact h
          | 2, h => exact h
          | 3, h => exact h
          | 4, h => exact h
          | 5, h => exact h
          | 6, h => exact h
          | 7, h => exact rInt64S.own_now h hb
          | 8, h => exact rInt64S.own_now h hb
          | 9, h => exact h
          | 10, h => exact h
          | 11, h => exact h
          | 12, h => exact h
          | 13, h => exact h
          | 14, h => exact h
          | 15, h => exact h
          | 16, h => exact h
          | (m + 17), h => exact h
        · refine ⟨?_, ?_, ?_, ?_, ?_, ?_, ?_, ?_, ?_, ?_, ?_, ?_, ?_, ?_, ?_, ?_, ?_, ?_, trivial⟩
          · intro ρ w' hbw ht hcs hfn hgl hdep
            refine ⟨fun _ => ?_, fun h => by cases h⟩
            have s2 : ρ (.tmp 2) = .pointer (some ⟨p1, 0, none⟩) := ht 2 rfl
            clear ht hdep
            go_simp
            exact ⟨Below.refl _ _, rfl⟩
          · intro ρ w' hbw ht hcs hfn hgl hdep
            refine ⟨fun _ => ?_, fun h => by cases h⟩
            have s21 : ρ (.tmp 21) = .pointer (some ⟨p1, 0, none⟩) := hdep ⟨0, .data⟩ (by simp) rfl 21 rfl
            have d0 := cell_later hbw n0
            clear ht hdep
            go_simp
            exact ⟨Below.refl _ _, rfl⟩
          · intro ρ w' hbw ht hcs hfn hgl hdep
            refine ⟨fun _ => ?_, fun h => by cases h⟩
            have s1 : ρ (.tmp 1) = .slice (some ⟨b, off, none⟩) l.length cap := ht 1 rfl
            clear ht hdep
            go_simp
            exact ⟨Below.refl _ _, rfl⟩
          · intro ρ w' hbw ht hcs hfn hgl hdep
            refine ⟨fun _ => ?_, fun h => by cases h⟩
            have s8 : ρ (.tmp 8) = .int .i64 k := ht 8 rfl
            clear ht hdep
            go_simp
            exact ⟨Below.refl _ _, rfl⟩
          · intro ρ w' hbw ht hcs hfn hgl hdep
            refine ⟨fun _ => ?_, fun h => by cases h⟩
            have s23 : ρ (.tmp 23) = .slice (some ⟨b, off, none⟩) l.length cap := hdep ⟨2, .data⟩ (by simp) rfl 23 rfl
            have s24 : ρ (.tmp 24) = .int .i64 k := hdep ⟨3, .data⟩ (by simp) rfl 24 rfl
            clear ht hdep
            go_simp
            exact ⟨Below.refl _ _, rfl⟩
          · intro ρ w' hbw ht hcs hfn hgl hdep
            refine ⟨fun _ => ?_, fun h => by cases h⟩
            have s25 : ρ (.tmp 25) = .pointer (some ⟨b, off + k * 2, none⟩) := hdep ⟨4, .data⟩ (by simp) rfl 25 rfl
            clear ht hdep
            go_simp
            exact ⟨Below.refl _ _, rfl⟩
          · intro ρ w' hbw ht hcs hfn hgl hdep
            refine ⟨fun _ => ?_, fun h => by cases h⟩
            have s26 : ρ (.tmp 26) = .pointer (some ⟨b, off + k * 2 + 1, none⟩) := hdep ⟨5, .data⟩ (by simp) rfl 26 rfl
            have d1 := cell_later hbw c1
            clear ht hdep
            go_simp
            exact ⟨Below.refl _ _, rfl⟩
          · intro ρ w' hbw ht hcs hfn hgl hdep
            refine ⟨fun _ => ?_, fun h => by cases h⟩
            have s27 : ρ (.tmp 27) = .slice sa s.2.length sc := hdep ⟨6, .data⟩ (by simp) rfl 27 rfl
            clear ht hdep
            go_simp
            exact (CI w' hbw).mono fun e w'' ⟨u, he, ho, hb⟩ => ⟨_, he, hb, rInt64S.own_mono ho hbw.size (Nat.le_refl _)⟩
          · intro ρ w' hbw ht hcs hfn hgl hdep
            refine ⟨fun _ => ?_, fun h => by cases h⟩
            have s2 : ρ (.tmp 2) = .pointer (some ⟨p1, 0, none⟩) := ht 2 rfl
            have o28 := hdep ⟨7, .data⟩ (by simp) rfl 28 rfl
            clear ht hdep
            go_simp
            exact (CS _ w' hbw (rInt64S_arr (rInt64S.own_at o28))).mono fun e w'' ⟨u, he, ho, hb⟩ => ⟨_, he, hb, rInt64S.own_mono ho hbw.size (Nat.le_refl _)⟩
          · intro ρ w' hbw ht hcs hfn hgl hdep
            refine ⟨fun _ => ?_, fun h => by cases h⟩
            have o29 := hdep ⟨8, .data⟩ (by simp) rfl 29 rfl
            clear ht hdep
            go_simp
            exact (CB _ w' (rInt64S_arr (rInt64S.own_at o29))).mono fun e w'' ⟨he, hb⟩ => ⟨_, he, hb, rfl⟩
          · intro ρ w' hbw ht hcs hfn hgl hdep
            refine ⟨fun _ => ?_, fun h => by cases h⟩
            have s22 : ρ (.tmp 22) = .slice (some ⟨bL, offL, none⟩) x1.length capL := hdep ⟨1, .data⟩ (by simp) rfl 22 rfl
            have s30 : ρ (.tmp 30) = .int .i64 B := hdep ⟨9, .data⟩ (by simp) rfl 30 rfl
            clear ht hdep
            go_simp
            exact ⟨Below.refl _ _, rfl⟩
          · intro ρ w' hbw ht hcs hfn hgl hdep
            refine ⟨fun _ => ?_, fun h => by cases h⟩
            have s31 : ρ (.tmp 31) = .pointer (some ⟨bL, offL + B, none⟩) := hdep ⟨10, .data⟩ (by simp) rfl 31 rfl
            have d2 := cell_later hbw eL
            clear ht hdep
            go_simp
            exact ⟨Below.refl _ _, rfl⟩
          · intro ρ w' hbw ht hcs hfn hgl hdep
            refine ⟨fun _ => ?_, fun h => by cases h⟩
            have s1 : ρ (.tmp 1) = .slice (some ⟨b, off, none⟩) l.length cap := ht 1 rfl
            clear ht hdep
            go_simp
            exact ⟨Below.refl _ _, rfl⟩
          · intro ρ w' hbw ht hcs hfn hgl hdep
            refine ⟨fun _ => ?_, fun h => by cases h⟩
            have s8 : ρ (.tmp 8) = .int .i64 k := ht 8 rfl
            clear ht hdep
            go_simp
            exact ⟨Below.refl _ _, rfl⟩
          · intro ρ w' hbw ht hcs hfn hgl hdep
            refine ⟨fun _ => ?_, fun h => by cases h⟩
            have s33 : ρ (.tmp 33) = .slice (some ⟨b, off, none⟩) l.length cap := hdep ⟨12, .data⟩ (by simp) rfl 33 rfl
            have s34 : ρ (.tmp 34) = .int .i64 k := hdep ⟨13, .data⟩ (by simp) rfl 34 rfl
            clear ht hdep
            go_simp
            exact ⟨Below.refl _ _, rfl⟩
          · intro ρ w' hbw ht hcs hfn hgl hdep
            refine ⟨fun _ => ?_, fun h => by cases h⟩
            have s35 : ρ (.tmp 35) = .pointer (some ⟨b, off + k * 2, none⟩) := hdep ⟨14, .data⟩ (by simp) rfl 35 rfl
            clear ht hdep
            go_simp
            exact ⟨Below.refl _ _, rfl⟩
          · intro ρ w' hbw ht hcs hfn hgl hdep
            refine ⟨fun _ => ?_, fun h => by cases h⟩
            have s36 : ρ (.tmp 36) = .pointer (some ⟨b, off + k * 2, none⟩) := hdep ⟨15, .data⟩ (by simp) rfl 36 rfl
            have d3 := cell_later hbw c0
            clear ht hdep
            go_simp
            exact ⟨Below.refl _ _, rfl⟩
          · intro ρ w' hbw ht hcs hfn hgl hdep
            refine ⟨fun _ => ?_, fun h => by cases h⟩
            have s32 : ρ (.tmp 32) = .string lab := hdep ⟨11, .data⟩ (by simp) rfl 32 rfl
            have s37 : ρ (.tmp 37) = .string s.1 := hdep ⟨16, .data⟩ (by simp) rfl 37 rfl
            clear ht hdep
            go_simp
            exact ⟨Below.refl _ _, rfl⟩
        · intro z w2 hbR hx
          have hx0 : z 0 = .pointer (some ⟨p1, 0, none⟩) := hx 0 (by simp)
          have hx1 : z 1 = .slice (some ⟨bL, offL, none⟩) x1.length capL := hx 1 (by simp)
          have hx2 : z 2 = .slice (some ⟨b, off, none⟩) l.length cap := hx 2 (by simp)
          have hx3 : z 3 = .int .i64 k := hx 3 (by simp)
          have hx4 : z 4 = .pointer (some ⟨b, off + k * 2, none⟩) := hx 4 (by simp)
          have hx5 : z 5 = .pointer (some ⟨b, off + k * 2 + 1, none⟩) := hx 5 (by simp)
          have hx6 : z 6 = .slice sa s.2.length sc := hx 6 (by simp)
          have hx9 : z 9 = .int .i64 B := hx 9 (by simp)
          have hx10 : z 10 = .pointer (some ⟨bL, offL + B, none⟩) := hx 10 (by simp)
          have hx11 : z 11 = .string lab := hx 11 (by simp)
          have hx12 : z 12 = .slice (some ⟨b, off, none⟩) l.length cap := hx 12 (by simp)
          have hx13 : z 13 = .int .i64 k := hx 13 (by simp)
          have hx14 : z 14 = .pointer (some ⟨b, off + k * 2, none⟩) := hx 14 (by simp)
          have hx15 : z 15 = .pointer (some ⟨b, off + k * 2, none⟩) := hx 15 (by simp)
          have hx16 : z 16 = .string s.1 := hx 16 (by simp)
          have hx17 : z 17 = .bool false := hx 17 (by simp)
          clear hx
          simp only [putAll, Act.put, List.setIfInBounds_toArray, List.set_cons_succ, List.set_cons_zero, Nat.zero_add, Nat.reduceAdd, hx0, hx1, hx2, hx3, hx4, hx5, hx6, hx9, hx10, hx11, hx12, hx13, hx14, hx15, hx16, hx17]
          generalize z 7 = kz7 at *
          generalize z 8 = kz8 at *
          clear hx0 hx1 hx2 hx3 hx4 hx5 hx6 hx9 hx10 hx11 hx12 hx13 hx14 hx15 hx16 hx17
          replace hown := hown.below hbR
          replace hb := hb.trans (hbR.mono hb.size)
          have hbs := hb.size
          clear CI CS CB
          go_wp2
          go_roundw
          case rel => exact ⟨k + 1, by omega, by go_num, by rw [HT.out]; exact hown, hb⟩
          case measure => simp [intOf]; omega
    · obtain rfl : k = l.length := by omega
      have hli : ¬ ((l.length : Int) < (l.length : Int)) := by omega
      clear hao
      go_wp2_with fail
      go_ret2
      rw [HG.out]
      exact ⟨_, rfl, rInt64S_own3 hown.in_ hlW, hbW.trans (hb.mono hlW)⟩
end Go.Proofs.Ytdifhnckhocmdaa
