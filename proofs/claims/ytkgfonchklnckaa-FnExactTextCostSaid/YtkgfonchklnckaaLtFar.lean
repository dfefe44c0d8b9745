/- The reference's least costs from the first node. -/
import Derived.Test.YtkgfonchklnckaaLtRows
import Derived.Test.YtkgfonchklnckaaApp2
import Derived.Deep.DrawnRows
import Derived.StillTailTactics
import Derived.IntWalk
namespace Go.Proofs.Ytkgfonchklnckaa
open Go.RowKit
attribute [local go_sem ↓] Go.wp_at_zero Go.wp_at_succ

theorem cell_eqN {w w2 : World} {n : Nat} (h : w2 = w.drewN n) {a : Addr} {v : Value} (hc : w.cell? a = some v) : w2.cell? a = some v := by subst h; exact hc
theorem okV_enc {f : Nat → Int} {D : List Int} (h : okV f D) {k : Nat} {r : Int} (hr : D[k]? = some r) (hf : f k ≤ 20000000) : (r = NW ∧ enc1 r = -1) ∨ (r ≠ NW ∧ enc1 r = r ∧ 0 ≤ r ∧ r ≤ 20000000) := by
  rcases h k r hr with e | ⟨h1, h2⟩
  · exact .inl ⟨e, by rw [e]; exact enc1_no⟩
  · have : r ≠ NW := by rw [NW_eq]; omega
    exact .inr ⟨this, enc1_yes this, h1, by omega⟩
set_option maxHeartbeats 8000000 in
set_option maxRecDepth 100000 in
theorem l15Far_any (p : Nat) (v : Value) (n : Nat) (x : List DEdge) (w : World) (hp0 : w.cell? ⟨p, 0, none⟩ = some (.int .i64 n)) (hp1 : w.cell? ⟨p, 1, none⟩ = some v) (h : Arr eEdge w v x) (hv : validLt ((n : Int), x) = true) :
    Calls Try.prog 40 #[.pointer (some ⟨p, 0, none⟩)] w (RetOwn eInt 2 (encD (distF n x)) w) := by
  obtain ⟨b, off, ao, cap, rfl, hnc, hcm, hao, hc⟩ := h
  unfold maxLen at hcm
  obtain ⟨n1, n2, x2⟩ := valid_bd hv
  have HV := hid hv
  have HG := hid (valid_good hv)
  have HR := hid (valid_rises hv)
  have hpl := World.block_lt_of_cell? w _ hp0
  obtain ⟨i0, hi, hz0, hz1, hz2⟩ := info_parts infoInt
  clear hv
  go_enter Try.func40, Try.ntmps40
  go_wp2_with (at_make; refine wpList_make_full _ rfl _ _ 55 rfl w.heap.size 2 i0 _ 1 Try.underlying55 hi hz0 hz1 _ _ _ _ n rfl rfl rfl rfl (by rw [hz2]; omega) (by unfold maxLen; omega) (Nat.le_refl _) ?_; intro w1 hown hgr)
  have hown := Own.made (E := eInt) (z := (0 : Int)) hown rfl
  obtain ⟨g, hg⟩ : ∃ g, g = w.heap.size := ⟨_, rfl⟩
  rw [← hg] at hown ⊢
  have hw1 : Below g w w1 := by rw [hg]; exact (Below.refl _ _).grown hgr (Nat.le_refl _) (by simp)
  have hpg : p < g := by rw [hg]; exact hpl
  have hbg : 0 < x.length → b < g := fun h => by rw [hg]; exact (hao h).2
  have Hg := hid hg
  clear hg hgr hi hz0 hz1 hz2 hpl
  go_loopw [4] (fun i wr => ∃ (k : Nat) (ys : List Int), 1 ≤ k ∧ k ≤ n ∧ i = .int .i64 k ∧ n = ys.length ∧ ys[0]? = some 0 ∧ (∀ j, 1 ≤ j → j < k → ys[j]? = some (-1)) ∧ Own eInt 2 g wr (.slice (some ⟨g, 0, none⟩) n n) ys ∧ Below g w wr) (fun i _ => n - (intOf i).toNat)
  case atStart => exact ⟨1, _, Nat.le_refl _, by omega, rfl, by rw [List.length_replicate], by rw [List.getElem?_replicate, if_pos (by omega)], fun j h1 h2 => by omega, hown, hw1⟩
  case round =>
    clear hown hw1
    obtain ⟨k, ys, hk1, hk, rfl, hyl, hy0, hys, ho, hb⟩ := hrel
    have t0 := below_cell hb hpg hp0
    have HY := hid hyl
    have HY0 := hid hy0
    have HYS := hid hys
    clear hyl hy0 hys
    by_cases hlt : k < n
    · have hli : (k : Int) < (n : Int) := by omega
      obtain ⟨y, hy⟩ : ∃ y, ys[k]? = some y := ⟨_, List.getElem?_eq_getElem (by rw [← HY.out]; exact hlt)⟩
      have c0 := ownI_get ho HY.out hy
      have hf := ho.free HY.out
      have a3 := ownI_below (u := -1) (k := k) ho HY.out hlt hb
      clear hy
      go_wp2
      go_roundw
      case rel =>
        refine ⟨k + 1, _, by omega, by omega, by go_num, set_len HY.out, ?_, fun j h1 h2 => ?_, a3.1, a3.2⟩
        · rw [List.getElem?_set_ne (by omega)]; exact HY0.out
        · by_cases e : k = j
          · subst e; rw [List.getElem?_set_self (by rw [← HY.out]; exact hlt)]
          · rw [List.getElem?_set_ne e]; exact HYS.out j h1 (by omega)
      case measure => simp [intOf]; omega
    · have hys : ys = encD (startF n) := by
        refine List.ext_getElem? fun i => ?_
        by_cases hi : i < n
        · by_cases h0 : i = 0
          · subst h0
            rw [HY0.out, encD_get (r := 0) (by unfold startF; rw [List.getElem?_set_self (by rw [List.length_replicate]; omega)]), enc1_yes (by rw [NW_eq]; omega)]
          · rw [HYS.out i (by omega) (by omega), encD_get (r := NW) (by unfold startF; rw [List.getElem?_set_ne (Ne.symm h0), List.getElem?_replicate, if_pos hi]), enc1_no]
        · have e1 : ys.length ≤ i := by rw [← HY.out]; omega
          have e2 : (encD (startF n)).length ≤ i := by rw [encD_len]; simp [startF]; omega
          rw [List.getElem?_eq_none e1, List.getElem?_eq_none e2]
      subst hys
      clear HY HY0 HYS
      have hkn : k = n := by omega
      have t0n : ¬ ((k : Int) < (n : Int)) := by omega
      go_wp2
      go_loopw [5] (fun i wr => ∃ (k : Nat) (D : List Int), k ≤ n ∧ i = .int .i64 k ∧ D = farTo n x k ∧ n = D.length ∧ okV upF D ∧ Own eInt 2 g wr (.slice (some ⟨g, 0, none⟩) n n) (encD D) ∧ Below g w wr) (fun i _ => n - (intOf i).toNat)
      case atStart => exact ⟨0, _, Nat.zero_le _, rfl, rfl, by simp [farTo, startF], okV_startF n, ho, hb⟩
      case round =>
        clear ho hb t0 hk hkn t0n hk1 hlt
        obtain ⟨k, D, hk, rfl, hDe, hDl, hok, ho, hb⟩ := hrel
        have HDE := hid hDe
        have HDL := hid hDl
        clear hDe hDl
        have t0 := below_cell hb hpg hp0
        by_cases hlt : k < n
        · have hli : (k : Int) < (n : Int) := by omega
          go_wp2
          go_loopw [6] (fun i wq => ∃ (j : Nat) (D : List Int), j ≤ x.length ∧ i = .int .i64 j ∧ D = (x.take j).foldl (gF k) (farTo n x k) ∧ n = D.length ∧ okV upF D ∧ Own eInt 2 g wq (.slice (some ⟨g, 0, none⟩) n n) (encD D) ∧ Below g w wq) (fun i _ => x.length - (intOf i).toNat)
          case atStart => exact ⟨0, D, Nat.zero_le _, rfl, HDE.out, HDL.out, hok, ho, hb⟩
          case round =>
            clear ho hb t0 hok HDE HDL
            obtain ⟨j, D, hj, rfl, hDe, hDl, hok, ho, hb⟩ := hrel
            have HDE := hid hDe
            have HDL := hid hDl
            clear hDe hDl
            have t0 := below_cell hb hpg hp0
            have t1 := below_cell hb hpg hp1
            by_cases hjl : j < x.length
            · obtain ⟨hao', hbw⟩ := hao (by omega)
              subst hao'
              obtain ⟨e, he⟩ : ∃ e, x[j]? = some e := ⟨_, List.getElem?_eq_getElem hjl⟩
              have hcq : Cells eEdge wr b off x := hc.below hb (hbg (by omega))
              obtain ⟨c0, c1, c2, c3⟩ := eEdge_cells hcq he
              have hli2 : (j : Int) < (x.length : Int) := by omega
              obtain ⟨f0, f1, f2, f3, f4⟩ := valid_fit HV.out he
              have HN : Hid ((x.take (j + 1)).foldl (gF k) (farTo n x k) = gF k D e) := hid (by rw [HDE.out]; exact fold_take he)
              obtain ⟨fq, tq, la, co⟩ := e
              simp only at c0 c1 c2 c3 f0 f1 f2 f3 f4
              obtain ⟨f, rfl⟩ : ∃ f : Nat, fq = f := ⟨fq.toNat, by omega⟩
              obtain ⟨t, rfl⟩ : ∃ t : Nat, tq = t := ⟨tq.toNat, by omega⟩
              clear he hcq hao
              have HLE : Hid (n = (encD D).length) := hid (by rw [encD_len]; exact HDL.out)
              by_cases hfk : f = k
              · subst hfk
                obtain ⟨r1, g1⟩ : ∃ r, D[f]? = some r := ⟨_, List.getElem?_eq_getElem (by have := HDL.out; omega)⟩
                obtain ⟨r2, g2⟩ : ∃ r, D[t]? = some r := ⟨_, List.getElem?_eq_getElem (by have := HDL.out; omega)⟩
                have a1 := ownI_get ho HLE.out (encD_get g1)
                have a2 := ownI_get ho HLE.out (encD_get g2)
                have hti : (t : Int) < (n : Int) := f2
                have hbR : r2 ≤ NW := by
                  rcases hok t r2 g2 with h | h
                  · omega
                  · have := h.2; unfold upF at this; rw [NW_eq]; omega
                rcases okV_enc hok g1 (by unfold upF; omega) with ⟨p1, p2⟩ | ⟨p1, p2, p3, p4⟩
                · have HS : Hid ((x.take (j + 1)).foldl (gF f) (farTo n x f) = D) := hid (by rw [HN.out]; unfold gF; rw [if_pos (show fr ⟨(f : Int), (t : Int), la, co⟩ = f from rfl)]; exact stepF_no (r1 := r1) (r2 := r2) g1 g2 p1 f3 hbR)
                  rw [p2] at a1
                  clear g1 g2 p1 p2 hbR
                  go_wp2
                  go_big_quiet (fail)
                  go_wp2
                  go_roundw
                  case rel => exact ⟨j + 1, D, by omega, by go_num, HS.out.symm, HDL.out, hok, ho, below_drewN hb _⟩
                  case measure => simp [intOf]; omega
                · have u1 : r1 ≤ upF f := by
                    rcases hok f r1 g1 with h | h
                    · exact absurd h p1
                    · exact h.2
                  rw [p2] at a1
                  rcases okV_enc hok g2 (by unfold upF; omega) with ⟨q1, q2⟩ | ⟨q1, q2, q3, q4⟩
                  · have HS : Hid ((x.take (j + 1)).foldl (gF f) (farTo n x f) = D.set t (r1 + co)) := hid (by rw [HN.out]; unfold gF; rw [if_pos (show fr ⟨(f : Int), (t : Int), la, co⟩ = f from rfl)]; exact stepF_set (r1 := r1) (r2 := r2) g1 g2 (by show r1 + co < r2; rw [q1, NW_eq]; omega))
                    rw [q2] at a2
                    clear g1 g2 p1 p2 q1 q2 hbR
                    have hne : r1 + co ≠ NW := by rw [NW_eq]; omega
                    have hok' := okV_set hok (k := t) (v := r1 + co) (.inr ⟨by omega, by unfold upF at u1 ⊢; omega⟩)
                    go_wp2
                    go_big_quiet (fail)
                    obtain ⟨w2, hw2⟩ : ∃ w2, w2 = wr.drewN nq := ⟨_, rfl⟩
                    replace hb : Below g w w2 := by rw [hw2]; exact below_drewN hb _
                    replace ho : Own eInt 2 g w2 (.slice (some ⟨g, 0, none⟩) n n) (encD D) := by rw [hw2]; exact ho
                    replace c1 := cell_eqN hw2 c1
                    replace c3 := cell_eqN hw2 c3
                    replace a1 := cell_eqN hw2 a1
                    replace a2 := cell_eqN hw2 a2
                    rw [← hw2]
                    clear hw2
                    have a3 := ownI_below (u := r1 + co) (k := t) ho HLE.out (by omega) hb
                    have HOW : Hid (Own eInt 2 g (w2.setCell ⟨g, t, none⟩ (.int .i64 (r1 + co))) (.slice (some ⟨g, 0, none⟩) n n) (encD (D.set t (r1 + co)))) := hid (by rw [encD_set, enc1_yes hne]; exact a3.1)
                    have hfree := ho.free HLE.out
                    go_wp2
                    have hwr : IntKind.i64.wrap (r1 + co) = r1 + co := IntWalk.i64_in _ (by omega)
                    refine wp_region_still_tail 15 (by kernel_rfl) (by kernel_rfl) ?_
                    simp only [List.take_succ_cons, List.take_zero, List.drop_succ_cons, List.drop_zero]
                    repeat (first | still_step)
                    refine wpStill_nil ?_
                    change wpList _ _ _ _ _ (World.drew _)
                    clear hwr
                    go_wp2
                    go_roundw
                    case rel => exact ⟨j + 1, D.set t (r1 + co), by omega, by go_num, HS.out.symm, by rw [List.length_set]; exact HDL.out, hok', HOW.out, a3.2.drew⟩
                    case measure => simp [intOf]; omega
                  · rw [q2] at a2
                    have hd2 : decide (r2 < 0) = false := by simp; omega
                    by_cases hlt2 : r1 + co < r2
                    · have HS : Hid ((x.take (j + 1)).foldl (gF f) (farTo n x f) = D.set t (r1 + co)) := hid (by rw [HN.out]; unfold gF; rw [if_pos (show fr ⟨(f : Int), (t : Int), la, co⟩ = f from rfl)]; exact stepF_set (r1 := r1) (r2 := r2) g1 g2 hlt2)
                      have hwr0 : IntKind.i64.wrap (r1 + co) = r1 + co := IntWalk.i64_in _ (by omega)
                      clear g1 g2 p1 p2 q1 q2 hbR
                      have hne : r1 + co ≠ NW := by rw [NW_eq]; omega
                      have hok' := okV_set hok (k := t) (v := r1 + co) (.inr ⟨by omega, by unfold upF at u1 ⊢; omega⟩)
                      go_wp2
                      go_big_quiet (fail)
                      obtain ⟨w2, hw2⟩ : ∃ w2, w2 = wr.drewN nq := ⟨_, rfl⟩
                      replace hb : Below g w w2 := by rw [hw2]; exact below_drewN hb _
                      replace ho : Own eInt 2 g w2 (.slice (some ⟨g, 0, none⟩) n n) (encD D) := by rw [hw2]; exact ho
                      replace c1 := cell_eqN hw2 c1
                      replace c3 := cell_eqN hw2 c3
                      replace a1 := cell_eqN hw2 a1
                      replace a2 := cell_eqN hw2 a2
                      rw [← hw2]
                      clear hw2
                      have a3 := ownI_below (u := r1 + co) (k := t) ho HLE.out (by omega) hb
                      have HOW : Hid (Own eInt 2 g (w2.setCell ⟨g, t, none⟩ (.int .i64 (r1 + co))) (.slice (some ⟨g, 0, none⟩) n n) (encD (D.set t (r1 + co)))) := hid (by rw [encD_set, enc1_yes hne]; exact a3.1)
                      have hfree := ho.free HLE.out
                      go_wp2
                      have hwr : IntKind.i64.wrap (r1 + co) = r1 + co := IntWalk.i64_in _ (by omega)
                      refine wp_region_still_tail 15 (by kernel_rfl) (by kernel_rfl) ?_
                      simp only [List.take_succ_cons, List.take_zero, List.drop_succ_cons, List.drop_zero]
                      repeat (first | still_step)
                      refine wpStill_nil ?_
                      change wpList _ _ _ _ _ (World.drew _)
                      clear hwr
                      go_wp2
                      go_roundw
                      case rel => exact ⟨j + 1, D.set t (r1 + co), by omega, by go_num, HS.out.symm, by rw [List.length_set]; exact HDL.out, hok', HOW.out, a3.2.drew⟩
                      case measure => simp [intOf]; omega
                    · have HS : Hid ((x.take (j + 1)).foldl (gF f) (farTo n x f) = D) := hid (by rw [HN.out]; unfold gF; rw [if_pos (show fr ⟨(f : Int), (t : Int), la, co⟩ = f from rfl)]; exact stepF_keep (r1 := r1) (r2 := r2) g1 g2 (by show r2 ≤ r1 + co; omega))
                      have hwr0 : IntKind.i64.wrap (r1 + co) = r1 + co := IntWalk.i64_in _ (by omega)
                      have hd3 : decide (r1 + co < r2) = false := by simp; omega
                      clear g1 g2 p1 p2 q1 q2 hbR hlt2
                      go_wp2
                      go_big_quiet (fail)
                      go_wp2
                      go_roundw
                      case rel => exact ⟨j + 1, D, by omega, by go_num, HS.out.symm, HDL.out, hok, ho, below_drewN hb _⟩
                      case measure => simp [intOf]; omega
              · have HS : Hid ((x.take (j + 1)).foldl (gF k) (farTo n x k) = D) := hid (by rw [HN.out]; unfold gF; rw [if_neg (by simpa [fr] using hfk)])
                have hq : ((f : Int) == (k : Int)) = false := by rw [beq_eq_false_iff_ne]; omega
                clear hfk
                go_wp2
                go_big_quiet (fail)
                go_wp2
                go_roundw
                case rel => exact ⟨j + 1, D, by omega, by go_num, HS.out.symm, HDL.out, hok, ho, below_drewN hb _⟩
                case measure => simp [intOf]; omega
            · obtain rfl : j = x.length := by omega
              have hD : Hid (D = farTo n x (k + 1)) := by have := HDE.out; rw [List.take_length] at this; exact hid this
              go_wp2
              go_roundw
              case rel => exact ⟨k + 1, D, by omega, by go_num, hD.out, HDL.out, hok, ho, hb⟩
              case measure => simp [intOf]; omega
        · obtain rfl : k = n := by omega
          go_wp2
          go_ret
          refine ⟨_, rfl, ?_, ?_⟩
          · rw [← farTo_all HG.out HR.out, ← HDE.out, ← Hg.out]; exact ho
          · rw [← Hg.out]; exact hb
end Go.Proofs.Ytkgfonchklnckaa
