/- The implementation's least cost of a path with a text. -/
import Derived.Test.YtnanegdcoegahaaLtText2
import Derived.Test.YtnanegdcoegahaaApp2
namespace Go.Proofs.Ytnanegdcoegahaa
open Go.RowKit
attribute [local go_sem ↓] Go.wp_at_zero Go.wp_at_succ

/-- an array holds the values of a function -/
def Row (A : List Int) (C : Nat → Int) (m : Nat) : Prop := m = A.length ∧ ∀ v, v < m → A[v]? = some (C v)
theorem Row.set {A : List Int} {C C' : Nat → Int} {m k : Nat} (h : Row A C m) (_ : k < m) {r : Int} (hr : r = C' k) (hC : ∀ v, v ≠ k → C' v = C v) : Row (A.set k r) C' m := by
  refine ⟨by rw [List.length_set]; exact h.1, fun v hv => ?_⟩
  by_cases e : k = v
  · subst e; rw [List.getElem?_set_self (by rw [← h.1]; exact hv), hr]
  · rw [List.getElem?_set_ne e, h.2 v hv, hC v (fun h => e h.symm)]
theorem row_nw {ys : List Int} {m : Nat} (hl : m = ys.length) (h : ∀ j, j < m → ys[j]? = some 1099511627776) : Row ys (fun _ => NW) m := ⟨hl, fun v hv => h v hv⟩
theorem stC_keep {s : ByteArray} {k : Nat} {C N : Nat → Int} {e : DEdge} (h : eqS (pieceAt s k) e.label = true → N (to e) ≤ C (fr e) + e.cost) : stC s k C N e = N := by
  funext v
  unfold stC
  split
  · rename_i h'; rw [h'.1]; exact Int.min_eq_left (h h'.2)
  · rfl
theorem stC_here {s : ByteArray} {k : Nat} {C N : Nat → Int} {e : DEdge} (h : eqS (pieceAt s k) e.label = true) : stC s k C N e (to e) = min (N (to e)) (C (fr e) + e.cost) := by
  unfold stC; rw [if_pos ⟨rfl, h⟩]
theorem stC_else {s : ByteArray} {k : Nat} {C N : Nat → Int} {e : DEdge} {v : Nat} (h : v ≠ to e) : stC s k C N e v = N v := by
  unfold stC; rw [if_neg (fun hh => h hh.1)]
set_option maxHeartbeats 8000000 in
set_option maxRecDepth 100000 in
theorem implText_any (m : Nat) (v : Value) (x : List DEdge) (s : ByteArray) (w : World) (h : Arr eEdge w v x) (hv : validLt ((m : Int), x) = true) (hs : s.size ≤ 1048576) :
    Calls Try.prog 104 #[.agg #[.int .i64 m, v], .string s] w (Ret (.int .i64 (rowC s x s.size (m - 1))) w) := by
  obtain ⟨b, off, ao, cap, rfl, hnc, hcm, hao, hc⟩ := h
  unfold maxLen at hcm
  obtain ⟨n1, n2, x2⟩ := valid_bd hv
  have HV := hid hv
  have HG := hid (valid_good hv)
  clear hv
  obtain ⟨i0, hi, hz0, hz1, hz2⟩ := info_parts infoInt
  have HI := hid hi
  have HZ0 := hid hz0
  have HZ1 := hid hz1
  have HZ2 := hid hz2
  clear hi hz0 hz1 hz2
  obtain ⟨p, hp⟩ : ∃ p, p = w.heap.size := ⟨_, rfl⟩
  obtain ⟨W, hW⟩ : ∃ W, W = w.alloc (.cells #[.int .i64 m, .slice ao x.length cap] 36) := ⟨_, rfl⟩
  have hpW : W.heap.size = p + 1 := by rw [hW, hp]; simp
  have qb : Box W p #[.int .i64 m, .slice ao x.length cap] 36 := by rw [hW, hp]; exact Box.new _ _ _
  have hbW : Below p w W := by rw [hW, hp]; exact below_alloc _ _
  have HP := hid hp
  have HW := hid hW
  have hpp : p < p + 1 := by omega
  have hss : (s.size : Int) ≤ 1048576 := by omega
  have hbg : 0 < x.length → b < p + 1 := fun h => by have := (hao h).2; rw [HP.out]; omega
  have hcW : 0 < x.length → Cells eEdge W b off x := fun h => hc.below (B := p) hbW (by rw [HP.out]; exact (hao h).2)
  have r0 := qb.cell (j := 0) rfl
  have r1 := qb.cell (j := 1) rfl
  have hm1 : (1 : Int) ≤ (m : Int) := by omega
  have hm20 : (m : Int) ≤ 20 := by omega
  clear hp hW hc
  go_enter Try.func104, Try.ntmps104
  go_wp2_with (at_make; rw [← HW.out, ← HP.out]; refine wpList_make_full _ rfl _ _ 163 rfl W.heap.size 2 i0 _ 1 Try.underlying163 HI.out HZ0.out HZ1.out _ _ _ _ m rfl rfl rfl rfl (by rw [HZ2.out]; omega) (by unfold maxLen; omega) (Nat.le_refl _) ?_; intro w1 hown1 hgr1)
  have o1 := Own.made (E := eInt) (z := (0 : Int)) hown1 rfl
  have hb1 : Below W.heap.size W w1 := (Below.refl _ _).grown hgr1 (Nat.le_refl _) (by simp)
  clear hown1 hgr1
  rw [hpW] at o1 hb1
  go_loopw [18] (fun i wr => ∃ (k : Nat) (ys : List Int), k ≤ m ∧ i = .int .i64 k ∧ m = ys.length ∧ (∀ j, j < k → ys[j]? = some 1099511627776) ∧ Own eInt 2 (p + 1) wr (.slice (some ⟨p + 1, 0, none⟩) m m) ys ∧ Below (p + 1) W wr) (fun i _ => m - (intOf i).toNat)
  case atStart => exact ⟨0, _, Nat.zero_le _, rfl, by rw [List.length_replicate], fun j h => by omega, o1, hb1⟩
  case round =>
    clear o1 hb1
    obtain ⟨k, ys, hk, rfl, hyl, hys, o1, hb1⟩ := hrel
    have HY := hid hyl
    have HYS := hid hys
    clear hyl hys
    have t0 := below_cell hb1 hpp r0
    have t1 := below_cell hb1 hpp r1
    by_cases hlt : k < m
    · have hli : (k : Int) < (m : Int) := by omega
      obtain ⟨y, hy⟩ : ∃ y, ys[k]? = some y := ⟨_, List.getElem?_eq_getElem (by rw [← HY.out]; exact hlt)⟩
      have c0 := ownI_get o1 HY.out hy
      have hf := o1.free HY.out
      have a1 := ownI_below (u := 1099511627776) (k := k) o1 HY.out hlt hb1
      clear hy
      go_wp2
      go_roundw
      case rel =>
        refine ⟨k + 1, _, by omega, by go_num, set_len HY.out, fun j h => ?_, a1.1, a1.2⟩
        by_cases e : k = j
        · subst e; rw [List.getElem?_set_self (by rw [← HY.out]; exact hlt)]
        · rw [List.getElem?_set_ne e]; exact HYS.out j (by omega)
      case measure => simp [intOf]; omega
    · have hk0 : (0 : Int) < (m : Int) := by omega
      have hkm : ¬ ((k : Int) < (m : Int)) := by omega
      have HN := hid (row_nw HY.out (fun j h => HYS.out j (by omega)))
      have c0 := ownI_get o1 HN.out.1 (HN.out.2 0 (by omega))
      have hf := o1.free HN.out.1
      have a1 := ownI_below (u := 0) (k := 0) o1 HN.out.1 (by omega) hb1
      have H0 := hid (HN.out.set (C' := rowC s x 0) (k := 0) (by omega) (r := 0) rfl (fun v h => by show (if v = 0 then (0 : Int) else NW) = NW; rw [if_neg h]))
      go_wp2
      go_loopw [5, 29] (fun c i wr => ∃ (k g : Nat) (A : List Int), k ≤ s.size ∧ i = .int .i64 k ∧ c = .slice (some ⟨g, 0, none⟩) m m ∧ Row A (rowC s x k) m ∧ Own eInt 2 (p + 1) wr (.slice (some ⟨g, 0, none⟩) m m) A ∧ Below (p + 1) W wr) (fun _ i _ => s.size - (intOf i).toNat)
      case atStart => exact ⟨0, p + 1, _, Nat.zero_le _, rfl, rfl, H0.out, a1.1, a1.2⟩
      case round =>
        clear o1 hb1 t0 t1 HY HYS HN H0 hk hlt hkm c0 hf a1
        obtain ⟨k, g, A, hk, rfl, rfl, hRow, o1, hb1⟩ := hrel
        have HA := hid hRow
        clear hRow
        have t0 := below_cell hb1 hpp r0
        have t1 := below_cell hb1 hpp r1
        have HOK := hid (okC_row HG.out s k)
        by_cases hlt : k < s.size
        · have hli : (k : Int) < (s.size : Int) := by omega
          obtain ⟨w0, rfl⟩ : ∃ w0, w0 = wr := ⟨wr, rfl⟩
          go_wp2_with (at_make; refine wpList_make_full _ rfl _ _ 163 rfl w0.heap.size 2 i0 _ 1 Try.underlying163 HI.out HZ0.out HZ1.out _ _ _ _ m rfl rfl rfl rfl (by rw [HZ2.out]; omega) (by unfold maxLen; omega) (Nat.le_refl _) ?_; intro w2 hown2 hgr2)
          have o2 := Own.made (E := eInt) (z := (0 : Int)) hown2 rfl
          have hb2 : Below w0.heap.size w0 w2 := (Below.refl _ _).grown hgr2 (Nat.le_refl _) (by simp)
          clear hown2 hgr2
          obtain ⟨H, hH⟩ : ∃ H, H = w0.heap.size := ⟨_, rfl⟩
          rw [← hH] at o2 hb2 ⊢
          have hgH : g < H := by rw [hH]; exact o1.lt.2
          have hpH : p + 1 ≤ H := by rw [hH, ← hpW]; exact hb1.size
          have HHH := hid hH
          clear hH
          have hpH' : p < H := by omega
          go_loopw [37] (fun i wr => ∃ (q : Nat) (ys : List Int), q ≤ m ∧ i = .int .i64 q ∧ m = ys.length ∧ (∀ j, j < q → ys[j]? = some 1099511627776) ∧ Own eInt 2 H wr (.slice (some ⟨H, 0, none⟩) m m) ys ∧ Below H w0 wr) (fun i _ => m - (intOf i).toNat)
          case atStart => exact ⟨0, _, Nat.zero_le _, rfl, by rw [List.length_replicate], fun j h => by omega, o2, hb2⟩
          case round =>
            clear o2 hb2
            obtain ⟨q, ys, hq, rfl, hyl, hys, o2, hb2⟩ := hrel
            have HY := hid hyl
            have HYS := hid hys
            clear hyl hys
            by_cases hlq : q < m
            · have hlqi : (q : Int) < (m : Int) := by omega
              obtain ⟨y, hy⟩ : ∃ y, ys[q]? = some y := ⟨_, List.getElem?_eq_getElem (by rw [← HY.out]; exact hlq)⟩
              have c0 := ownI_get o2 HY.out hy
              have hf := o2.free HY.out
              have a1 := ownI_below (u := 1099511627776) (k := q) o2 HY.out hlq hb2
              clear hy
              go_wp2
              go_roundw
              case rel =>
                refine ⟨q + 1, _, by omega, by go_num, set_len HY.out, fun j h => ?_, a1.1, a1.2⟩
                by_cases e : q = j
                · subst e; rw [List.getElem?_set_self (by rw [← HY.out]; exact hlq)]
                · rw [List.getElem?_set_ne e]; exact HYS.out j (by omega)
              case measure => simp [intOf]; omega
            · have hqm : ¬ ((q : Int) < (m : Int)) := by omega
              have HN := hid (row_nw HY.out (fun j h => HYS.out j (by omega)))
              have t0 := below_cell hb2 hpH' t0
              have t1 := below_cell hb2 hpH' t1
              go_wp2
              clear t0 t1
              go_loopw [10, 47] (fun al i wr => ∃ (j : Nat) (c : Bool) (B : List Int) (C : Nat → Int), j ≤ x.length ∧ i = .int .i64 j ∧ al = .bool c ∧ C = (x.take j).foldl (stC s k (rowC s x k)) (fun _ => NW) ∧ (c = false → ∀ u, C u = NW) ∧ okC C ∧ Row B C m ∧ Own eInt 2 H wr (.slice (some ⟨H, 0, none⟩) m m) B ∧ Below H w0 wr) (fun _ i _ => x.length - (intOf i).toNat)
              case atStart => exact ⟨0, false, ys, _, Nat.zero_le _, rfl, rfl, rfl, fun _ _ => rfl, okC_nw, HN.out, o2, hb2⟩
              case round =>
                clear o2 hb2 HY HYS HN hq hlq hqm
                obtain ⟨j, c, B, C, hj, rfl, rfl, hCe, hdead, hok, hRow, o2, hb2⟩ := hrel
                have HC := hid hCe
                have HD := hid hdead
                have HO := hid hok
                have HB := hid hRow
                clear hCe hdead hok hRow
                have t0 := below_cell hb2 hpH' (below_cell hb1 hpp r0)
                have t1 := below_cell hb2 hpH' (below_cell hb1 hpp r1)
                by_cases hjl : j < x.length
                · obtain ⟨hao', hbw⟩ := hao (by omega)
                  subst hao'
                  obtain ⟨e, he⟩ : ∃ e, x[j]? = some e := ⟨_, List.getElem?_eq_getElem hjl⟩
                  have hcq : Cells eEdge wr b off x := ((hcW (by omega)).below hb1 (hbg (by omega))).below hb2 (by have := hbg (by omega); omega)
                  obtain ⟨c0, c1, c2, c3⟩ := eEdge_cells hcq he
                  have hjli : (j : Int) < (x.length : Int) := by omega
                  obtain ⟨f0, f1, f2, f3, f4⟩ := valid_fit HV.out he
                  have HN := hid (show (x.take (j + 1)).foldl (stC s k (rowC s x k)) (fun _ => NW) = stC s k (rowC s x k) C e by rw [HC.out]; exact foldl_take he)
                  have HX := hid (List.mem_of_getElem? he)
                  obtain ⟨fq, tq, la, co⟩ := e
                  simp only at c0 c1 c2 c3 f0 f1 f2 f3 f4
                  obtain ⟨f, rfl⟩ : ∃ f : Nat, fq = f := ⟨fq.toNat, by omega⟩
                  obtain ⟨t, rfl⟩ : ∃ t : Nat, tq = t := ⟨tq.toNat, by omega⟩
                  clear he hcq hao
                  have hfm : f < m := by omega
                  have htm : t < m := by omega
                  have hti : (t : Int) < (m : Int) := f2
                  have hfi : (f : Int) < (m : Int) := by omega
                  have a1 := below_cell hb2 hgH (ownI_get o1 HA.out.1 (HA.out.2 f hfm))
                  have a2 := ownI_get o2 HB.out.1 (HB.out.2 t htm)
                  have d1 := HOK.out f
                  have d2 := HO.out t
                  obtain ⟨rc, hrc⟩ : ∃ r, r = rowC s x k f := ⟨_, rfl⟩
                  obtain ⟨ro, hro⟩ : ∃ r, r = C t := ⟨_, rfl⟩
                  rw [← hrc] at a1 d1
                  rw [← hro] at a2 d2
                  have HRC := hid hrc
                  have HRO := hid hro
                  clear hrc hro
                  have hsl : (k : Int) + 1 ≤ (s.size : Int) := by omega
                  have eN := NW_eq
                  obtain ⟨w3, hw3⟩ : ∃ w3, w3 = wr.alloc (.cells #[.int .i64 f, .int .i64 t, .string la, .int .i64 co] 59) := ⟨_, rfl⟩
                  have hm3 : Below wr.heap.size wr w3 := by rw [hw3]; exact below_alloc _ _
                  have hgr0 := o2.lt.2
                  have hb3 : Below H w0 w3 := hb2.trans (hm3.mono (by omega))
                  have ho3 := o2.below hm3
                  replace a1 := cell_later hm3 a1
                  replace a2 := cell_later hm3 a2
                  have e0 : w3.cell? ⟨wr.heap.size, 0, none⟩ = some (.int .i64 f) := by rw [hw3]; simp
                  have e1 : w3.cell? ⟨wr.heap.size, 1, none⟩ = some (.int .i64 t) := by rw [hw3]; simp
                  have e2 : w3.cell? ⟨wr.heap.size, 2, none⟩ = some (.string la) := by rw [hw3]; simp
                  have e3 : w3.cell? ⟨wr.heap.size, 3, none⟩ = some (.int .i64 co) := by rw [hw3]; simp
                  cases hpe : eqS (pieceAt s k) la
                  · have HS : Hid (stC s k (rowC s x k) C ⟨f, t, la, co⟩ = C) := hid (stC_keep fun h => by rw [hpe] at h; cases h)
                    have hp : (la.toList == (s.extract k (k + 1)).toList) = false := (eqS_comm _ _).trans hpe
                    clear hpe
                    go_wp2
                    rw [← hw3]
                    clear hw3
                    go_big_quiet (fail)
                    go_wp2
                    go_roundw
                    case rel => exact ⟨j + 1, c, B, C, by omega, by go_num, rfl, by rw [HN.out, HS.out], HD.out, HO.out, HB.out, ho3, below_drewN hb3 _⟩
                    case measure => simp [intOf]; omega
                  · have hp : (la.toList == (s.extract k (k + 1)).toList) = true := (eqS_comm _ _).trans hpe
                    by_cases hrn : rc = NW
                    · have HS : Hid (stC s k (rowC s x k) C ⟨f, t, la, co⟩ = C) := hid (stC_keep fun h => by show C t ≤ rowC s x k f + co; rw [← HRC.out, ← HRO.out]; omega)
                      rw [hrn, NW_eq] at a1
                      clear hpe
                      go_wp2
                      rw [← hw3]
                      clear hw3
                      go_big_quiet (fail)
                      go_wp2
                      go_roundw
                      case rel => exact ⟨j + 1, c, B, C, by omega, by go_num, rfl, by rw [HN.out, HS.out], HD.out, HO.out, HB.out, ho3, below_drewN hb3 _⟩
                      case measure => simp [intOf]; omega
                    · have hrc0 : 0 ≤ rc := by omega
                      have hrc1 : rc ≤ 20000000 := by omega
                      have hrc2 : rc < 1099511627776 := by omega
                      have HW3 : Hid (Row (B.set t (min ro (rc + co))) (stC s k (rowC s x k) C ⟨f, t, la, co⟩) m) := hid (HB.out.set htm (by rw [HRC.out, HRO.out]; exact (stC_here (e := ⟨f, t, la, co⟩) hpe).symm) (fun v hv => stC_else (e := ⟨f, t, la, co⟩) hv))
                      have HOK2 : Hid (okC (stC s k (rowC s x k) C ⟨f, t, la, co⟩)) := hid (okC_st HG.out HX.out HOK.out HO.out)
                      have hwr : IntKind.i64.wrap (rc + co) = rc + co := IntWalk.i64_in _ (by omega)
                      clear hpe hrn d1 d2 eN
                      go_wp2
                      rw [← hw3]
                      clear hw3
                      go_big_quiet (fail)
                      obtain ⟨w4, hw4⟩ : ∃ w4, w4 = w3.drewN nq := ⟨_, rfl⟩
                      have hb4 : Below H w0 w4 := by rw [hw4]; exact below_drewN hb3 _
                      have ho4 : Own eInt 2 H w4 (.slice (some ⟨H, 0, none⟩) m m) B := by rw [hw4]; exact ho3
                      replace a1 := cell_eqN hw4 a1
                      replace a2 := cell_eqN hw4 a2
                      replace e0 := cell_eqN hw4 e0
                      replace e1 := cell_eqN hw4 e1
                      replace e3 := cell_eqN hw4 e3
                      rw [← hw4]
                      clear hw4 e2
                      have hfree := ho4.free HB.out.1
                      go_wp2
                      refine wp_region_still_tail 18 (by kernel_rfl) (by kernel_rfl) ?_
                      simp only [List.take_succ_cons, List.take_zero, List.drop_succ_cons, List.drop_zero]
                      repeat (first | still_step)
                      refine wpStill_nil ?_
                      change wpList _ _ _ _ _ (World.drew _)
                      go_wp2
                      have a3 := ownI_below (u := min ro (rc + co)) (k := t) ho4 HB.out.1 htm hb4
                      go_roundw
                      case rel => exact ⟨j + 1, true, _, _, by omega, by go_num, rfl, HN.out.symm, (fun h => by cases h), HOK2.out, HW3.out, a3.1, a3.2.drew⟩
                      case measure => simp [intOf]; omega
                · obtain rfl : j = x.length := by omega
                  have HR : Hid (C = rowC s x (k + 1)) := hid (by have := HC.out; rw [List.take_length] at this; exact this)
                  have hjn : ¬ ((x.length : Int) < (x.length : Int)) := by omega
                  have hbe : Below (p + 1) W wr := hb1.trans (hb2.mono hpH)
                  cases c
                  · have HZ : Hid (rowC s x s.size (m - 1) = NW) := hid (by
                      have := row_dead HG.out s (k := k + 1) (fun v => by rw [← HR.out]; exact HD.out rfl v) (s.size - (k + 1)) (m - 1)
                      rwa [show k + 1 + (s.size - (k + 1)) = s.size by omega] at this)
                    go_wp2
                    go_ret
                    exact ret_int (by rw [HZ.out]; rfl) (by rw [← HP.out]; exact hbW.trans (hbe.mono (by omega)))
                  · go_wp2
                    go_roundw
                    case rel => exact ⟨k + 1, H, B, by omega, by go_num, rfl, by rw [← HR.out]; exact HB.out, o2.mono hpH, hbe⟩
                    case measure => simp [intOf]; omega
        · obtain rfl : k = s.size := by omega
          have hkn : ¬ ((s.size : Int) < (s.size : Int)) := by omega
          have c0 := ownI_get o1 HA.out.1 (HA.out.2 (m - 1) (by omega))
          have hk1 : (0 : Int) ≤ (m : Int) - 1 := by omega
          have hk2 : (m : Int) - 1 < (m : Int) := by omega
          have hk3 : ((m : Int) - 1).toNat = m - 1 := by omega
          go_wp2
          go_ret
          exact ret_ret rfl (by rw [← HP.out]; exact hbW.trans (hb1.mono (by omega)))
end Go.Proofs.Ytnanegdcoegahaa
