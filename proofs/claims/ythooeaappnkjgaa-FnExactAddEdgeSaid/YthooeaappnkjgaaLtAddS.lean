/- The reference's call that adds an edge to a lattice. -/
import Derived.Test.YthooeaappnkjgaaLtPut
import Derived.Test.YthooeaappnkjgaaLtJoin
import Derived.Test.YthooeaappnkjgaaWrLattice
import Derived.Deep.RegionHeld3
import Derived.Deep.Cut
namespace Go.Proofs.Ythooeaappnkjgaa
open Go.RowKit Go.Sort
attribute [local go_sem ↓] Go.wp_at_zero Go.wp_at_succ

set_option maxHeartbeats 8000000 in
set_option maxRecDepth 100000 in
theorem specAddEdge_any (v1 : Value) (x : XLattice) (e : DEdge) (w : World) {lo1 hi1 : Nat} (h1 : rLattice.at_ lo1 hi1 w v1 x) (ok1 : okLattice x) (g1 : goodLattice x) (ge : goodEdge e) :
    Calls Try.prog 7 #[v1, .agg #[.int .i64 e.frm, .int .i64 e.to_, .string e.label, .int .i64 e.cost]] w (RetNew rLattice (addLt x e) #[.int .i64 (addC x e)] w) := by
  have hws : e.label.size ≤ 9223372036854775807 := ge.2.2.1
  obtain ⟨u1, rfl, h1⟩ := h1
  replace h1 := ArrIn.arr h1
  obtain ⟨n, x⟩ := x
  obtain ⟨a1, k1, hu⟩ := h1.isSlice
  subst hu
  simp only at h1
  have ok1' : x.length ≤ 1048576 := ok1
  obtain ⟨W, hW⟩ : ∃ u, u = (((w.alloc (.cells #[.int .i64 n, .slice a1 x.length k1] 31)).alloc (.cells #[.int .i64 e.frm, .int .i64 e.to_, .string e.label, .int .i64 e.cost] 35)).alloc (.cells #[.int .i64 0, .slice none 0 0] 31)) := ⟨_, rfl⟩
  have hbW : Below w.heap.size w W := by rw [hW]; exact belowA3 _ _ _ _
  have q1 : Box W (w.heap.size) #[.int .i64 n, .slice a1 x.length k1] 31 := by
    have hq := Box.new w #[.int .i64 n, .slice a1 x.length k1] 31
    rw [hW]
    exact ((hq.alloc _).alloc _)
  have q2 : Box W (w.heap.size + 1) #[.int .i64 e.frm, .int .i64 e.to_, .string e.label, .int .i64 e.cost] 35 := by
    have hq := Box.new (w.alloc (.cells #[.int .i64 n, .slice a1 x.length k1] 31)) #[.int .i64 e.frm, .int .i64 e.to_, .string e.label, .int .i64 e.cost] 35
    simp at hq
    rw [hW]
    exact (hq.alloc _)
  have q3 : Box W (w.heap.size + 1 + 1) #[.int .i64 0, .slice none 0 0] 31 := by
    have hq := Box.new ((w.alloc (.cells #[.int .i64 n, .slice a1 x.length k1] 31)).alloc (.cells #[.int .i64 e.frm, .int .i64 e.to_, .string e.label, .int .i64 e.cost] 35)) #[.int .i64 0, .slice none 0 0] 31
    simp at hq
    rw [hW]
    exact hq
  obtain ⟨p1, hp1⟩ : ∃ p, p = w.heap.size := ⟨_, rfl⟩
  rw [← hp1] at q1
  have hge1 : w.heap.size ≤ p1 := by omega
  obtain ⟨p2, hp2⟩ : ∃ p, p = w.heap.size + 1 := ⟨_, rfl⟩
  rw [← hp2] at q2
  have hge2 : w.heap.size ≤ p2 := by omega
  obtain ⟨p3, hp3⟩ : ∃ p, p = w.heap.size + 1 + 1 := ⟨_, rfl⟩
  rw [← hp3] at q3
  have hge3 : w.heap.size ≤ p3 := by omega
  have hlW : w.heap.size ≤ W.heap.size := hbW.size
  have hlp1 : p1 < W.heap.size := q1.lt
  have hlp2 : p2 < W.heap.size := q2.lt
  have hlp3 : p3 < W.heap.size := q3.lt
  have hne12 : p1 ≠ p2 := by omega
  have hne13 : p1 ≠ p3 := by omega
  have hne23 : p2 ≠ p3 := by omega
  have HP1 := hid hp1
  have HP2 := hid hp2
  have HP3 := hid hp3
  have HW := hid hW
  clear hW hp1 hp2 hp3
  have hA := h1.below hbW
  have m0 := q1.cell (j := 0) rfl
  have m1 := q1.cell (j := 1) rfl
  have d0 := q2.cell (j := 0) rfl
  have d1 := q2.cell (j := 1) rfl
  have d2 := q2.cell (j := 2) rfl
  have d3 := q2.cell (j := 3) rfl
  have finish : ∀ (w' : World) (m : Int) (sa : Option Addr) (l sc : Nat) (z : List DEdge) (c : Int), Hid (addLt (n, x) e = (m, z) ∧ addC (n, x) e = c) → Own eEdge 35 w.heap.size w' (.slice sa l sc) z → Below w.heap.size w w' → RetNew rLattice (addLt (n, x) e) #[.int .i64 (addC (n, x) e)] w (.returned (.tuple #[.agg #[.int .i64 m, .slice sa l sc], .int .i64 c])) w' := by
    intro w' m sa l sc z c hz ho hb
    rw [hz.out.1, hz.out.2]
    exact ⟨_, rfl, rLt_new ho (Nat.le_refl _), hb⟩
  have CV := l15Ok_any p1 n _ x W m0 m1 hA ok1 g1
  cases hv : validLt (n, x)
  · have HZ : Hid (addLt (n, x) e = (0, []) ∧ addC (n, x) e = 1) := by show _ ∧ _; simp [addLt, addC, hv]
    rw [hv] at CV
    go_enter Try.func7, Try.ntmps7
    go_wp2_with fail
    rw [← HP3.out, ← HP2.out, ← HP1.out, ← HW.out]
    refine CV.mono ?_
    rintro en w2 ⟨rfl, hb⟩
    have q3' := q3.later hb
    have b0 := q3'.cell (j := 0) rfl
    have b1 := q3'.cell (j := 1) rfl
    have bf := q3'.free
    clear m0 m1 d0 d1 d2 d3
    go_wp2_with fail
    refine bodyPost_ret (v := .tuple #[.agg #[.int .i64 0, .slice none 0 0], .int .i64 1]) (by simp [results, Try.results7, go_sem, b0, b1]) rfl (finish _ _ _ _ _ _ _ HZ (Own.nil _ _ _) ?_)
    exact ((hbW.trans (hb.mono hlW)).setCell hge3 _).setCell hge3 _
  rw [hv] at CV
  obtain ⟨c1, c2, c3⟩ := valid_bd hv
  have CE := fun w' (hb : Below W.heap.size W w') => l15Ends_any p1 p2 0 n e w' (cell_later hb m0) (by omega) (by omega) (cell_later hb d0) (cell_later hb d1) (cell_later hb d3)
  cases hf : fitE n e
  · have HZ : Hid (addLt (n, x) e = (0, []) ∧ addC (n, x) e = 2) := by show _ ∧ _; simp [addLt, addC, hv, hf]
    rw [hf] at CE
    go_enter Try.func7, Try.ntmps7
    go_wp2_with fail
    rw [← HP3.out, ← HP2.out, ← HP1.out, ← HW.out]
    refine CV.mono ?_
    rintro en w2 ⟨rfl, hb⟩
    go_wp2_with fail
    refine (CE w2 hb).mono ?_
    rintro en w3 ⟨rfl, hb3⟩
    replace hb := hb.trans (hb3.mono hb.size)
    have q3' := q3.later hb
    have b0 := q3'.cell (j := 0) rfl
    have b1 := q3'.cell (j := 1) rfl
    have bf := q3'.free
    clear m0 m1 d0 d1 d2 d3
    go_wp2_with fail
    refine bodyPost_ret (v := .tuple #[.agg #[.int .i64 0, .slice none 0 0], .int .i64 2]) (by simp [results, Try.results7, go_sem, b0, b1]) rfl (finish _ _ _ _ _ _ _ HZ (Own.nil _ _ _) ?_)
    exact ((hbW.trans (hb.mono hlW)).setCell hge3 _).setCell hge3 _
  rw [hf] at CE
  cases hl : isLabelB e.label
  · have HZ : Hid (addLt (n, x) e = (0, []) ∧ addC (n, x) e = 7) := by show _ ∧ _; simp [addLt, addC, hv, hf, hl]
    have CL := specLabel_is hws hl
    go_enter Try.func7, Try.ntmps7
    go_wp2_with fail
    rw [← HP3.out, ← HP2.out, ← HP1.out, ← HW.out]
    refine CV.mono ?_
    rintro en w2 ⟨rfl, hb⟩
    go_wp2_with fail
    refine (CE w2 hb).mono ?_
    rintro en w3 ⟨rfl, hb3⟩
    replace hb := hb.trans (hb3.mono hb.size)
    have s2 := cell_later hb d2
    go_wp2_with fail
    refine (CL w3).mono ?_
    rintro en w4 ⟨rfl, rfl⟩
    have q3' := q3.later hb
    have b0 := q3'.cell (j := 0) rfl
    have b1 := q3'.cell (j := 1) rfl
    have bf := q3'.free
    clear m0 m1 d0 d1 d2 d3 s2
    go_wp2_with fail
    refine bodyPost_ret (v := .tuple #[.agg #[.int .i64 0, .slice none 0 0], .int .i64 7]) (by simp [results, Try.results7, go_sem, b0, b1]) rfl (finish _ _ _ _ _ _ _ HZ (Own.nil _ _ _) ?_)
    exact ((hbW.trans (hb.mono hlW)).setCell hge3 _).setCell hge3 _
  have CL := specLabel_is hws hl
  have hA' := hA
  obtain ⟨b, off, ao, cap, hva, hnc, hcm, hao, hc⟩ := hA'
  simp only [Value.slice.injEq] at hva
  obtain ⟨rfl, _, rfl⟩ := hva
  unfold maxLen at hcm
  have HV := hid hv
  have HF := hid hf
  have HL := hid hl
  clear hv hf hl
  go_enter Try.func7, Try.ntmps7
  go_wp2_with fail
  rw [← HP3.out, ← HP2.out, ← HP1.out, ← HW.out]
  refine CV.mono ?_
  rintro en w2 ⟨rfl, hb⟩
  go_wp2_with fail
  refine (CE w2 hb).mono ?_
  rintro en w3 ⟨rfl, hb3⟩
  replace hb := hb.trans (hb3.mono hb.size)
  have s2 := cell_later hb d2
  go_wp2_with fail
  refine (CL w3).mono ?_
  rintro en w4 ⟨rfl, rfl⟩
  clear CV CE CL s2
  go_wp2_with fail
  go_loopw [6] (fun i wr => ∃ k : Nat, k ≤ x.length ∧ i = .int .i64 k ∧ Below W.heap.size W wr ∧ ∀ j a, j < k → x[j]? = some a → ordE a e ≠ 0) (fun i _ => x.length - (intOf i).toNat)
  case atStart => exact ⟨0, Nat.zero_le _, rfl, hb, fun j a h => by omega⟩
  case round =>
    clear hb hb3
    obtain ⟨k, hk, rfl, hb, hall⟩ := hrel
    have HA := hid hall
    clear hall
    have t1 := cell_later hb m1
    by_cases hlt : k < x.length
    · have hli : (k : Int) < (x.length : Int) := by omega
      obtain ⟨hao', hbw⟩ := hao (by omega)
      subst hao'
      obtain ⟨a, ha⟩ : ∃ a, x[k]? = some a := ⟨_, List.getElem?_eq_getElem hlt⟩
      obtain ⟨y0, y1, y2, y3⟩ := eEdge_cells (hc.below hb hbw) ha
      have CO := l15Order_any b (off + k * 4) p2 0 a e wr y0 y1 y2 (cell_later hb d0) (cell_later hb d1) (cell_later hb d2)
      have HE := hid ha
      clear ha hao y0 y1 y2 y3
      by_cases ho : ordE a e = 0
      · have hh : hasE x e = true := by unfold hasE; exact List.any_eq_true.2 ⟨a, List.mem_of_getElem? HE.out, by simp [ho]⟩
        have HZ : Hid (addLt (n, x) e = (0, []) ∧ addC (n, x) e = 4) := by show _ ∧ _; simp [addLt, addC, HV.out, HF.out, HL.out, hh]
        have hob : (ordE a e == 0) = true := by simpa using ho
        clear hh
        go_wp2_with fail
        refine CO.mono ?_
        rintro en w5 ⟨rfl, hb5⟩
        replace hb := hb.trans (hb5.mono hb.size)
        have q3' := q3.later hb
        have b0 := q3'.cell (j := 0) rfl
        have b1 := q3'.cell (j := 1) rfl
        have bf := q3'.free
        clear m0 m1 d0 d1 d2 d3 t1
        go_wp2_with fail
        refine bodyPost_ret (v := .tuple #[.agg #[.int .i64 0, .slice none 0 0], .int .i64 4]) (by simp [results, Try.results7, go_sem, b0, b1]) rfl (finish _ _ _ _ _ _ _ HZ (Own.nil _ _ _) ?_)
        exact ((hbW.trans (hb.mono hlW)).setCell hge3 _).setCell hge3 _
      · have hob : (ordE a e == 0) = false := by simpa using ho
        go_wp2_with fail
        refine CO.mono ?_
        rintro en w5 ⟨rfl, hb5⟩
        replace hb := hb.trans (hb5.mono hb.size)
        go_wp2_with fail
        go_roundw
        case rel =>
          refine ⟨k + 1, by omega, by go_num, hb, fun j a' hj ha' => ?_⟩
          by_cases ej : j = k
          · subst ej
            rw [HE.out] at ha'
            obtain rfl := Option.some.inj ha'
            exact ho
          · exact HA.out j a' (by omega) ha'
        case measure => simp [intOf]; omega
    · obtain rfl : k = x.length := by omega
      have hli : ¬ ((x.length : Int) < (x.length : Int)) := by omega
      have hh : hasE x e = false := by
        cases h : hasE x e with
        | false => rfl
        | true =>
          unfold hasE at h
          obtain ⟨a, ha, h0⟩ := List.any_eq_true.1 h
          obtain ⟨j, hj⟩ := List.getElem?_of_mem ha
          exact absurd (by simpa using h0) (HA.out j a (List.getElem?_eq_some_iff.1 hj).1 hj)
      by_cases h2 : 200 ≤ x.length
      · have HZ : Hid (addLt (n, x) e = (0, []) ∧ addC (n, x) e = 5) := by show _ ∧ _; simp [addLt, addC, HV.out, HF.out, HL.out, hh, h2, show ¬ x.length < 200 by omega]
        have h2i : (200 : Int) ≤ (x.length : Int) := by omega
        have q3' := q3.later hb
        have b0 := q3'.cell (j := 0) rfl
        have b1 := q3'.cell (j := 1) rfl
        have bf := q3'.free
        clear hh h2
        go_wp2_with fail
        refine bodyPost_ret (v := .tuple #[.agg #[.int .i64 0, .slice none 0 0], .int .i64 5]) (by simp [results, Try.results7, go_sem, b0, b1]) rfl (finish _ _ _ _ _ _ _ HZ (Own.nil _ _ _) ?_)
        exact ((hbW.trans (hb.mono hlW)).setCell hge3 _).setCell hge3 _
      · have HZ : Hid (addLt (n, x) e = (n, insE ltE x e) ∧ addC (n, x) e = 0) := by show _ ∧ _; simp [addLt, addC, HV.out, HF.out, HL.out, hh, show x.length < 200 by omega, h2]
        have h2i : ¬ ((200 : Int) ≤ (x.length : Int)) := by omega
        have CP := fun w' (hb' : Below W.heap.size W w') => l15Put_any _ x e w' (hA.below hb') (by omega)
        have t0 := cell_later hb m0
        have u0 := cell_later hb d0
        have u1 := cell_later hb d1
        have u2 := cell_later hb d2
        have u3 := cell_later hb d3
        have hbs := hb.size
        have hp3l : p3 < wr.heap.size := by omega
        have n1 : p1 ≠ p3 := by have := HP1.out; have := HP3.out; omega
        have n2 : p2 ≠ p3 := by have := HP2.out; have := HP3.out; omega
        have n3 := n1.symm
        have n4 := n2.symm
        clear hh h2
        go_upto_region 14 with fail
        go_region_held3 (fun w' => w'.cell? ⟨p1, 0, none⟩ = some (.int .i64 n) ∧ w'.cell? ⟨p1, 1, none⟩ = some (.slice a1 x.length k1) ∧ w'.cell? ⟨p2, 0, none⟩ = some (.int .i64 e.frm) ∧ w'.cell? ⟨p2, 1, none⟩ = some (.int .i64 e.to_) ∧ w'.cell? ⟨p2, 2, none⟩ = some (.string e.label) ∧ w'.cell? ⟨p2, 3, none⟩ = some (.int .i64 e.cost)) (first | go_keep)
          ((go_at_call 28; refine (CP _ hb.drew).mono ?_; rintro en w5 ⟨u, rfl, ho5, hb5⟩; obtain ⟨ua, uc, hu⟩ := ho5.isSlice; subst hu; have b0 := (q3.later (hb.drew.trans (hb5.mono hbs))).cell (j := 0) rfl; have b1 := (q3.later (hb.drew.trans (hb5.mono hbs))).cell (j := 1) rfl; have bf := (q3.later (hb.drew.trans (hb5.mono hbs))).free; have hb6 := hb.drew.trans (hb5.mono hbs); have r0 := cell_later hb6 m0; have r1 := cell_later hb6 m1; have r2 := cell_later hb6 d0; have r3 := cell_later hb6 d1; have r4 := cell_later hb6 d2; have r5 := cell_later hb6 d3))
        go_wp2_with fail
        refine bodyPost_ret (v := .tuple #[.agg #[.int .i64 n, .slice ua (insE ltE x e).length uc], .int .i64 0]) (by simp [results, Try.results7, go_sem, b0, b1]) rfl (finish _ _ _ _ _ _ _ HZ (((ho5.setBelow (a := ⟨p3, 0, none⟩) hp3l _).setBelow (a := ⟨p3, 1, none⟩) hp3l _).mono (Nat.le_trans hlW hbs)) ?_)
        exact ((hbW.trans (hb6.mono hlW)).setCell hge3 _).setCell hge3 _
end Go.Proofs.Ythooeaappnkjgaa
