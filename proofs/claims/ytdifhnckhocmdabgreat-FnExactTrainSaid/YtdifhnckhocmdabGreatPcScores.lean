/- The scores of an input: both calls. -/
import Derived.Test.YtdifhnckhocmdabGreatPcInput
import Derived.Test.YtdifhnckhocmdabGreatPcOk
import Derived.Test.YtdifhnckhocmdabGreatApp
import Derived.Test.YtdifhnckhocmdabGreatNest
namespace Go.Proofs.YtdifhnckhocmdabGreat
open Go.RowKit

theorem scoresF_take {W : List (List Int)} {x : List Int} {k : Nat} {r : List Int} (h : W[k]? = some r) : scoresF (W.take (k + 1)) x = scoresF (W.take k) x ++ [scoreR x r] := by
  unfold scoresF; rw [List.take_add_one, h]; simp
theorem scoresF_len (W : List (List Int)) (x : List Int) : (scoresF W x).length = W.length := by simp [scoresF]
theorem rowOk_len {r : List Int} (h : rowOk r = true) : r.length = 25 := by
  unfold rowOk at h; rw [Bool.and_eq_true, decide_eq_true_eq] at h; exact h.1
theorem dotK_zero (r x : List Int) : dotK r x 0 = 0 := rfl

set_option maxRecDepth 100000 in
set_option maxHeartbeats 2000000 in
theorem scoresOf_any (u1 u2 u : Value) (X : XInt64SS) (inp : List Int) (w : World) (hX : RowsI w u2 X) (hI : Arr eI w u inp) (ok : okInp inp) (ho : ∀ r ∈ X, rowOk r = true) (hl : X.length ≤ 12) :
    Calls Tryz.prog 80 #[.agg #[u1, u2], u] w (RetR rInt64S (scoresF X inp) w) := by
  obtain ⟨b, off, ao, cap, us, rfl, hnc, hcm, hao, hcl, hul, hin⟩ := hX.slice
  obtain ⟨b3, off3, ao3, cap3, hv3, hnc3, hcm3, hao3, hc3⟩ := hI
  have hi25 := ok.1
  rw [hi25] at hv3 hnc3 hao3
  obtain ⟨hao3', hb3w⟩ := hao3 (by omega)
  subst hv3 hao3'
  unfold maxLen at hcm hcm3
  have HUL := hid hul
  have HIN := hid hin
  clear hul hin hao3 hX
  obtain ⟨W, hW⟩ : ∃ u, u = (w.alloc (.cells #[u1, .slice ao X.length cap] 29)) := ⟨_, rfl⟩
  have hbW : Below w.heap.size w W := by rw [hW]; exact belowA1 _ _
  have q1 : Box W (w.heap.size) #[u1, .slice ao X.length cap] 29 := by
    have hq := Box.new w #[u1, .slice ao X.length cap] 29
    rw [hW]
    exact hq
  obtain ⟨p1, hp1⟩ : ∃ p, p = w.heap.size := ⟨_, rfl⟩
  rw [← hp1] at q1
  have hge1 : w.heap.size ≤ p1 := by omega
  have hlW : w.heap.size ≤ W.heap.size := hbW.size
  have hlp1 : p1 < W.heap.size := q1.lt
  have HP1 := hid hp1
  have HW := hid hW
  clear hW hp1
  have m11 := q1.cell (j := 1) rfl
  go_enter Tryz.func80, Tryz.ntmps80
  go_wp2_with fail
  rw [← HP1.out, ← HW.out]
  go_wp2_with fail
  go_loopw [5, 14] (fun s i wr => ∃ k : Nat, k ≤ X.length ∧ i = .int .i64 k ∧ Own eI 2 w.heap.size wr s (scoresF (X.take k) inp) ∧ Below w.heap.size w wr) (fun _ i _ => X.length - (intOf i).toNat)
  case atStart => exact ⟨0, Nat.zero_le _, rfl, Own.nil _ _ _, hbW⟩
  case round =>
    clear m11 q1
    obtain ⟨k, hk, rfl, hown, hb⟩ := hrel
    by_cases hlt : k < X.length
    · have hli : (k : Int) < (X.length : Int) := by omega
      obtain ⟨hao', hbw⟩ := hao (by omega)
      subst hao'
      obtain ⟨r, hr⟩ : ∃ r, X[k]? = some r := ⟨_, List.getElem?_eq_getElem hlt⟩
      obtain ⟨s, hsv⟩ : ∃ s, us[k]? = some s := ⟨_, List.getElem?_eq_getElem (by rw [HUL.out]; exact hlt)⟩
      have d0 := eS1_cells (hcl.below hb hbw) hsv
      have hA := (HIN.out k s r hsv hr).below hb
      have hro := ho r (List.mem_of_getElem? hr)
      have hr25 := rowOk_len hro
      obtain ⟨b2, off2, ao2, cap2, hv2, hnc2, hcm2, hao2, hc2⟩ := hA
      have hv2 : Value.slice s.a s.n s.c = .slice ao2 r.length cap2 := hv2
      rw [hr25] at hv2 hnc2 hao2
      rw [hv2] at d0
      obtain ⟨hao2', hb2w⟩ := hao2 (by omega)
      subst hao2'
      unfold maxLen at hcm2
      have HT := hid (scoresF_take (x := inp) hr)
      have hlen : (scoresF (X.take k) inp).length ≤ 12 := by rw [scoresF_len, List.length_take]; omega
      have hbs := hb.size
      have HRO := hid hro
      have HOK := hid ok
      have HI25 := hid hi25
      have HR25 := hid hr25
      have c3 := fun (t : Nat) (c : Int) (hc : inp[t]? = some c) => eI_cell (hc3.below hb hb3w) hc
      have c2 := fun (t : Nat) (c : Int) (hc : r[t]? = some c) => eI_cell hc2 hc
      have C3 := hid c3
      have C2 := hid c2
      clear hao2 hao hr hsv hro hr25 hi25 ok c3 c2 hv2
      go_wp2
      obtain ⟨w0, hw0⟩ : ∃ w0, w0 = wr := ⟨_, rfl⟩
      go_loopw [8, 20] (fun s i wq => ∃ t : Nat, t ≤ 25 ∧ i = .int .i64 t ∧ s = .int .i64 (dotK r inp t) ∧ wq = w0) (fun _ i _ => 25 - (intOf i).toNat)
      case atStart => exact ⟨0, Nat.zero_le _, rfl, by rw [dotK_zero], hw0.symm⟩
      case round =>
        obtain ⟨t, ht, rfl, rfl, hww⟩ := hrel
        subst hw0
        subst hww
        by_cases htl : t < 25
        · have hti : (t : Int) < 25 := by omega
          obtain ⟨c, hcc⟩ : ∃ c, r[t]? = some c := ⟨_, List.getElem?_eq_getElem (by have := HR25.out; omega)⟩
          obtain ⟨y, hy⟩ : ∃ y, inp[t]? = some y := ⟨_, List.getElem?_eq_getElem (by have := HI25.out; omega)⟩
          have e1 := C2.out t c hcc
          have e2 := C3.out t y hy
          have hb1 := dotK_bd HRO.out HOK.out t (by omega)
          have hb2 := rowOk_bd HRO.out t
          have hb3 := HOK.out.2 t
          have HS := hid (dotK_succ r inp t)
          rw [List.getD, hcc, Option.getD_some] at hb2
          rw [List.getD, hy, Option.getD_some] at hb3
          have hm := mul_bd hb2.1 hb2.2 hb3.1 hb3.2
          have HS2 : Hid (dotK r inp (t + 1) = dotK r inp t + c * y) := hid (by have := HS.out; rw [List.getD, hcc, Option.getD_some, List.getD, hy, Option.getD_some] at this; exact this)
          obtain ⟨D, hD⟩ : ∃ D, D = dotK r inp t := ⟨_, rfl⟩
          obtain ⟨m, hmm⟩ : ∃ m, c * y = m := ⟨_, rfl⟩
          rw [hmm] at hm HS2
          rw [← hD] at hb1 HS2 ⊢
          clear hcc hy HS hb2 hb3 hD
          go_wp2
          go_roundw
          case rel => exact ⟨t + 1, by omega, by go_num, by rw [HS2.out], by first | rfl | trivial⟩
          case measure => simp [intOf]; omega
        · obtain rfl : t = 25 := by omega
          have HD := hid (show dotK r inp 25 = scoreR inp r from rfl)
          obtain ⟨D, hD⟩ : ∃ D, D = dotK r inp 25 := ⟨_, rfl⟩
          rw [← hD] at HD ⊢
          clear hD
          go_wp2_with (at_builtin; (refine wpList_appA rfl _ _ 40 rfl w.heap.size 2 _ 8 infoI Tryz.underlying40 rfl _ _ rfl (hown.alloc _) _ [D] rfl (by exact arr_block1 (E := eI) (n := 1) [D] #[.int .i64 D] rfl rfl (by decide) (by simp)) (by unfold maxLen; simp <;> omega) (by simp <;> omega) (by simp <;> omega) ?_; intro v' wA hoA hbA htA))
          have hbA' := (hb.alloc hbs _).trans hbA
          go_roundw
          case rel => exact ⟨k + 1, by omega, by go_num, by rw [HT.out, ← HD.out]; exact hoA, hbA'⟩
          case measure => simp [intOf]; omega
    · obtain rfl : k = X.length := by omega
      rw [List.take_length] at hown
      go_wp2
      go_ret
      exact ⟨_, rfl, hown.in_, hb⟩
set_option maxRecDepth 100000 in
set_option maxHeartbeats 2000000 in
theorem l12Scores_any (p : Nat) (u2 u : Value) (X : XInt64SS) (inp : List Int) (w : World) (m1 : w.cell? ⟨p, 1, none⟩ = some u2) (hX : RowsI w u2 X) (hI : Arr eI w u inp) (ok : okInp inp) (ho : ∀ r ∈ X, rowOk r = true) (hl : X.length ≤ 12) :
    Calls Tryz.prog 68 #[.pointer (some ⟨p, 0, none⟩), u] w (RetR rInt64S (scoresF X inp) w) := by
  obtain ⟨b, off, ao, cap, us, rfl, hnc, hcm, hao, hcl, hul, hin⟩ := hX.slice
  obtain ⟨b3, off3, ao3, cap3, hv3, hnc3, hcm3, hao3, hc3⟩ := hI
  have hi25 := ok.1
  rw [hi25] at hv3 hnc3 hao3
  obtain ⟨hao3', hb3w⟩ := hao3 (by omega)
  subst hv3 hao3'
  unfold maxLen at hcm hcm3
  have HUL := hid hul
  have HIN := hid hin
  clear hul hin hao3 hX
  go_enter Tryz.func68, Tryz.ntmps68
  go_wp2
  go_loopw [5, 6] (fun s i wr => ∃ k : Nat, k ≤ X.length ∧ i = .int .i64 k ∧ Own eI 2 w.heap.size wr s (scoresF (X.take k) inp) ∧ Below w.heap.size w wr) (fun _ i _ => X.length - (intOf i).toNat)
  case atStart => exact ⟨0, Nat.zero_le _, rfl, Own.empty _ _ (Nat.le_refl _), below_alloc _ _⟩
  case round =>
    obtain ⟨k, hk, rfl, hown, hb⟩ := hrel
    have c1 := cell_later hb m1
    by_cases hlt : k < X.length
    · have hli : (k : Int) < (X.length : Int) := by omega
      obtain ⟨hao', hbw⟩ := hao (by omega)
      subst hao'
      obtain ⟨r, hr⟩ : ∃ r, X[k]? = some r := ⟨_, List.getElem?_eq_getElem hlt⟩
      obtain ⟨s, hsv⟩ : ∃ s, us[k]? = some s := ⟨_, List.getElem?_eq_getElem (by rw [HUL.out]; exact hlt)⟩
      have d0 := eS1_cells (hcl.below hb hbw) hsv
      have hA := (HIN.out k s r hsv hr).below hb
      have hro := ho r (List.mem_of_getElem? hr)
      have hr25 := rowOk_len hro
      obtain ⟨b2, off2, ao2, cap2, hv2, hnc2, hcm2, hao2, hc2⟩ := hA
      have hv2 : Value.slice s.a s.n s.c = .slice ao2 r.length cap2 := hv2
      rw [hr25] at hv2 hnc2 hao2
      rw [hv2] at d0
      obtain ⟨hao2', hb2w⟩ := hao2 (by omega)
      subst hao2'
      unfold maxLen at hcm2
      have HT := hid (scoresF_take (x := inp) hr)
      have hlen : (scoresF (X.take k) inp).length ≤ 12 := by rw [scoresF_len, List.length_take]; omega
      have hbs := hb.size
      have HRO := hid hro
      have HOK := hid ok
      have HI25 := hid hi25
      have HR25 := hid hr25
      have c3 := fun (t : Nat) (c : Int) (hc : inp[t]? = some c) => eI_cell (hc3.below hb hb3w) hc
      have c2 := fun (t : Nat) (c : Int) (hc : r[t]? = some c) => eI_cell hc2 hc
      have C3 := hid c3
      have C2 := hid c2
      clear hao2 hao hr hsv hro hr25 hi25 ok c3 c2 hv2
      go_wp2
      obtain ⟨w0, hw0⟩ : ∃ w0, w0 = wr := ⟨_, rfl⟩
      go_loopw [7, 8] (fun s i wq => ∃ t : Nat, t ≤ 25 ∧ i = .int .i64 t ∧ s = .int .i64 (dotK r inp t) ∧ Below w0.heap.size w0 wq) (fun _ i _ => 25 - (intOf i).toNat)
      case atStart => exact ⟨0, Nat.zero_le _, rfl, by rw [dotK_zero], by rw [hw0]; exact Below.refl _ _⟩
      case round =>
        obtain ⟨t, ht, rfl, rfl, hbq⟩ := hrel
        rw [← hw0] at c1 d0 C2 C3 hown hb hbs hb2w
        clear hw0
        have q1 := cell_later hbq c1
        have q2 := cell_later hbq d0
        by_cases htl : t < 25
        · have hti : (t : Int) < 25 := by omega
          obtain ⟨c, hcc⟩ : ∃ c, r[t]? = some c := ⟨_, List.getElem?_eq_getElem (by have := HR25.out; omega)⟩
          obtain ⟨y, hy⟩ : ∃ y, inp[t]? = some y := ⟨_, List.getElem?_eq_getElem (by have := HI25.out; omega)⟩
          have e1 := cell_later hbq (C2.out t c hcc)
          have e2 := cell_later hbq (C3.out t y hy)
          have hb1 := dotK_bd HRO.out HOK.out t (by omega)
          have hb2 := rowOk_bd HRO.out t
          have hb3 := HOK.out.2 t
          have HS := hid (dotK_succ r inp t)
          rw [List.getD, hcc, Option.getD_some] at hb2
          rw [List.getD, hy, Option.getD_some] at hb3
          have hm := mul_bd hb2.1 hb2.2 hb3.1 hb3.2
          have HS2 : Hid (dotK r inp (t + 1) = dotK r inp t + c * y) := hid (by have := HS.out; rw [List.getD, hcc, Option.getD_some, List.getD, hy, Option.getD_some] at this; exact this)
          obtain ⟨D, hD⟩ : ∃ D, D = dotK r inp t := ⟨_, rfl⟩
          obtain ⟨m, hmm⟩ : ∃ m, c * y = m := ⟨_, rfl⟩
          rw [hmm] at hm HS2
          rw [← hD] at hb1 HS2 ⊢
          clear hcc hy HS hb2 hb3 hD
          go_wp2_with fail
          have x_q1 := ext_cell q1
          have x_q2 := ext_cell q2
          have x_e1 := ext_cell e1
          have x_e2 := ext_cell e2
          refine wp_region_ext (by kernel_rfl) (by kernel_rfl) ?_
          repeat (go_big_quiet_step (fail))
          refine wpQuiet_nil ?_
          intro _ hw'
          obtain ⟨nq, hw''⟩ := hw'
          subst hw''
          replace q1 := x_q1 nq
          replace q2 := x_q2 nq
          replace e1 := x_e1 nq
          replace e2 := x_e2 nq
          clear x_q1 x_q2 x_e1 x_e2
          replace hbq := hbq.trans ((ext_below _ nq).mono hbq.size)
          go_wp2
          go_roundw
          case rel => exact ⟨t + 1, by omega, by go_num, by rw [HS2.out], hbq⟩
          case measure => simp [intOf]; omega
        · obtain rfl : t = 25 := by omega
          have HD := hid (show dotK r inp 25 = scoreR inp r from rfl)
          obtain ⟨D, hD⟩ : ∃ D, D = dotK r inp 25 := ⟨_, rfl⟩
          rw [← hD] at HD ⊢
          clear hD
          replace hown := hown.below hbq
          replace hb := hb.trans (hbq.mono hb.size)
          have hbs := hb.size
          go_wp2_with (at_builtin; (refine wpList_appA rfl _ _ 40 rfl w.heap.size 2 _ 8 infoI Tryz.underlying40 rfl _ _ rfl (hown.alloc _) _ [D] rfl (by exact arr_block1 (E := eI) (n := 1) [D] #[.int .i64 D] rfl rfl (by decide) (by simp)) (by unfold maxLen; simp <;> omega) (by simp <;> omega) (by simp <;> omega) ?_; intro v' wA hoA hbA htA))
          have hbA' := (hb.alloc hbs _).trans hbA
          go_roundw
          case rel => exact ⟨k + 1, by omega, by go_num, by rw [HT.out, ← HD.out]; exact hoA, hbA'⟩
          case measure => simp [intOf]; omega
    · obtain rfl : k = X.length := by omega
      rw [List.take_length] at hown
      go_wp2
      go_ret
      exact ⟨_, rfl, hown.in_, hb⟩
end Go.Proofs.YtdifhnckhocmdabGreat
