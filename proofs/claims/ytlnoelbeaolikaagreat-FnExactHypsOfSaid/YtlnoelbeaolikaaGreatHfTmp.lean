/- A template: what the laws' functions over it do, for every argument that can be read. -/
import Derived.Test.YtlnoelbeaolikaaGreatWrTmp
import Derived.Test.YtlnoelbeaolikaaGreatMark
import Derived.Test.YtlnoelbeaolikaaGreatApp
import Derived.Deep.Cut
namespace Go.Proofs.YtlnoelbeaolikaaGreat
open Go.ChangeShapes Go.WideShapes Go.ChangeAt Go.RowKit Go.Deep

set_option maxRecDepth 100000 in
set_option maxHeartbeats 1000000 in
theorem toTemplate_any (v : Value) (x : XTemplate) (w : World) {lo hi : Nat} (h : rTemplate.at_ lo hi w v x) (hn : okTemplate x) :
    Calls Tryz.prog 60 #[v] w (RetR rTemplate x w) := by
  obtain ⟨u2, rfl, h2⟩ := h
  obtain ⟨x1, x2⟩ := x
  unfold okTemplate at hn
  simp only at h2 hn
  obtain ⟨sb, sd, hu2⟩ := shapeFeatS h2
  subst hu2
  obtain ⟨W, hW⟩ : ∃ u, u = (((w.alloc (.cells #[.string x1, .slice sb x2.length sd] 97)).alloc (.cells #[.string ⟨#[]⟩, .slice none 0 0] 106)).alloc (.cells #[.string ⟨#[]⟩, .slice none 0 0] 106)) := ⟨_, rfl⟩
  have hbW : Below w.heap.size w W := by rw [hW]; exact belowA3 _ _ _ _
  have q1 : Box W (w.heap.size) #[.string x1, .slice sb x2.length sd] 97 := by
    have hq := Box.new w #[.string x1, .slice sb x2.length sd] 97
    rw [hW]
    exact ((hq.alloc _).alloc _)
  have q2 : Box W (w.heap.size + 1) #[.string ⟨#[]⟩, .slice none 0 0] 106 := by
    have hq := Box.new (w.alloc (.cells #[.string x1, .slice sb x2.length sd] 97)) #[.string ⟨#[]⟩, .slice none 0 0] 106
    simp at hq
    rw [hW]
    exact (hq.alloc _)
  have q3 : Box W (w.heap.size + 1 + 1) #[.string ⟨#[]⟩, .slice none 0 0] 106 := by
    have hq := Box.new ((w.alloc (.cells #[.string x1, .slice sb x2.length sd] 97)).alloc (.cells #[.string ⟨#[]⟩, .slice none 0 0] 106)) #[.string ⟨#[]⟩, .slice none 0 0] 106
    simp at hq
    rw [hW]
    exact hq
  obtain ⟨p1, hp1⟩ : ∃ p, p = w.heap.size := ⟨_, rfl⟩
  rw [← hp1] at q1
  have hge1 : w.heap.size ≤ p1 := by omega
  obtain ⟨p2, hp2⟩ : ∃ p, p = w.heap.size + 1 := ⟨_, rfl⟩
  rw [← hp2] at q2
  have hge2 : w.heap.size ≤ p2 := by omega
  obtain ⟨p3, hp3⟩ : ∃ p, p = w.heap.size + 1 + 1 := ⟨_, rfl⟩
  rw [← hp3] at q3
  have hge3 : w.heap.size ≤ p3 := by omega
  have hlW : w.heap.size ≤ W.heap.size := hbW.size
  have hlp1 : p1 < W.heap.size := q1.lt
  have hlp2 : p2 < W.heap.size := q2.lt
  have hlp3 : p3 < W.heap.size := q3.lt
  have hne12 : p1 ≠ p2 := by omega
  have hne13 : p1 ≠ p3 := by omega
  have hne23 : p2 ≠ p3 := by omega
  have HP1 := hid hp1
  have HP2 := hid hp2
  have HP3 := hid hp3
  have HW := hid hW
  clear hW hp1 hp2 hp3
  have hB := rFeatS.at_below h2 hbW
  have m10 := q1.cell (j := 0) rfl
  have m11 := q1.cell (j := 1) rfl
  have n30 := q3.cell (j := 0) rfl
  have n3f := q3.free
  go_enter Tryz.func60, Tryz.ntmps60
  go_upto_region 2 with fail
  rw [← HP3.out, ← HP2.out, ← HP1.out, ← HW.out]
  have r3 := q3.set 0 (.string x1)
  have r2 : Box (W.setCell ⟨p3, 0, none⟩ (.string x1)) p2 #[.string ⟨#[]⟩, .slice none 0 0] 106 := by
    unfold Box at *
    rw [Below.heap_setCell _ _ _ _ hne23]; exact q2
  have hb2 : Below w.heap.size w (W.setCell ⟨p3, 0, none⟩ (.string x1)) := hbW.setCell hge3 _
  have hB2 : rFeatS.at_ 0 (W.setCell ⟨p3, 0, none⟩ (.string x1)).heap.size (W.setCell ⟨p3, 0, none⟩ (.string x1)) (.slice sb x2.length sd) x2 := Arr.in_ ((rFeatS_arr h2).below hb2)
  have hl2 : W.heap.size ≤ (W.setCell ⟨p3, 0, none⟩ (.string x1)).heap.size := by simp
  clear h2 hB
  go_wp2_with fail
  obtain ⟨w3, hw3⟩ : ∃ w3, w3 = W.setCell ⟨p3, 0, none⟩ (.string x1) := ⟨_, rfl⟩
  rw [← hw3] at hB2 r3 r2 hb2 hl2 ⊢
  clear hw3
  refine (toFeatSR_any _ x2 _ hB2 hn).mono ?_
  rintro e w4 ⟨u2, rfl, ho2, hb4⟩
  obtain ⟨sb', sd', hu2⟩ := shapeFeatS (rFeatS.own_at ho2)
  subst hu2
  have c30 := (r3.later hb4).cell (j := 0) rfl
  have c31 := (r3.later hb4).cell (j := 1) rfl
  have c3f := (r3.later hb4).free
  have c20 := (r2.later hb4).cell (j := 0) rfl
  have c21 := (r2.later hb4).cell (j := 1) rfl
  have c2f := (r2.later hb4).free
  have hb5 := hb2.trans (hb4.mono hb2.size)
  have hz : w3.heap.size ≤ w4.heap.size := hb4.size
  clear m10 m11 r3 r2 hb4 n30 n3f q1 q2 q3
  go_wp2_with fail
  refine bodyPost_ret (v := .agg #[.string x1, .slice sb' x2.length sd']) (by simp [results, Tryz.results60, go_sem, c20, c21]) rfl ⟨_, rfl, ⟨_, rfl, ?_⟩, ?_⟩
  · refine rFeatS.own_mono (rFeatS.own_chg (rFeatS.own_chg (rFeatS.own_chg ho2 (chg_set _ p3 1 _) (.inl (by omega))) (chg_set _ p2 0 _) (.inl (by omega))) (chg_set _ p2 1 _) (.inl (by omega))) (by omega) ?_
    simp
  · exact ((hb5.setCell hge3 _).setCell hge2 _).setCell hge2 _
set_option maxRecDepth 100000 in
set_option maxHeartbeats 1000000 in
theorem szTemplate_any (v : Value) (x : XTemplate) (left : Int) (w : World) {lo hi : Nat} (h : rTemplate.at_ lo hi w v x) (hs : goodTemplate x) (hl : 0 ≤ left) (hu : left ≤ 1048576) :
    Calls Tryz.prog 50 #[v, .int .i64 left] w (Ret (.int .i64 (szOf (sizeTemplate x) left)) w) := by
  obtain ⟨u2, rfl, h2⟩ := h
  obtain ⟨x1, x2⟩ := x
  obtain ⟨g1, g2⟩ := hs
  simp only at h2 g1 g2
  unfold maxLen at g1
  obtain ⟨sb, sd, hu2⟩ := shapeFeatS h2
  subst hu2
  obtain ⟨W, hW⟩ : ∃ u, u = (w.alloc (.cells #[.string x1, .slice sb x2.length sd] 97)) := ⟨_, rfl⟩
  have hbW : Below w.heap.size w W := by rw [hW]; exact belowA1 _ _
  have q1 : Box W (w.heap.size) #[.string x1, .slice sb x2.length sd] 97 := by
    have hq := Box.new w #[.string x1, .slice sb x2.length sd] 97
    rw [hW]
    exact hq
  obtain ⟨p1, hp1⟩ : ∃ p, p = w.heap.size := ⟨_, rfl⟩
  rw [← hp1] at q1
  have hge1 : w.heap.size ≤ p1 := by omega
  have hlW : w.heap.size ≤ W.heap.size := hbW.size
  have hlp1 : p1 < W.heap.size := q1.lt
  have HP1 := hid hp1
  have HW := hid hW
  clear hW hp1
  have hB := rFeatS.at_below h2 hbW
  have m10 := q1.cell (j := 0) rfl
  have m11 := q1.cell (j := 1) rfl
  have HSZ : Hid (sizeTemplate (x1, x2) = x1.size + sizeFeatS x2) := hid rfl
  clear h2
  by_cases hf1 : left < (x1.size : Nat)
  · have p0 : decide (left - (x1.size : Int) < 0) = true := by rw [decide_eq_true_eq]; omega
    go_enter Tryz.func50, Tryz.ntmps50
    go_upto_region 1 with fail
    rw [← HP1.out, ← HW.out]
    go_wp2_with fail
    go_ret
    exact ret_int (by rw [szOf_neg (by rw [HSZ.out]; omega)]) hbW
  · obtain ⟨l2, hl2⟩ : ∃ l2, l2 = left - (x1.size : Nat) := ⟨_, rfl⟩
    have p0 : 0 ≤ l2 := by omega
    have p1' : l2 ≤ 1048576 := by omega
    have p2' : decide (left - (x1.size : Int) < 0) = false := by rw [decide_eq_false_iff_not]; omega
    have HL := hid hl2
    have CF := fun w' (hb : Below W.heap.size W w') => szFeatSR_any _ x2 (left - (x1.size : Nat)) w' (rFeatS.at_below hB hb) g2 (by omega) (by omega)
    rw [← hl2] at CF
    by_cases hf2 : l2 < (sizeFeatS x2 : Nat)
    · rw [szOf_neg hf2] at CF
      go_enter Tryz.func50, Tryz.ntmps50
      go_upto_region 1 with fail
      rw [← HP1.out, ← HW.out]
      go_wp2_with fail
      rw [← hl2]
      refine (CF _ (Below.refl _ _)).mono ?_
      rintro e w3 ⟨rfl, hb3⟩
      go_wp2_with fail
      go_ret
      exact ret_int (by rw [szOf_neg (by rw [HSZ.out]; have := HL.out; omega)]) (hbW.trans (hb3.mono hlW))
    · rw [szOf_pos (by omega)] at CF
      obtain ⟨l3, hl3⟩ : ∃ l3, l3 = l2 - (sizeFeatS x2 : Nat) := ⟨_, rfl⟩
      rw [← hl3] at CF
      have p3 : decide (l3 < 0) = false := by rw [decide_eq_false_iff_not]; omega
      have HL3 := hid hl3
      go_enter Tryz.func50, Tryz.ntmps50
      go_upto_region 1 with fail
      rw [← HP1.out, ← HW.out]
      go_wp2_with fail
      rw [← hl2]
      refine (CF _ (Below.refl _ _)).mono ?_
      rintro e w3 ⟨rfl, hb3⟩
      clear hl3 hl2
      go_wp2_with fail
      go_ret
      exact ret_int (by rw [szOf_pos (by rw [HSZ.out]; have := HL.out; omega), HSZ.out, HL3.out, HL.out]; omega) (hbW.trans (hb3.mono hlW))
set_option maxRecDepth 100000 in
set_option maxHeartbeats 1000000 in
theorem eqTemplate_any (v1 v2 : Value) (x : XTemplate) (w : World) {lo1 hi1 lo2 hi2 : Nat} (h1 : rTemplate.at_ lo1 hi1 w v1 x) (h2 : rTemplate.at_ lo2 hi2 w v2 x) :
    Calls Tryz.prog 72 #[v1, v2] w (Ret (.bool true) w) := by
  obtain ⟨u1, rfl, a2⟩ := h1
  obtain ⟨u2, rfl, b2⟩ := h2
  obtain ⟨x1, x2⟩ := x
  simp only at a2 b2
  obtain ⟨W, hW⟩ : ∃ u, u = ((w.alloc (.cells #[.string x1, u1] 106)).alloc (.cells #[.string x1, u2] 106)) := ⟨_, rfl⟩
  have hbW : Below w.heap.size w W := by rw [hW]; exact belowA2 _ _ _
  have q1 : Box W (w.heap.size) #[.string x1, u1] 106 := by
    have hq := Box.new w #[.string x1, u1] 106
    rw [hW]
    exact (hq.alloc _)
  have q2 : Box W (w.heap.size + 1) #[.string x1, u2] 106 := by
    have hq := Box.new (w.alloc (.cells #[.string x1, u1] 106)) #[.string x1, u2] 106
    simp at hq
    rw [hW]
    exact hq
  obtain ⟨p1, hp1⟩ : ∃ p, p = w.heap.size := ⟨_, rfl⟩
  rw [← hp1] at q1
  have hge1 : w.heap.size ≤ p1 := by omega
  obtain ⟨p2, hp2⟩ : ∃ p, p = w.heap.size + 1 := ⟨_, rfl⟩
  rw [← hp2] at q2
  have hge2 : w.heap.size ≤ p2 := by omega
  have hlW : w.heap.size ≤ W.heap.size := hbW.size
  have hlp1 : p1 < W.heap.size := q1.lt
  have hlp2 : p2 < W.heap.size := q2.lt
  have hne12 : p1 ≠ p2 := by omega
  have HP1 := hid hp1
  have HP2 := hid hp2
  have HW := hid hW
  clear hW hp1 hp2
  have A2 := rFeatS.at_below (rFeatS.at_mono a2 (Nat.zero_le _) (Nat.le_refl _)) (Below.refl _ _)
  have CE := fun w' (hb : Below w.heap.size w w') => eqFeatSR_any u1 u2 x2 w' (Arr.in_ ((rFeatS_arr a2).below hb)) (Arr.in_ ((rFeatS_arr b2).below hb))
  have m10 := q1.cell (j := 0) rfl
  have m11 := q1.cell (j := 1) rfl
  have m20 := q2.cell (j := 0) rfl
  have m21 := q2.cell (j := 1) rfl
  clear A2
  go_enter Tryz.func72, Tryz.ntmps72
  go_upto_region 1 with fail
  rw [← HP2.out, ← HP1.out, ← HW.out]
  go_wp2_with fail
  refine (CE W hbW).mono ?_
  rintro e w3 ⟨rfl, hb3⟩
  go_wp2_with fail
  go_ret
  exact ret_bool rfl (hbW.trans (hb3.mono hlW))
end Go.Proofs.YtlnoelbeaolikaaGreat
