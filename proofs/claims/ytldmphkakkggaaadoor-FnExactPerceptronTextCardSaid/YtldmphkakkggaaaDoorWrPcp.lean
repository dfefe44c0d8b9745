/- The type Perceptron: how its values lie in memory, and what the laws' functions over it do, for every argument that can be read. -/
import Derived.Test.YtldmphkakkggaaaDoorWrStringS
import Derived.Test.YtldmphkakkggaaaDoorWrInt64SS
import Derived.Test.YtldmphkakkggaaaDoorApp
namespace Go.Proofs.YtldmphkakkggaaaDoor
open Go.ChangeShapes Go.WideShapes Go.ChangeAt Go.RowKit Go.Deep

/-- a struct of two values with memory -/
def Rep.agg2 {X Y : Type} (R1 : Rep X) (R2 : Rep Y) : Rep (X × Y) where
  at_ := fun lo hi w v x => ∃ u1 u2, v = .agg #[u1, u2] ∧ R1.at_ lo hi w u1 x.1 ∧ R2.at_ lo hi w u2 x.2
  own := fun lo hi w v x => ∃ u1 u2, v = .agg #[u1, u2] ∧ R1.own lo hi w u1 x.1 ∧ R2.own lo hi w u2 x.2
  own_at := fun ⟨u1, u2, hv, h1, h2⟩ => ⟨u1, u2, hv, R1.own_at h1, R2.own_at h2⟩
  at_chg := fun ⟨u1, u2, hv, h1, h2⟩ hc hd => ⟨u1, u2, hv, R1.at_chg h1 hc hd, R2.at_chg h2 hc hd⟩
  own_chg := fun ⟨u1, u2, hv, h1, h2⟩ hc hd => ⟨u1, u2, hv, R1.own_chg h1 hc hd, R2.own_chg h2 hc hd⟩
  at_mono := fun ⟨u1, u2, hv, h1, h2⟩ hl hh => ⟨u1, u2, hv, R1.at_mono h1 hl hh, R2.at_mono h2 hl hh⟩
  own_mono := fun ⟨u1, u2, hv, h1, h2⟩ hl hh => ⟨u1, u2, hv, R1.own_mono h1 hl hh, R2.own_mono h2 hl hh⟩
  ty := fun T => R1.ty T || R2.ty T
  own_set := fun ⟨u1, u2, hv, h1, h2⟩ hp hT => ⟨u1, u2, hv, R1.own_set h1 hp (by simp at hT; exact hT.1), R2.own_set h2 hp (by simp at hT; exact hT.2)⟩

theorem NestOwn.typed {α : Type} {E : Enc α} {e eo : TypeId} {lo hi : Nat} {ty : TypeId → Bool} {w w' : World} {u : Value} {X : List (List α)} (h : NestOwn E e eo lo hi w u X) (ht : Typed ty w w') (h1 : ty e = false) (h2 : ty eo = false) : NestOwn E e eo lo hi w' u X := by
  obtain ⟨vs, a, b, c, d⟩ := h
  exact ⟨vs, a.typed ht h2, b, fun i s x hs hx => (c i s x hs hx).typed ht h1, d⟩
theorem typed_mono {ty ty' : TypeId → Bool} {w w' : World} (h : Typed ty w w') (hs : ∀ T, ty' T = false → ty T = false) : Typed ty' w w' := fun k c T f h1 h2 => h k c T f h1 (hs T h2)
theorem mk_mono {ty ty' : TypeId → Bool} {a b : Nat} {w w' : World} (h : Mk ty a b w w') (hs : ∀ T, ty' T = false → ty T = false) : Mk ty' a b w w' := ⟨h.1, typed_mono h.2 hs⟩

abbrev XPerceptron := XStringS × XInt64SS
def rPerceptron : Rep XPerceptron := Rep.agg2 rStringS rInt64SS
def goodPerceptron (x : XPerceptron) : Prop := goodStringS x.1
def sizePerceptron (x : XPerceptron) : Nat := sizeStringS x.1 + sizeInt64SS x.2
def okPerceptron (x : XPerceptron) : Prop := okStringS x.1 ∧ okInt64SS x.2
theorem okPerceptron_of {x : XPerceptron} (h : sizePerceptron x ≤ 1048576) : okPerceptron x := by
  unfold sizePerceptron at h
  exact ⟨okStringS_of (by omega), okInt64SS_of (by omega)⟩
def cntPerceptron (x : XPerceptron) : Int := cntStringS x.1 + cntInt64SS x.2
theorem cntPerceptron_bd {x : XPerceptron} (h : okPerceptron x) : 0 ≤ cntPerceptron x ∧ cntPerceptron x ≤ 10000000 := by
  have h1 := h.1
  have h2 := h.2
  unfold okStringS at h1
  unfold okInt64SS at h2
  unfold cntPerceptron cntStringS cntInt64SS
  omega
def mkXPerceptron (k : Int) (x : XPerceptron) : XPerceptron := (mkXStringS k x.1, mkXInt64SS (k + cntStringS x.1) x.2)
theorem shapePerceptron {lo hi : Nat} {w : World} {v : Value} {x : XPerceptron} (h : rPerceptron.at_ lo hi w v x) : ∃ (sa : Option Addr × Option Addr) (sc : Nat × Nat), v = .agg #[.slice sa.1 x.1.length sc.1, .slice sa.2 x.2.length sc.2] := by
  obtain ⟨u1, u2, rfl, h1, h2⟩ := h
  obtain ⟨sa, sc, rfl⟩ := shapeStringS h1
  obtain ⟨sb, sd, rfl⟩ := shapeInt64SS h2
  exact ⟨(sa, sb), (sc, sd), rfl⟩

set_option maxRecDepth 100000 in
set_option maxHeartbeats 1000000 in
theorem toPerceptron_any (v : Value) (x : XPerceptron) (w : World) {lo hi : Nat} (h : rPerceptron.at_ lo hi w v x) (hn : okPerceptron x) :
    Calls Tryd.prog 28 #[v] w (RetR rPerceptron x w) := by
  obtain ⟨u1, u2, rfl, h1, h2⟩ := h
  obtain ⟨x1, x2⟩ := x
  simp only at h1 h2
  obtain ⟨hn1, hn2⟩ := hn
  replace h1 := rStringS_arr h1
  replace h2 := (rowsI_at h2).at_
  obtain ⟨sa, sc, hu1⟩ := h1.isSlice
  subst hu1
  obtain ⟨sb, sd, hu2⟩ := nestI_slice h2
  subst hu2
  obtain ⟨W, hW⟩ : ∃ u, u = (((w.alloc (.cells #[.slice sa x1.length sc, .slice sb x2.length sd] 60)).alloc (.cells #[.slice none 0 0, .slice none 0 0] 63)).alloc (.cells #[.slice none 0 0, .slice none 0 0] 63)) := ⟨_, rfl⟩
  have hbW : Below w.heap.size w W := by rw [hW]; exact belowA3 _ _ _ _
  have q1 : Box W (w.heap.size) #[.slice sa x1.length sc, .slice sb x2.length sd] 60 := by
    have hq := Box.new w #[.slice sa x1.length sc, .slice sb x2.length sd] 60
    rw [hW]
    exact ((hq.alloc _).alloc _)
  have q2 : Box W (w.heap.size + 1) #[.slice none 0 0, .slice none 0 0] 63 := by
    have hq := Box.new (w.alloc (.cells #[.slice sa x1.length sc, .slice sb x2.length sd] 60)) #[.slice none 0 0, .slice none 0 0] 63
    simp at hq
    rw [hW]
    exact (hq.alloc _)
  have q3 : Box W (w.heap.size + 1 + 1) #[.slice none 0 0, .slice none 0 0] 63 := by
    have hq := Box.new ((w.alloc (.cells #[.slice sa x1.length sc, .slice sb x2.length sd] 60)).alloc (.cells #[.slice none 0 0, .slice none 0 0] 63)) #[.slice none 0 0, .slice none 0 0] 63
    simp at hq
    rw [hW]
    exact hq
  obtain ⟨p1, hp1⟩ : ∃ p, p = w.heap.size := ⟨_, rfl⟩
  rw [← hp1] at q1
  have hge1 : w.heap.size ≤ p1 := by omega
  obtain ⟨p2, hp2⟩ : ∃ p, p = w.heap.size + 1 := ⟨_, rfl⟩
  rw [← hp2] at q2
  have hge2 : w.heap.size ≤ p2 := by omega
  obtain ⟨p3, hp3⟩ : ∃ p, p = w.heap.size + 1 + 1 := ⟨_, rfl⟩
  rw [← hp3] at q3
  have hge3 : w.heap.size ≤ p3 := by omega
  have hlW : w.heap.size ≤ W.heap.size := hbW.size
  have hlp1 : p1 < W.heap.size := q1.lt
  have hlp2 : p2 < W.heap.size := q2.lt
  have hlp3 : p3 < W.heap.size := q3.lt
  have hne12 : p1 ≠ p2 := by omega
  have hne13 : p1 ≠ p3 := by omega
  have hne23 : p2 ≠ p3 := by omega
  have HP1 := hid hp1
  have HP2 := hid hp2
  have HP3 := hid hp3
  have HW := hid hW
  clear hW hp1 hp2 hp3
  have hA := h1.below hbW
  have hB := rInt64SS.at_below h2 hbW
  have m10 := q1.cell (j := 0) rfl
  have m11 := q1.cell (j := 1) rfl
  clear h1 h2
  go_enter Tryd.func28, Tryd.ntmps28
  go_wp2_with fail
  rw [← HP3.out, ← HP2.out, ← HP1.out, ← HW.out]
  refine (toStringS_any _ x1 _ hA hn1).mono ?_
  rintro e w2 ⟨u, rfl, ho, hb⟩
  obtain ⟨sa', sc', hu⟩ := ho.isSlice
  subst hu
  have b30 := (q3.later hb).cell (j := 0) rfl
  have b31 := (q3.later hb).cell (j := 1) rfl
  have b3f := (q3.later hb).free
  have b11 := cell_later hb m11
  have hB2 := rInt64SS.at_chg (rInt64SS.at_below hB hb) (chg_set w2 p3 0 (.slice sa' x1.length sc')) (.inr hge3)
  have hA2 := (rStringS_own ho (Nat.le_refl _))
  have hA3 := rStringS.own_chg hA2 (chg_set w2 p3 0 (.slice sa' x1.length sc')) (.inl hlp3)
  have r3 := (q3.later hb).set 0 (.slice sa' x1.length sc')
  have r2 := (Box.later (q2.later hb) (Below.refl _ _))
  have r2' : Box (w2.setCell ⟨p3, 0, none⟩ (.slice sa' x1.length sc')) p2 #[.slice none 0 0, .slice none 0 0] 63 := by
    unfold Box at *
    rw [Below.heap_setCell _ _ _ _ hne23]; exact r2
  have hb2 : Below w.heap.size w (w2.setCell ⟨p3, 0, none⟩ (.slice sa' x1.length sc')) := (hbW.trans (hb.mono hlW)).setCell hge3 _
  have hl2 : W.heap.size ≤ (w2.setCell ⟨p3, 0, none⟩ (.slice sa' x1.length sc')).heap.size := by have := hb.size; simp; omega
  go_wp2_with fail
  obtain ⟨w3, hw3⟩ : ∃ w3, w3 = w2.setCell ⟨p3, 0, none⟩ (.slice sa' x1.length sc') := ⟨_, rfl⟩
  rw [← hw3] at hB2 hA3 r3 r2' hb2 hl2 ⊢
  have hz2 : w2.heap.size ≤ w3.heap.size := by rw [hw3]; simp
  clear b30 b31 b3f b11 hA2 hw3 r2 hb
  refine (toInt64SS_any _ x2 _ (rowsI_at hB2) hn2).mono ?_
  rintro e w4 ⟨u2, rfl, ho2, hb4⟩
  obtain ⟨sb', sd', hu2⟩ := nestI_slice (rInt64SS.own_at ho2)
  subst hu2
  have c30 := (r3.later hb4).cell (j := 0) rfl
  have c31 := (r3.later hb4).cell (j := 1) rfl
  have c3f := (r3.later hb4).free
  have c20 := (r2'.later hb4).cell (j := 0) rfl
  have c21 := (r2'.later hb4).cell (j := 1) rfl
  have c2f := (r2'.later hb4).free
  have hA4 := rStringS.own_below hA3 hb4
  have hb5 := hb2.trans (hb4.mono hb2.size)
  have hz : w3.heap.size ≤ w4.heap.size := hb4.size
  clear m10 m11 r3 r2' hA3 hb4
  go_wp2_with fail
  refine bodyPost_ret (v := .agg #[.slice sa' x1.length sc', .slice sb' x2.length sd']) (by simp [results, Tryd.results28, go_sem, c20, c21]) rfl ⟨_, rfl, ⟨_, _, rfl, ?_, ?_⟩, ?_⟩
  · refine rStringS.own_mono (rStringS.own_chg (rStringS.own_chg (rStringS.own_chg hA4 (chg_set _ p3 1 _) (.inl hlp3)) (chg_set _ p2 0 _) (.inl hlp2)) (chg_set _ p2 1 _) (.inl hlp2)) hlW ?_
    simp at hl2 hz ⊢; omega
  · refine rInt64SS.own_mono (rInt64SS.own_chg (rInt64SS.own_chg (rInt64SS.own_chg ho2 (chg_set _ p3 1 _) (.inl (by omega))) (chg_set _ p2 0 _) (.inl (by omega))) (chg_set _ p2 1 _) (.inl (by omega))) (by omega) ?_
    simp
  · exact ((hb5.setCell hge3 _).setCell hge2 _).setCell hge2 _
set_option maxRecDepth 100000 in
set_option maxHeartbeats 1000000 in
theorem szPerceptron_any (v : Value) (x : XPerceptron) (left : Int) (w : World) {lo hi : Nat} (h : rPerceptron.at_ lo hi w v x) (hs : goodPerceptron x) (hl : 0 ≤ left) (hu : left ≤ 1048576) :
    Calls Tryd.prog 26 #[v, .int .i64 left] w (Ret (.int .i64 (szOf (sizePerceptron x) left)) w) := by
  obtain ⟨u1, u2, rfl, h1, h2⟩ := h
  obtain ⟨x1, x2⟩ := x
  simp only at h1 h2
  replace h2 := (rowsI_at h2).at_
  replace h1 := (rStringS_arr h1).in_
  obtain ⟨sa, sc, hu1⟩ := shapeStringS h1
  subst hu1
  obtain ⟨sb, sd, hu2⟩ := nestI_slice h2
  subst hu2
  obtain ⟨W, hW⟩ : ∃ u, u = (w.alloc (.cells #[.slice sa x1.length sc, .slice sb x2.length sd] 60)) := ⟨_, rfl⟩
  have hbW : Below w.heap.size w W := by rw [hW]; exact belowA1 _ _
  have q1 : Box W (w.heap.size) #[.slice sa x1.length sc, .slice sb x2.length sd] 60 := by
    have hq := Box.new w #[.slice sa x1.length sc, .slice sb x2.length sd] 60
    rw [hW]
    exact hq
  obtain ⟨p1, hp1⟩ : ∃ p, p = w.heap.size := ⟨_, rfl⟩
  rw [← hp1] at q1
  have hge1 : w.heap.size ≤ p1 := by omega
  have hlW : w.heap.size ≤ W.heap.size := hbW.size
  have hlp1 : p1 < W.heap.size := q1.lt
  have HP1 := hid hp1
  have HW := hid hW
  clear hW hp1
  have hA := rStringS.at_below h1 hbW
  have hB := rInt64SS.at_below h2 hbW
  have m10 := q1.cell (j := 0) rfl
  have m11 := q1.cell (j := 1) rfl
  have CS := szStringSR_any _ x1 left W hA hs hl hu
  have HSZ : Hid (sizePerceptron (x1, x2) = sizeStringS x1 + sizeInt64SS x2) := hid rfl
  clear h1 h2
  by_cases hf1 : left < (sizeStringS x1 : Nat)
  · rw [szOf_neg hf1] at CS
    go_enter Tryd.func26, Tryd.ntmps26
    go_wp2_with fail
    rw [← HP1.out, ← HW.out]
    refine CS.mono ?_
    rintro e w2 ⟨rfl, hb⟩
    go_wp2_with fail
    go_ret
    exact ret_int (by rw [szOf_neg (by rw [HSZ.out]; omega)]) (hbW.trans (hb.mono hlW))
  · rw [szOf_pos (by omega)] at CS
    obtain ⟨l2, hl2⟩ : ∃ l2, l2 = left - (sizeStringS x1 : Nat) := ⟨_, rfl⟩
    rw [← hl2] at CS
    have p0 : 0 ≤ l2 := by omega
    have p1' : l2 ≤ 1048576 := by omega
    have HL := hid hl2
    clear hl2
    have p2' : decide (l2 < 0) = false := by simpa using p0
    by_cases hf2 : l2 < (sizeInt64SS x2 : Nat)
    · go_enter Tryd.func26, Tryd.ntmps26
      go_wp2_with fail
      rw [← HP1.out, ← HW.out]
      refine CS.mono ?_
      rintro e w2 ⟨rfl, hb⟩
      have b11 := cell_later hb m11
      go_wp2_with fail
      refine (szInt64SS_any _ x2 l2 w2 (rowsI_at (rInt64SS.at_below hB hb)) p0 p1').mono ?_
      rintro e w3 ⟨rfl, hb3⟩
      rw [szOf_neg hf2]
      go_wp2_with fail
      go_ret
      exact ret_int (by rw [szOf_neg (by rw [HSZ.out]; have := HL.out; omega)]) (hbW.trans ((hb.trans (hb3.mono hb.size)).mono hlW))
    · go_enter Tryd.func26, Tryd.ntmps26
      go_wp2_with fail
      rw [← HP1.out, ← HW.out]
      refine CS.mono ?_
      rintro e w2 ⟨rfl, hb⟩
      have b11 := cell_later hb m11
      go_wp2_with fail
      refine (szInt64SS_any _ x2 l2 w2 (rowsI_at (rInt64SS.at_below hB hb)) p0 p1').mono ?_
      rintro e w3 ⟨rfl, hb3⟩
      rw [szOf_pos (by omega)]
      obtain ⟨l3, hl3⟩ : ∃ l3, l3 = l2 - (sizeInt64SS x2 : Nat) := ⟨_, rfl⟩
      rw [← hl3]
      have p3 : decide (l3 < 0) = false := by rw [decide_eq_false_iff_not]; omega
      have HL3 := hid hl3
      clear hl3
      go_wp2_with fail
      go_ret
      exact ret_int (by rw [szOf_pos (by rw [HSZ.out]; have := HL.out; omega), HSZ.out, HL3.out, HL.out]; omega) (hbW.trans ((hb.trans (hb3.mono hb.size)).mono hlW))
set_option maxRecDepth 100000 in
set_option maxHeartbeats 1000000 in
theorem eqPerceptron_any (v1 v2 : Value) (x : XPerceptron) (w : World) {lo1 hi1 lo2 hi2 : Nat} (h1 : rPerceptron.at_ lo1 hi1 w v1 x) (h2 : rPerceptron.at_ lo2 hi2 w v2 x) :
    Calls Tryd.prog 30 #[v1, v2] w (Ret (.bool true) w) := by
  obtain ⟨u1, u2, rfl, a1, a2⟩ := h1
  obtain ⟨u3, u4, rfl, b1, b2⟩ := h2
  obtain ⟨x1, x2⟩ := x
  simp only at a1 a2 b1 b2
  replace a2 := (rowsI_at a2).at_
  replace b2 := (rowsI_at b2).at_
  replace a1 := (rStringS_arr a1).in_
  replace b1 := (rStringS_arr b1).in_
  obtain ⟨W, hW⟩ : ∃ u, u = ((w.alloc (.cells #[u1, u2] 63)).alloc (.cells #[u3, u4] 63)) := ⟨_, rfl⟩
  have hbW : Below w.heap.size w W := by rw [hW]; exact belowA2 _ _ _
  have q1 : Box W (w.heap.size) #[u1, u2] 63 := by
    have hq := Box.new w #[u1, u2] 63
    rw [hW]
    exact (hq.alloc _)
  have q2 : Box W (w.heap.size + 1) #[u3, u4] 63 := by
    have hq := Box.new (w.alloc (.cells #[u1, u2] 63)) #[u3, u4] 63
    simp at hq
    rw [hW]
    exact hq
  obtain ⟨p1, hp1⟩ : ∃ p, p = w.heap.size := ⟨_, rfl⟩
  rw [← hp1] at q1
  have hge1 : w.heap.size ≤ p1 := by omega
  obtain ⟨p2, hp2⟩ : ∃ p, p = w.heap.size + 1 := ⟨_, rfl⟩
  rw [← hp2] at q2
  have hge2 : w.heap.size ≤ p2 := by omega
  have hlW : w.heap.size ≤ W.heap.size := hbW.size
  have hlp1 : p1 < W.heap.size := q1.lt
  have hlp2 : p2 < W.heap.size := q2.lt
  have hne12 : p1 ≠ p2 := by omega
  have HP1 := hid hp1
  have HP2 := hid hp2
  have HW := hid hW
  clear hW hp1 hp2
  have A1 := rStringS.at_below a1 hbW
  have A2 := rInt64SS.at_below a2 hbW
  have B1 := rStringS.at_below b1 hbW
  have B2 := rInt64SS.at_below b2 hbW
  have m10 := q1.cell (j := 0) rfl
  have m11 := q1.cell (j := 1) rfl
  have m20 := q2.cell (j := 0) rfl
  have m21 := q2.cell (j := 1) rfl
  go_enter Tryd.func30, Tryd.ntmps30
  go_wp2_with fail
  rw [← HP2.out, ← HP1.out, ← HW.out]
  refine (eqStringSR_any _ _ x1 W A1 B1).mono ?_
  rintro e w2 ⟨rfl, hb⟩
  have c11 := cell_later hb m11
  have c21 := cell_later hb m21
  go_wp2_with fail
  refine (eqInt64SS_any _ _ x2 w2 (rowsI_at (rInt64SS.at_below A2 hb)) (rowsI_at (rInt64SS.at_below B2 hb))).mono ?_
  rintro e w3 ⟨rfl, hb3⟩
  go_wp2_with fail
  go_ret
  exact ret_bool rfl (hbW.trans ((hb.trans (hb3.mono hb.size)).mono hlW))
end Go.Proofs.YtldmphkakkggaaaDoor
