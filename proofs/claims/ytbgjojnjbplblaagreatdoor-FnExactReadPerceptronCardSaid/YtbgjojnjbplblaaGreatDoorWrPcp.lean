/- The type Perceptron: how its values lie in memory, and what the laws' functions over it do, for every argument that can be read. -/
import Derived.Test.YtbgjojnjbplblaaGreatDoorWrStringS
import Derived.Test.YtbgjojnjbplblaaGreatDoorWrInt64SS
import Derived.Test.YtbgjojnjbplblaaGreatDoorApp
namespace Go.Proofs.YtbgjojnjbplblaaGreatDoor
open Go.ChangeShapes Go.WideShapes Go.ChangeAt Go.RowKit Go.Deep

/-- a struct of two values with memory -/
def Rep.agg2 {X Y : Type} (R1 : Rep X) (R2 : Rep Y) : Rep (X × Y) where
  at_ := fun lo hi w v x => ∃ u1 u2, v = .agg #[u1, u2] ∧ R1.at_ lo hi w u1 x.1 ∧ R2.at_ lo hi w u2 x.2
  own := fun lo hi w v x => ∃ u1 u2, v = .agg #[u1, u2] ∧ R1.own lo hi w u1 x.1 ∧ R2.own lo hi w u2 x.2
  own_at := fun ⟨u1, u2, hv, h1, h2⟩ => ⟨u1, u2, hv, R1.own_at h1, R2.own_at h2⟩
  at_chg := fun ⟨u1, u2, hv, h1, h2⟩ hc hd => ⟨u1, u2, hv, R1.at_chg h1 hc hd, R2.at_chg h2 hc hd⟩
  own_chg := fun ⟨u1, u2, hv, h1, h2⟩ hc hd => ⟨u1, u2, hv, R1.own_chg h1 hc hd, R2.own_chg h2 hc hd⟩
  at_mono := fun ⟨u1, u2, hv, h1, h2⟩ hl hh => ⟨u1, u2, hv, R1.at_mono h1 hl hh, R2.at_mono h2 hl hh⟩
  own_mono := fun ⟨u1, u2, hv, h1, h2⟩ hl hh => ⟨u1, u2, hv, R1.own_mono h1 hl hh, R2.own_mono h2 hl hh⟩
  ty := fun T => R1.ty T || R2.ty T
  own_set := fun ⟨u1, u2, hv, h1, h2⟩ hp hT => ⟨u1, u2, hv, R1.own_set h1 hp (by simp at hT; exact hT.1), R2.own_set h2 hp (by simp at hT; exact hT.2)⟩

theorem NestOwn.typed {α : Type} {E : Enc α} {e eo : TypeId} {lo hi : Nat} {ty : TypeId → Bool} {w w' : World} {u : Value} {X : List (List α)} (h : NestOwn E e eo lo hi w u X) (ht : Typed ty w w') (h1 : ty e = false) (h2 : ty eo = false) : NestOwn E e eo lo hi w' u X := by
  obtain ⟨vs, a, b, c, d⟩ := h
  exact ⟨vs, a.typed ht h2, b, fun i s x hs hx => (c i s x hs hx).typed ht h1, d⟩
theorem typed_mono {ty ty' : TypeId → Bool} {w w' : World} (h : Typed ty w w') (hs : ∀ T, ty' T = false → ty T = false) : Typed ty' w w' := fun k c T f h1 h2 => h k c T f h1 (hs T h2)
theorem mk_mono {ty ty' : TypeId → Bool} {a b : Nat} {w w' : World} (h : Mk ty a b w w') (hs : ∀ T, ty' T = false → ty T = false) : Mk ty' a b w w' := ⟨h.1, typed_mono h.2 hs⟩

abbrev XPerceptron := XStringS × XInt64SS
def rPerceptron : Rep XPerceptron := Rep.agg2 rStringS rInt64SS
def goodPerceptron (x : XPerceptron) : Prop := goodStringS x.1
def sizePerceptron (x : XPerceptron) : Nat := sizeStringS x.1 + sizeInt64SS x.2
def okPerceptron (x : XPerceptron) : Prop := okStringS x.1 ∧ okInt64SS x.2
theorem okPerceptron_of {x : XPerceptron} (h : sizePerceptron x ≤ 1048576) : okPerceptron x := by
  unfold sizePerceptron at h
  exact ⟨okStringS_of (by omega), okInt64SS_of (by omega)⟩
def cntPerceptron (x : XPerceptron) : Int := cntStringS x.1 + cntInt64SS x.2
theorem cntPerceptron_bd {x : XPerceptron} (h : okPerceptron x) : 0 ≤ cntPerceptron x ∧ cntPerceptron x ≤ 10000000 := by
  have h1 := h.1
  have h2 := h.2
  unfold okStringS at h1
  unfold okInt64SS at h2
  unfold cntPerceptron cntStringS cntInt64SS
  omega
def mkXPerceptron (k : Int) (x : XPerceptron) : XPerceptron := (mkXStringS k x.1, mkXInt64SS (k + cntStringS x.1) x.2)
theorem shapePerceptron {lo hi : Nat} {w : World} {v : Value} {x : XPerceptron} (h : rPerceptron.at_ lo hi w v x) : ∃ (sa : Option Addr × Option Addr) (sc : Nat × Nat), v = .agg #[.slice sa.1 x.1.length sc.1, .slice sa.2 x.2.length sc.2] := by
  obtain ⟨u1, u2, rfl, h1, h2⟩ := h
  obtain ⟨sa, sc, rfl⟩ := shapeStringS h1
  obtain ⟨sb, sd, rfl⟩ := shapeInt64SS h2
  exact ⟨(sa, sb), (sc, sd), rfl⟩

set_option maxRecDepth 100000 in
set_option maxHeartbeats 1000000 in
theorem eqPerceptron_any (v1 v2 : Value) (x : XPerceptron) (w : World) {lo1 hi1 lo2 hi2 : Nat} (h1 : rPerceptron.at_ lo1 hi1 w v1 x) (h2 : rPerceptron.at_ lo2 hi2 w v2 x) :
    Calls Tryz.prog 12 #[v1, v2] w (Ret (.bool true) w) := by
  obtain ⟨u1, u2, rfl, a1, a2⟩ := h1
  obtain ⟨u3, u4, rfl, b1, b2⟩ := h2
  obtain ⟨x1, x2⟩ := x
  simp only at a1 a2 b1 b2
  replace a2 := (rowsI_at a2).at_
  replace b2 := (rowsI_at b2).at_
  replace a1 := (rStringS_arr a1).in_
  replace b1 := (rStringS_arr b1).in_
  obtain ⟨W, hW⟩ : ∃ u, u = ((w.alloc (.cells #[u1, u2] 33)).alloc (.cells #[u3, u4] 33)) := ⟨_, rfl⟩
  have hbW : Below w.heap.size w W := by rw [hW]; exact belowA2 _ _ _
  have q1 : Box W (w.heap.size) #[u1, u2] 33 := by
    have hq := Box.new w #[u1, u2] 33
    rw [hW]
    exact (hq.alloc _)
  have q2 : Box W (w.heap.size + 1) #[u3, u4] 33 := by
    have hq := Box.new (w.alloc (.cells #[u1, u2] 33)) #[u3, u4] 33
    simp at hq
    rw [hW]
    exact hq
  obtain ⟨p1, hp1⟩ : ∃ p, p = w.heap.size := ⟨_, rfl⟩
  rw [← hp1] at q1
  have hge1 : w.heap.size ≤ p1 := by omega
  obtain ⟨p2, hp2⟩ : ∃ p, p = w.heap.size + 1 := ⟨_, rfl⟩
  rw [← hp2] at q2
  have hge2 : w.heap.size ≤ p2 := by omega
  have hlW : w.heap.size ≤ W.heap.size := hbW.size
  have hlp1 : p1 < W.heap.size := q1.lt
  have hlp2 : p2 < W.heap.size := q2.lt
  have hne12 : p1 ≠ p2 := by omega
  have HP1 := hid hp1
  have HP2 := hid hp2
  have HW := hid hW
  clear hW hp1 hp2
  have A1 := rStringS.at_below a1 hbW
  have A2 := rInt64SS.at_below a2 hbW
  have B1 := rStringS.at_below b1 hbW
  have B2 := rInt64SS.at_below b2 hbW
  have m10 := q1.cell (j := 0) rfl
  have m11 := q1.cell (j := 1) rfl
  have m20 := q2.cell (j := 0) rfl
  have m21 := q2.cell (j := 1) rfl
  go_enter Tryz.func12, Tryz.ntmps12
  go_wp2_with fail
  rw [← HP2.out, ← HP1.out, ← HW.out]
  refine (eqStringSR_any _ _ x1 W A1 B1).mono ?_
  rintro e w2 ⟨rfl, hb⟩
  have c11 := cell_later hb m11
  have c21 := cell_later hb m21
  go_wp2_with fail
  refine (eqInt64SS_any _ _ x2 w2 (rowsI_at (rInt64SS.at_below A2 hb)) (rowsI_at (rInt64SS.at_below B2 hb))).mono ?_
  rintro e w3 ⟨rfl, hb3⟩
  go_wp2_with fail
  go_ret
  exact ret_bool rfl (hbW.trans ((hb.trans (hb3.mono hb.size)).mono hlW))
set_option maxRecDepth 100000 in
set_option maxHeartbeats 1000000 in
theorem markPerceptron_any (v : Value) (x : XPerceptron) (lo hi : Nat) (k : Int) (w : World) (h : rPerceptron.own lo hi w v x) (hn : okPerceptron x) (hk0 : 0 ≤ k) (hk1 : k ≤ 8000000) :
    Calls Tryz.prog 13 #[v, .int .i64 k] w (RetMark rPerceptron (mkXPerceptron k x) (k + cntPerceptron x) lo hi v w) := by
  obtain ⟨u1, u2, rfl, h1, h2⟩ := h
  obtain ⟨x1, x2⟩ := x
  simp only at h1 h2
  obtain ⟨hn1, hn2⟩ := hn
  simp only at hn1 hn2
  obtain ⟨W, hW⟩ : ∃ u, u = (w.alloc (.cells #[u1, u2] 33)) := ⟨_, rfl⟩
  have hbW : Below w.heap.size w W := by rw [hW]; exact belowA1 _ _
  have q1 : Box W (w.heap.size) #[u1, u2] 33 := by
    have hq := Box.new w #[u1, u2] 33
    rw [hW]
    exact hq
  obtain ⟨p1, hp1⟩ : ∃ p, p = w.heap.size := ⟨_, rfl⟩
  rw [← hp1] at q1
  have hge1 : w.heap.size ≤ p1 := by omega
  have hlW : w.heap.size ≤ W.heap.size := hbW.size
  have hlp1 : p1 < W.heap.size := q1.lt
  have HP1 := hid hp1
  have HW := hid hW
  clear hW hp1
  have A1 := rStringS.own_below h1 hbW
  have A2 := rInt64SS.own_below h2 hbW
  have m11 := q1.cell (j := 1) rfl
  have m10 := q1.cell (j := 0) rfl
  have HN := hid (cntStringS_bd hn1)
  have hx1 : x1.length ≤ 1048576 := hn1
  have hkk : k + cntStringS x1 ≤ 10000000 := by unfold cntStringS; omega
  have hk3 : 0 ≤ k + cntStringS x1 := by unfold cntStringS; omega
  have CM := markStringSR_any u1 x1 lo hi k W A1 hn1 hk0 (by omega)
  obtain ⟨k2, hk2⟩ : ∃ k2, k2 = k + cntStringS x1 := ⟨_, rfl⟩
  rw [← hk2] at CM hkk hk3
  have HK := hid hk2
  have bT : BoxT W p1 33 := ⟨_, _, q1⟩
  clear hk2
  go_enter Tryz.func13, Tryz.ntmps13
  go_wp2_with fail
  rw [← HP1.out, ← HW.out]
  refine CM.mono ?_
  rintro e w2 ⟨rfl, ho, hm⟩
  have B2 := NestOwn.typed A2 hm.2 (by rfl) (by rfl)
  have c11 := typed_cell hm.2 bT (by rfl) m11
  go_wp2_with fail
  refine (markInt64SS_any u2 x2 lo hi k2 w2 B2 hn2 hk3 hkk).mono ?_
  rintro e w3 ⟨rfl, ho2, hm2⟩
  have ho3 := OwnIn.typed ho hm2.2 (by rfl)
  go_wp2_with fail
  go_ret
  refine ⟨by rw [HK.out]; show Ending.returned (.int .i64 _) = Ending.returned (.int .i64 _); congr 2; unfold cntPerceptron; simp only; omega, ⟨u1, u2, rfl, ho3, by unfold mkXPerceptron; rw [HK.out] at ho2; exact ho2⟩, ((Mk.of_below hbW).trans (mk_mono hm ?_)).trans (mk_mono hm2 ?_)⟩
  · intro T hT
    unfold rPerceptron Rep.agg2 at hT
    simp at hT
    exact hT.1
  · intro T hT
    unfold rPerceptron Rep.agg2 at hT
    simp at hT
    exact hT.2
set_option maxRecDepth 100000 in
set_option maxHeartbeats 1000000 in
theorem heldPerceptron_any (v : Value) (x : XPerceptron) (k : Int) (w : World) {lo hi : Nat} (h : rPerceptron.at_ lo hi w v (mkXPerceptron k x)) (hn : okPerceptron x) (hk0 : 0 ≤ k) (hk1 : k ≤ 8000000) :
    Calls Tryz.prog 14 #[v, .int .i64 k] w (Ret (.int .i64 (k + cntPerceptron x)) w) := by
  obtain ⟨u1, u2, rfl, h1, h2⟩ := h
  obtain ⟨x1, x2⟩ := x
  obtain ⟨hn1, hn2⟩ := hn
  unfold mkXPerceptron at h1 h2
  simp only at h1 h2 hn1 hn2
  replace h1 := (rStringS_arr h1).in_
  replace h2 := (rowsI_at h2).at_
  obtain ⟨W, hW⟩ : ∃ u, u = (w.alloc (.cells #[u1, u2] 33)) := ⟨_, rfl⟩
  have hbW : Below w.heap.size w W := by rw [hW]; exact belowA1 _ _
  have q1 : Box W (w.heap.size) #[u1, u2] 33 := by
    have hq := Box.new w #[u1, u2] 33
    rw [hW]
    exact hq
  obtain ⟨p1, hp1⟩ : ∃ p, p = w.heap.size := ⟨_, rfl⟩
  rw [← hp1] at q1
  have hge1 : w.heap.size ≤ p1 := by omega
  have hlW : w.heap.size ≤ W.heap.size := hbW.size
  have hlp1 : p1 < W.heap.size := q1.lt
  have HP1 := hid hp1
  have HW := hid hW
  clear hW hp1
  have A1 := rStringS.at_below h1 hbW
  have A2 := rInt64SS.at_below h2 hbW
  have m11 := q1.cell (j := 1) rfl
  have m10 := q1.cell (j := 0) rfl
  have hx1 : x1.length ≤ 1048576 := hn1
  have hkk : k + cntStringS x1 ≤ 10000000 := by unfold cntStringS; omega
  have hk3 : 0 ≤ k + cntStringS x1 := by unfold cntStringS; omega
  have CM := heldStringSR_any u1 x1 k W A1 hn1 hk0 (by omega)
  obtain ⟨k2, hk2⟩ : ∃ k2, k2 = k + cntStringS x1 := ⟨_, rfl⟩
  rw [← hk2] at CM hkk hk3 A2
  have HK := hid hk2
  have hk2d : decide (k2 < 0) = false := by rw [decide_eq_false_iff_not]; omega
  have hcs := cntInt64SS_bd hn2
  obtain ⟨k4, hk4⟩ : ∃ k4, k4 = k2 + cntInt64SS x2 := ⟨_, rfl⟩
  have hk4d : decide (k4 < 0) = false := by rw [decide_eq_false_iff_not]; omega
  have HK4 := hid hk4
  clear hk2 hcs
  go_enter Tryz.func14, Tryz.ntmps14
  go_wp2_with fail
  rw [← HP1.out, ← HW.out]
  refine CM.mono ?_
  rintro e w2 ⟨rfl, hb⟩
  have c11 := cell_later hb m11
  clear hk4
  go_wp2_with fail
  refine (heldInt64SS_any u2 x2 k2 w2 (rowsI_at (rInt64SS.at_below A2 hb)) hn2 hk3 hkk).mono ?_
  rintro e w3 ⟨rfl, hb3⟩
  rw [← HK4.out]
  go_wp2_with fail
  go_ret
  exact ret_int (by rw [HK4.out, HK.out]; unfold cntPerceptron; simp only; omega) (hbW.trans ((hb.trans (hb3.mono hb.size)).mono hlW))
end Go.Proofs.YtbgjojnjbplblaaGreatDoor
