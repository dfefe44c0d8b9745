/- GroupText: both calls. -/
import Derived.Test.YtldmphkakkggaaaDoorFlGroup
import Derived.Test.YtldmphkakkggaaaDoorTxDec
import Derived.BigQuiet
import Derived.Lib.ItoaLen
namespace Go.Proofs.YtldmphkakkggaaaDoor
open Go.RowKit

theorem okN_of {n : Int} (h : (Lit.int .i64 n).wf = true) : okN n := by
  have e1 : IntKind.i64.min = -9223372036854775808 := by decide
  have e2 : IntKind.i64.max = 9223372036854775807 := by decide
  rw [Lit.wf, Bool.and_eq_true, decide_eq_true_iff, decide_eq_true_iff, e1, e2] at h
  exact h
theorem addStr (a b : ByteArray) (h : a.size + b.size ≤ 9223372036854775807) (w : World) : (binOp .add 9 (.string a) (.string b)).run Tryd.prog w = .ok (.string (a ++ b)) w := by
  simp [go_sem, h]
theorem decS_size {n : Int} (h : okN n) : (decS n).size ≤ 21 := by
  show (Lib.itoa n).toArray.size ≤ 21
  have := Lib.itoa_length_le n h.1 h.2
  simpa using this
def grpS (x : DGroup) : ByteArray := decS x.frm ++ ⟨#[45]⟩ ++ decS x.to_
set_option maxRecDepth 100000 in
set_option maxHeartbeats 1000000 in
theorem implGroupText_any (x : DGroup) (w : World) (g : goodGroup x) (ht : TabL w) : Calls Tryd.prog 10 #[.agg #[.int .i64 x.frm, .int .i64 x.to_]] w (Ret (.string (grpS x)) w) := by
  obtain ⟨a, b⟩ := x
  obtain ⟨W, hW⟩ : ∃ u, u = (w.alloc (.cells #[.int .i64 a, .int .i64 b] 25)) := ⟨_, rfl⟩
  have hbW : Below w.heap.size w W := by rw [hW]; exact belowA1 _ _
  have q1 : Box W (w.heap.size) #[.int .i64 a, .int .i64 b] 25 := by
    have hq := Box.new w #[.int .i64 a, .int .i64 b] 25
    rw [hW]
    exact hq
  obtain ⟨p1, hp1⟩ : ∃ p, p = w.heap.size := ⟨_, rfl⟩
  rw [← hp1] at q1
  have hge1 : w.heap.size ≤ p1 := by omega
  have hlW : w.heap.size ≤ W.heap.size := hbW.size
  have hlp1 : p1 < W.heap.size := q1.lt
  have HP1 := hid hp1
  have HW := hid hW
  clear hW hp1
  have htW := ht.below hbW
  have m0 := ext_cell (q1.cell (j := 0) rfl)
  have m1 := ext_cell (q1.cell (j := 1) rfl)
  have ga := okN_of g.1
  have gb := okN_of g.2
  simp only at ga gb
  have hza := decS_size ga
  have hzb := decS_size gb
  have HG : Hid (grpS ⟨a, b⟩ = decS a ++ ⟨#[45]⟩ ++ decS b) := hid rfl
  have had1 := addStr (decS a) ⟨#[45]⟩ (by show (decS a).size + 1 ≤ _; omega)
  have had2 := addStr (decS a ++ ⟨#[45]⟩) (decS b) (by rw [ByteArray.size_append]; show (decS a).size + 1 + (decS b).size ≤ _; omega)
  go_enter Tryd.func10, Tryd.ntmps10
  go_upto_region 1 with fail
  rw [← HP1.out, ← HW.out]
  refine wp_region_ext (by kernel_rfl) (by kernel_rfl) ?_
  repeat (go_big_quiet_step (((go_at_call 32; exact ret_ext (Decimal_any _ _ (by first | exact ga | exact gb) (htW.below (ext_below W _)))))))
  refine wpQuiet_nil ?_
  intro _ hw'
  obtain ⟨nq, hw''⟩ := hw'
  subst hw''
  go_wp2_with fail
  go_ret
  exact ⟨by rw [HG.out]; rfl, hbW.trans ((ext_below W nq).mono hlW)⟩
set_option maxRecDepth 100000 in
set_option maxHeartbeats 1000000 in
theorem specGroupText_any (x : DGroup) (w : World) (g : goodGroup x) (ht : TabL w) : Calls Tryd.prog 8 #[.agg #[.int .i64 x.frm, .int .i64 x.to_]] w (Ret (.string (grpS x)) w) := by
  obtain ⟨a, b⟩ := x
  obtain ⟨W, hW⟩ : ∃ u, u = (w.alloc (.cells #[.int .i64 a, .int .i64 b] 25)) := ⟨_, rfl⟩
  have hbW : Below w.heap.size w W := by rw [hW]; exact belowA1 _ _
  have q1 : Box W (w.heap.size) #[.int .i64 a, .int .i64 b] 25 := by
    have hq := Box.new w #[.int .i64 a, .int .i64 b] 25
    rw [hW]
    exact hq
  obtain ⟨p1, hp1⟩ : ∃ p, p = w.heap.size := ⟨_, rfl⟩
  rw [← hp1] at q1
  have hge1 : w.heap.size ≤ p1 := by omega
  have hlW : w.heap.size ≤ W.heap.size := hbW.size
  have hlp1 : p1 < W.heap.size := q1.lt
  have HP1 := hid hp1
  have HW := hid hW
  clear hW hp1
  have htW := ht.below hbW
  have m0 := ext_cell (q1.cell (j := 0) rfl)
  have m1 := ext_cell (q1.cell (j := 1) rfl)
  have ga := okN_of g.1
  have gb := okN_of g.2
  simp only at ga gb
  have hza := decS_size ga
  have hzb := decS_size gb
  have HG : Hid (grpS ⟨a, b⟩ = decS a ++ ⟨#[45]⟩ ++ decS b) := hid rfl
  have had1 := addStr (decS a) ⟨#[45]⟩ (by show (decS a).size + 1 ≤ _; omega)
  have had2 := addStr (decS a ++ ⟨#[45]⟩) (decS b) (by rw [ByteArray.size_append]; show (decS a).size + 1 + (decS b).size ≤ _; omega)
  go_enter Tryd.func8, Tryd.ntmps8
  go_upto_region 1 with fail
  rw [← HP1.out, ← HW.out]
  refine wp_region_ext (by kernel_rfl) (by kernel_rfl) ?_
  repeat (go_big_quiet_step (((go_at_call 31; exact ret_ext (l01Dec_any _ _ (by first | exact ga | exact gb))))))
  refine wpQuiet_nil ?_
  intro _ hw'
  obtain ⟨nq, hw''⟩ := hw'
  subst hw''
  go_wp2_with fail
  go_ret
  exact ⟨by rw [HG.out]; rfl, hbW.trans ((ext_below W nq).mono hlW)⟩
section
open Go.ChangeShapes Go.WideShapes Go.ChangeAt Go.Deep
set_option maxRecDepth 100000 in
theorem openPGroup {H : Type} {enc : TypeId × Value → H} {W : World} {base : Nat} {spare : Nat → Bool} {held : Bool} {v : Value} {d : DataW H} {ps : List MemPlace} {b0 : Nat} {r : Reach}
    (hv : Value.okWide Tryd.prog W r b0 23 v) (h : DataW.Trod enc Tryd.prog W base spare held 23 v d ps) : ∃ x : DGroup, v = .agg #[.int .i64 x.frm, .int .i64 x.to_] ∧ goodGroup x := by
  obtain ⟨cs, rfl, _⟩ := okWide_struct Tryd.underlying23 hv
  obtain ⟨x, hx, hg⟩ := decGroup W _ (rd_of_trod h)
  obtain ⟨l⟩ := cs
  simp only [Value.cells] at hx
  subst hx
  exact ⟨x, rfl, hg⟩
end
end Go.Proofs.YtldmphkakkggaaaDoor
