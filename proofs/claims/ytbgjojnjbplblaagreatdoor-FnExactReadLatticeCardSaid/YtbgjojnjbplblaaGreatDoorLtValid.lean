/- What a good lattice is, and the calls that tell it. -/
import Derived.Test.YtbgjojnjbplblaaGreatDoorWrLattice
import Derived.Test.YtbgjojnjbplblaaGreatDoorStr
import Derived.Test.YtbgjojnjbplblaaGreatDoorCmp
import Derived.Deep.RegionHeld3
namespace Go.Proofs.YtbgjojnjbplblaaGreatDoor
open Go.RowKit

def ordE (a b : DEdge) : Int := if a.frm ≠ b.frm then cmpI a.frm b.frm else if a.to_ ≠ b.to_ then cmpI a.to_ b.to_ else cmpB a.label b.label
theorem ordE_or (a b : DEdge) : orL [cmpI a.frm b.frm, cmpI a.to_ b.to_, cmpB a.label b.label] = ordE a b := by
  unfold ordE
  by_cases h1 : a.frm = b.frm
  · rw [if_neg (by simpa using h1), h1, orL, if_pos (cmpI_self _)]
    by_cases h2 : a.to_ = b.to_
    · rw [if_neg (by simpa using h2), h2, orL, if_pos (cmpI_self _), orL]
      split
      · rename_i h; rw [h]; rfl
      · rfl
    · rw [if_pos h2, orL, if_neg (cmpI_ne h2)]
  · rw [if_pos h1, orL, if_neg (cmpI_ne h1)]
def fitE (n : Int) (e : DEdge) : Bool := decide (0 ≤ e.frm) && decide (e.frm < e.to_) && decide (e.to_ < n) && inB e.cost 0 1000000
def ordAtE (x : List DEdge) (k : Nat) (e : DEdge) : Bool := match k, x[k-1]? with
  | 0, _ => true
  | _, none => true
  | _, some p => decide (ordE p e < 0)
def edOk (n : Int) (x : List DEdge) (k : Nat) (e : DEdge) : Bool := fitE n e && isLabelB e.label && ordAtE x k e
def validEd (n : Int) (x : List DEdge) : Bool := (List.range x.length).all (fun k => match x[k]? with | some e => edOk n x k e | none => true)
def validLt (x : XLattice) : Bool := inB x.1 1 20 && decide (x.2.length ≤ 200) && validEd x.1 x.2
theorem validEd_at {n : Int} {x : List DEdge} {k : Nat} {e : DEdge} (h : x[k]? = some e) (hb : edOk n x k e = false) : validEd n x = false :=
  List.all_eq_false.2 ⟨k, by simp; exact (List.getElem?_eq_some_iff.1 h).1, by rw [h]; simp [hb]⟩
theorem validEd_all {n : Int} {x : List DEdge} (h : ∀ k e, k < x.length → x[k]? = some e → edOk n x k e = true) : validEd n x = true := by
  rw [validEd, List.all_eq_true]
  intro k hk
  have hk : k < x.length := by simpa using hk
  cases hx : x[k]? with
  | none => rfl
  | some e => exact h k e hk hx
theorem validEd_mem {n : Int} {x : List DEdge} (h : validEd n x = true) {k : Nat} {e : DEdge} (he : x[k]? = some e) : edOk n x k e = true := by
  cases hb : edOk n x k e with
  | true => rfl
  | false => rw [validEd_at he hb] at h; cases h
theorem goodLabel {x : XLattice} (g : goodLattice x) {k : Nat} {e : DEdge} (h : x.2[k]? = some e) : e.label.size ≤ 9223372036854775807 := (g e (List.mem_of_getElem? h)).2.2.1
theorem fitE_false {n : Int} {e : DEdge} (h : ¬ (0 ≤ e.frm ∧ e.frm < e.to_ ∧ e.to_ < n)) : fitE n e = false := by
  unfold fitE
  cases h0 : inB e.cost 0 1000000 <;> simp
  omega
theorem fitE_true {n : Int} {e : DEdge} (h1 : 0 ≤ e.frm) (h2 : e.frm < e.to_) (h3 : e.to_ < n) : fitE n e = inB e.cost 0 1000000 := by simp [fitE, h1, h2, h3]

set_option maxHeartbeats 400000 in
theorem l15Sign_any (a b : Int) (w : World) : Calls Tryz.prog 83 #[.int .i64 a, .int .i64 b] w fun e w' => e = .returned (.int .i64 (cmpI a b)) ∧ w = w' := by
  by_cases h1 : a < b <;> by_cases h2 : b < a
  all_goals
    go_enter Tryz.func83, Tryz.ntmps83
    go_wp2
    go_ret
    exact ⟨ret_i (by unfold cmpI; split <;> (try split) <;> omega), rfl⟩
set_option maxHeartbeats 1000000 in
theorem l15Order_any (p o q r : Nat) (a b : DEdge) (w : World) (c0 : w.cell? ⟨p, o, none⟩ = some (.int .i64 a.frm)) (c1 : w.cell? ⟨p, o + 1, none⟩ = some (.int .i64 a.to_)) (c2 : w.cell? ⟨p, o + 2, none⟩ = some (.string a.label))
    (d0 : w.cell? ⟨q, r, none⟩ = some (.int .i64 b.frm)) (d1 : w.cell? ⟨q, r + 1, none⟩ = some (.int .i64 b.to_)) (d2 : w.cell? ⟨q, r + 2, none⟩ = some (.string b.label)) :
    Calls Tryz.prog 64 #[.pointer (some ⟨p, o, none⟩), .pointer (some ⟨q, r, none⟩)] w (Ret (.int .i64 (ordE a b)) w) := by
  have hb : Below w.heap.size w w := Below.refl _ _
  by_cases h1 : a.frm = b.frm
  case neg =>
    have e1 : (a.frm != b.frm) = true := by rw [bne_iff_ne]; exact h1
    have HO : Hid (ordE a b = cmpI a.frm b.frm) := by show ordE a b = _; rw [ordE, if_pos h1]
    clear h1
    go_enter Tryz.func64, Tryz.ntmps64
    go_wp2
    have x_c0 := ext_cell c0
    have x_c1 := ext_cell c1
    have x_c2 := ext_cell c2
    have x_d0 := ext_cell d0
    have x_d1 := ext_cell d1
    have x_d2 := ext_cell d2
    refine wp_region_ext (by kernel_rfl) (by kernel_rfl) ?_
    repeat (go_big_quiet_step (fail))
    refine wpQuiet_nil ?_
    intro _ hw'
    obtain ⟨n1, hw''⟩ := hw'
    subst hw''
    replace c0 := x_c0 n1
    replace c1 := x_c1 n1
    replace c2 := x_c2 n1
    replace d0 := x_d0 n1
    replace d1 := x_d1 n1
    replace d2 := x_d2 n1
    clear x_c0 x_c1 x_c2 x_d0 x_d1 x_d2
    replace hb := hb.trans ((ext_below _ n1).mono hb.size)
    go_wp2
    have x_c0 := ext_cell c0
    have x_c1 := ext_cell c1
    have x_c2 := ext_cell c2
    have x_d0 := ext_cell d0
    have x_d1 := ext_cell d1
    have x_d2 := ext_cell d2
    refine wp_region_ext (by kernel_rfl) (by kernel_rfl) ?_
    repeat (go_big_quiet_step ((go_at_call 83; exact same_ext (l15Sign_any _ _ _))))
    refine wpQuiet_nil ?_
    intro _ hw'
    obtain ⟨n2, hw''⟩ := hw'
    subst hw''
    replace c0 := x_c0 n2
    replace c1 := x_c1 n2
    replace c2 := x_c2 n2
    replace d0 := x_d0 n2
    replace d1 := x_d1 n2
    replace d2 := x_d2 n2
    clear x_c0 x_c1 x_c2 x_d0 x_d1 x_d2
    replace hb := hb.trans ((ext_below _ n2).mono hb.size)
    go_wp2
    go_ret
    exact ret_int HO.out.symm hb
  have e1 : (a.frm != b.frm) = false := by rw [bne_eq_false_iff_eq]; exact h1
  by_cases h2 : a.to_ = b.to_
  case neg =>
    have e2 : (a.to_ != b.to_) = true := by rw [bne_iff_ne]; exact h2
    have HO : Hid (ordE a b = cmpI a.to_ b.to_) := by show ordE a b = _; rw [ordE, if_neg (by simpa using h1), if_pos h2]
    clear h1 h2
    go_enter Tryz.func64, Tryz.ntmps64
    go_wp2
    have x_c0 := ext_cell c0
    have x_c1 := ext_cell c1
    have x_c2 := ext_cell c2
    have x_d0 := ext_cell d0
    have x_d1 := ext_cell d1
    have x_d2 := ext_cell d2
    refine wp_region_ext (by kernel_rfl) (by kernel_rfl) ?_
    repeat (go_big_quiet_step (fail))
    refine wpQuiet_nil ?_
    intro _ hw'
    obtain ⟨n1, hw''⟩ := hw'
    subst hw''
    replace c0 := x_c0 n1
    replace c1 := x_c1 n1
    replace c2 := x_c2 n1
    replace d0 := x_d0 n1
    replace d1 := x_d1 n1
    replace d2 := x_d2 n1
    clear x_c0 x_c1 x_c2 x_d0 x_d1 x_d2
    replace hb := hb.trans ((ext_below _ n1).mono hb.size)
    go_wp2
    have x_c0 := ext_cell c0
    have x_c1 := ext_cell c1
    have x_c2 := ext_cell c2
    have x_d0 := ext_cell d0
    have x_d1 := ext_cell d1
    have x_d2 := ext_cell d2
    refine wp_region_ext (by kernel_rfl) (by kernel_rfl) ?_
    repeat (go_big_quiet_step (fail))
    refine wpQuiet_nil ?_
    intro _ hw'
    obtain ⟨n2, hw''⟩ := hw'
    subst hw''
    replace c0 := x_c0 n2
    replace c1 := x_c1 n2
    replace c2 := x_c2 n2
    replace d0 := x_d0 n2
    replace d1 := x_d1 n2
    replace d2 := x_d2 n2
    clear x_c0 x_c1 x_c2 x_d0 x_d1 x_d2
    replace hb := hb.trans ((ext_below _ n2).mono hb.size)
    go_wp2
    have x_c0 := ext_cell c0
    have x_c1 := ext_cell c1
    have x_c2 := ext_cell c2
    have x_d0 := ext_cell d0
    have x_d1 := ext_cell d1
    have x_d2 := ext_cell d2
    refine wp_region_ext (by kernel_rfl) (by kernel_rfl) ?_
    repeat (go_big_quiet_step ((go_at_call 83; exact same_ext (l15Sign_any _ _ _))))
    refine wpQuiet_nil ?_
    intro _ hw'
    obtain ⟨n3, hw''⟩ := hw'
    subst hw''
    replace c0 := x_c0 n3
    replace c1 := x_c1 n3
    replace c2 := x_c2 n3
    replace d0 := x_d0 n3
    replace d1 := x_d1 n3
    replace d2 := x_d2 n3
    clear x_c0 x_c1 x_c2 x_d0 x_d1 x_d2
    replace hb := hb.trans ((ext_below _ n3).mono hb.size)
    go_wp2
    go_ret
    exact ret_int HO.out.symm hb
  have e2 : (a.to_ != b.to_) = false := by rw [bne_eq_false_iff_eq]; exact h2
  have HO : Hid (ordE a b = cmpB a.label b.label) := by show ordE a b = _; rw [ordE, if_neg (by simpa using h1), if_neg (by simpa using h2)]
  clear h1 h2
  cases h3 : Op.bytesLess a.label.toList b.label.toList
  · cases h4 : (a.label.toList == b.label.toList)
    all_goals
      go_enter Tryz.func64, Tryz.ntmps64
      go_wp2
      have x_c0 := ext_cell c0
      have x_c1 := ext_cell c1
      have x_c2 := ext_cell c2
      have x_d0 := ext_cell d0
      have x_d1 := ext_cell d1
      have x_d2 := ext_cell d2
      refine wp_region_ext (by kernel_rfl) (by kernel_rfl) ?_
      repeat (go_big_quiet_step (fail))
      refine wpQuiet_nil ?_
      intro _ hw'
      obtain ⟨n1, hw''⟩ := hw'
      subst hw''
      replace c0 := x_c0 n1
      replace c1 := x_c1 n1
      replace c2 := x_c2 n1
      replace d0 := x_d0 n1
      replace d1 := x_d1 n1
      replace d2 := x_d2 n1
      clear x_c0 x_c1 x_c2 x_d0 x_d1 x_d2
      replace hb := hb.trans ((ext_below _ n1).mono hb.size)
      go_wp2
      have x_c0 := ext_cell c0
      have x_c1 := ext_cell c1
      have x_c2 := ext_cell c2
      have x_d0 := ext_cell d0
      have x_d1 := ext_cell d1
      have x_d2 := ext_cell d2
      refine wp_region_ext (by kernel_rfl) (by kernel_rfl) ?_
      repeat (go_big_quiet_step (fail))
      refine wpQuiet_nil ?_
      intro _ hw'
      obtain ⟨n2, hw''⟩ := hw'
      subst hw''
      replace c0 := x_c0 n2
      replace c1 := x_c1 n2
      replace c2 := x_c2 n2
      replace d0 := x_d0 n2
      replace d1 := x_d1 n2
      replace d2 := x_d2 n2
      clear x_c0 x_c1 x_c2 x_d0 x_d1 x_d2
      replace hb := hb.trans ((ext_below _ n2).mono hb.size)
      go_wp2
      have x_c0 := ext_cell c0
      have x_c1 := ext_cell c1
      have x_c2 := ext_cell c2
      have x_d0 := ext_cell d0
      have x_d1 := ext_cell d1
      have x_d2 := ext_cell d2
      refine wp_region_ext (by kernel_rfl) (by kernel_rfl) ?_
      repeat (go_big_quiet_step (fail))
      refine wpQuiet_nil ?_
      intro _ hw'
      obtain ⟨n3, hw''⟩ := hw'
      subst hw''
      replace c0 := x_c0 n3
      replace c1 := x_c1 n3
      replace c2 := x_c2 n3
      replace d0 := x_d0 n3
      replace d1 := x_d1 n3
      replace d2 := x_d2 n3
      clear x_c0 x_c1 x_c2 x_d0 x_d1 x_d2
      replace hb := hb.trans ((ext_below _ n3).mono hb.size)
      go_wp2
      have x_c0 := ext_cell c0
      have x_c1 := ext_cell c1
      have x_c2 := ext_cell c2
      have x_d0 := ext_cell d0
      have x_d1 := ext_cell d1
      have x_d2 := ext_cell d2
      refine wp_region_ext (by kernel_rfl) (by kernel_rfl) ?_
      repeat (go_big_quiet_step (fail))
      refine wpQuiet_nil ?_
      intro _ hw'
      obtain ⟨n4, hw''⟩ := hw'
      subst hw''
      replace c0 := x_c0 n4
      replace c1 := x_c1 n4
      replace c2 := x_c2 n4
      replace d0 := x_d0 n4
      replace d1 := x_d1 n4
      replace d2 := x_d2 n4
      clear x_c0 x_c1 x_c2 x_d0 x_d1 x_d2
      replace hb := hb.trans ((ext_below _ n4).mono hb.size)
      go_wp2
      go_ret
      exact ret_int (by rw [HO.out]; simp [cmpB, ltB, eqS, h3, h4]) hb
  · go_enter Tryz.func64, Tryz.ntmps64
    go_wp2
    have x_c0 := ext_cell c0
    have x_c1 := ext_cell c1
    have x_c2 := ext_cell c2
    have x_d0 := ext_cell d0
    have x_d1 := ext_cell d1
    have x_d2 := ext_cell d2
    refine wp_region_ext (by kernel_rfl) (by kernel_rfl) ?_
    repeat (go_big_quiet_step (fail))
    refine wpQuiet_nil ?_
    intro _ hw'
    obtain ⟨n1, hw''⟩ := hw'
    subst hw''
    replace c0 := x_c0 n1
    replace c1 := x_c1 n1
    replace c2 := x_c2 n1
    replace d0 := x_d0 n1
    replace d1 := x_d1 n1
    replace d2 := x_d2 n1
    clear x_c0 x_c1 x_c2 x_d0 x_d1 x_d2
    replace hb := hb.trans ((ext_below _ n1).mono hb.size)
    go_wp2
    have x_c0 := ext_cell c0
    have x_c1 := ext_cell c1
    have x_c2 := ext_cell c2
    have x_d0 := ext_cell d0
    have x_d1 := ext_cell d1
    have x_d2 := ext_cell d2
    refine wp_region_ext (by kernel_rfl) (by kernel_rfl) ?_
    repeat (go_big_quiet_step (fail))
    refine wpQuiet_nil ?_
    intro _ hw'
    obtain ⟨n2, hw''⟩ := hw'
    subst hw''
    replace c0 := x_c0 n2
    replace c1 := x_c1 n2
    replace c2 := x_c2 n2
    replace d0 := x_d0 n2
    replace d1 := x_d1 n2
    replace d2 := x_d2 n2
    clear x_c0 x_c1 x_c2 x_d0 x_d1 x_d2
    replace hb := hb.trans ((ext_below _ n2).mono hb.size)
    go_wp2
    have x_c0 := ext_cell c0
    have x_c1 := ext_cell c1
    have x_c2 := ext_cell c2
    have x_d0 := ext_cell d0
    have x_d1 := ext_cell d1
    have x_d2 := ext_cell d2
    refine wp_region_ext (by kernel_rfl) (by kernel_rfl) ?_
    repeat (go_big_quiet_step (fail))
    refine wpQuiet_nil ?_
    intro _ hw'
    obtain ⟨n3, hw''⟩ := hw'
    subst hw''
    replace c0 := x_c0 n3
    replace c1 := x_c1 n3
    replace c2 := x_c2 n3
    replace d0 := x_d0 n3
    replace d1 := x_d1 n3
    replace d2 := x_d2 n3
    clear x_c0 x_c1 x_c2 x_d0 x_d1 x_d2
    replace hb := hb.trans ((ext_below _ n3).mono hb.size)
    go_wp2
    go_ret
    exact ret_int (by rw [HO.out]; simp [cmpB, ltB, h3]) hb
set_option maxHeartbeats 1000000 in
theorem l15Ends_any (p q r : Nat) (n : Int) (e : DEdge) (w : World) (m0 : w.cell? ⟨p, 0, none⟩ = some (.int .i64 n)) (n1 : 1 ≤ n) (n2 : n ≤ 20)
    (d0 : w.cell? ⟨q, r, none⟩ = some (.int .i64 e.frm)) (d1 : w.cell? ⟨q, r + 1, none⟩ = some (.int .i64 e.to_)) (d3 : w.cell? ⟨q, r + 3, none⟩ = some (.int .i64 e.cost)) :
    Calls Tryz.prog 62 #[.pointer (some ⟨p, 0, none⟩), .pointer (some ⟨q, r, none⟩)] w (Ret (.bool (fitE n e)) w) := by
  have hb : Below w.heap.size w w := Below.refl _ _
  by_cases h1 : 0 ≤ e.frm
  case neg =>
    have HF := hid (fitE_false (n := n) (e := e) (by omega))
    have g1 : decide (0 ≤ e.frm) = false := by simpa using h1
    clear h1
    go_enter Tryz.func62, Tryz.ntmps62
    go_wp2
    have x_m0 := ext_cell m0
    have x_d0 := ext_cell d0
    have x_d1 := ext_cell d1
    have x_d3 := ext_cell d3
    refine wp_region_ext (by kernel_rfl) (by kernel_rfl) ?_
    repeat (go_big_quiet_step (fail))
    refine wpQuiet_nil ?_
    intro _ hw'
    obtain ⟨nq, hw''⟩ := hw'
    subst hw''
    replace m0 := x_m0 nq
    replace d0 := x_d0 nq
    replace d1 := x_d1 nq
    replace d3 := x_d3 nq
    clear x_m0 x_d0 x_d1 x_d3
    replace hb := hb.trans ((ext_below _ nq).mono hb.size)
    go_wp2
    go_ret
    exact ret_bool HF.out.symm hb
  have g1 : decide (0 ≤ e.frm) = true := by simpa using h1
  by_cases h2 : e.frm < e.to_
  case neg =>
    have HF := hid (fitE_false (n := n) (e := e) (by omega))
    have g2 : decide (e.frm < e.to_) = false := by simpa using h2
    clear h2
    go_enter Tryz.func62, Tryz.ntmps62
    go_wp2
    have x_m0 := ext_cell m0
    have x_d0 := ext_cell d0
    have x_d1 := ext_cell d1
    have x_d3 := ext_cell d3
    refine wp_region_ext (by kernel_rfl) (by kernel_rfl) ?_
    repeat (go_big_quiet_step (fail))
    refine wpQuiet_nil ?_
    intro _ hw'
    obtain ⟨nq, hw''⟩ := hw'
    subst hw''
    replace m0 := x_m0 nq
    replace d0 := x_d0 nq
    replace d1 := x_d1 nq
    replace d3 := x_d3 nq
    clear x_m0 x_d0 x_d1 x_d3
    replace hb := hb.trans ((ext_below _ nq).mono hb.size)
    go_wp2
    go_ret
    exact ret_bool HF.out.symm hb
  have g2 : decide (e.frm < e.to_) = true := by simpa using h2
  by_cases h3 : e.to_ < n
  case neg =>
    have HF := hid (fitE_false (n := n) (e := e) (by omega))
    have g3 : decide (e.to_ ≤ n - 1) = false := by simp; omega
    clear h3
    go_enter Tryz.func62, Tryz.ntmps62
    go_wp2
    have x_m0 := ext_cell m0
    have x_d0 := ext_cell d0
    have x_d1 := ext_cell d1
    have x_d3 := ext_cell d3
    refine wp_region_ext (by kernel_rfl) (by kernel_rfl) ?_
    repeat (go_big_quiet_step (fail))
    refine wpQuiet_nil ?_
    intro _ hw'
    obtain ⟨nq, hw''⟩ := hw'
    subst hw''
    replace m0 := x_m0 nq
    replace d0 := x_d0 nq
    replace d1 := x_d1 nq
    replace d3 := x_d3 nq
    clear x_m0 x_d0 x_d1 x_d3
    replace hb := hb.trans ((ext_below _ nq).mono hb.size)
    go_wp2
    go_ret
    exact ret_bool HF.out.symm hb
  have HF := hid (fitE_true h1 h2 h3)
  have g3 : decide (e.to_ ≤ n - 1) = true := by simp; omega
  go_enter Tryz.func62, Tryz.ntmps62
  go_wp2
  have x_m0 := ext_cell m0
  have x_d0 := ext_cell d0
  have x_d1 := ext_cell d1
  have x_d3 := ext_cell d3
  refine wp_region_ext (by kernel_rfl) (by kernel_rfl) ?_
  repeat (go_big_quiet_step ((go_at_call 54; exact same_ext (l00In_any _ _ _ _))))
  refine wpQuiet_nil ?_
  intro _ hw'
  obtain ⟨nq, hw''⟩ := hw'
  subst hw''
  replace m0 := x_m0 nq
  replace d0 := x_d0 nq
  replace d1 := x_d1 nq
  replace d3 := x_d3 nq
  clear x_m0 x_d0 x_d1 x_d3
  replace hb := hb.trans ((ext_below _ nq).mono hb.size)
  go_wp2
  go_ret
  exact ret_bool HF.out.symm hb
set_option maxHeartbeats 2000000 in
theorem compareEdges_any (a b : DEdge) (w : World) :
    Calls Tryz.prog 45 #[.agg #[.int .i64 a.frm, .int .i64 a.to_, .string a.label, .int .i64 a.cost], .agg #[.int .i64 b.frm, .int .i64 b.to_, .string b.label, .int .i64 b.cost]] w (Ret (.int .i64 (ordE a b)) w) := by
  rw [← ordE_or]
  go_enter Tryz.func45, Tryz.ntmps45
  go_wp2
  obtain ⟨w1, hw1⟩ : ∃ w1, w1 = ((w.alloc (.cells #[.int .i64 a.frm, .int .i64 a.to_, .string a.label, .int .i64 a.cost] 46)).alloc (.cells #[.int .i64 b.frm, .int .i64 b.to_, .string b.label, .int .i64 b.cost] 46)) := ⟨_, rfl⟩
  have hb1 : Below w.heap.size w w1 := by rw [hw1]; exact (below_alloc _ _).trans ((below_alloc _ _).mono (by simp))
  have c0 : w1.cell? ⟨w.heap.size, 0, none⟩ = some (.int .i64 a.frm) := by rw [hw1]; simp
  have c1 : w1.cell? ⟨w.heap.size, 1, none⟩ = some (.int .i64 a.to_) := by rw [hw1]; simp
  have c2 : w1.cell? ⟨w.heap.size, 2, none⟩ = some (.string a.label) := by rw [hw1]; simp
  have d0 : w1.cell? ⟨w.heap.size + 1, 0, none⟩ = some (.int .i64 b.frm) := by rw [hw1]; simp
  have d1 : w1.cell? ⟨w.heap.size + 1, 1, none⟩ = some (.int .i64 b.to_) := by rw [hw1]; simp
  have d2 : w1.cell? ⟨w.heap.size + 1, 2, none⟩ = some (.string b.label) := by rw [hw1]; simp
  rw [← hw1]
  clear hw1
  generalize w.heap.size = n0 at c0 c1 c2 d0 d1 d2 ⊢
  go_region_held3 (fun w' => w'.cell? ⟨n0, 0, none⟩ = some (.int .i64 a.frm) ∧ w'.cell? ⟨n0, 1, none⟩ = some (.int .i64 a.to_) ∧ w'.cell? ⟨n0, 2, none⟩ = some (.string a.label) ∧ w'.cell? ⟨n0 + 1, 0, none⟩ = some (.int .i64 b.frm) ∧ w'.cell? ⟨n0 + 1, 1, none⟩ = some (.int .i64 b.to_) ∧ w'.cell? ⟨n0 + 1, 2, none⟩ = some (.string b.label)) (go_keep)
    (first | (go_at_call 76; refine (cmpInt_any _ _ _).mono ?_; rintro e w' ⟨rfl, rfl⟩) | (go_at_call 77; refine (cmpStr_any _ _ _).mono ?_; rintro e w' ⟨rfl, rfl⟩) | (go_at_call 75; refine (cmpOr_any _ [cmpI a.frm b.frm, cmpI a.to_ b.to_, cmpB a.label b.label] _ (Arr.drew (arr_new _ _ rfl rfl (maxLen_ge (Nat.le_of_ble_eq_true rfl))))).mono ?_; rintro e w' ⟨rfl, rfl⟩))
  go_wp2
  go_ret
  exact ret_int rfl (hb1.alloc hb1.size _).drew
set_option maxHeartbeats 1000000 in
theorem fitsNodes_any (n : Int) (u : Value) (e : DEdge) (w : World) :
    Calls Tryz.prog 43 #[.agg #[.int .i64 n, u], .agg #[.int .i64 e.frm, .int .i64 e.to_, .string e.label, .int .i64 e.cost]] w (Ret (.bool (fitE n e)) w) := by
  have hb0 : Below w.heap.size w ((w.alloc (.cells #[.int .i64 n, u] 24)).alloc (.cells #[.int .i64 e.frm, .int .i64 e.to_, .string e.label, .int .i64 e.cost] 46)) := (below_alloc _ _).trans ((below_alloc _ _).mono (by simp))
  by_cases h1 : 0 ≤ e.frm
  case neg =>
    have HF := hid (fitE_false (n := n) (e := e) (by omega))
    have g1 : decide (0 ≤ e.frm) = false := by simpa using h1
    clear h1
    go_enter Tryz.func43, Tryz.ntmps43
    go_wp2
    go_ret
    exact ret_bool HF.out.symm hb0
  have g1 : decide (0 ≤ e.frm) = true := by simpa using h1
  by_cases h2 : e.frm < e.to_
  case neg =>
    have HF := hid (fitE_false (n := n) (e := e) (by omega))
    have g2 : decide (e.frm < e.to_) = false := by simpa using h2
    clear h2
    go_enter Tryz.func43, Tryz.ntmps43
    go_wp2
    go_ret
    exact ret_bool HF.out.symm hb0
  have g2 : decide (e.frm < e.to_) = true := by simpa using h2
  by_cases h3 : e.to_ < n
  case neg =>
    have HF := hid (fitE_false (n := n) (e := e) (by omega))
    have g3 : decide (e.to_ < n) = false := by simpa using h3
    clear h3
    go_enter Tryz.func43, Tryz.ntmps43
    go_wp2
    go_ret
    exact ret_bool HF.out.symm hb0
  have HF := hid (fitE_true h1 h2 h3)
  have g3 : decide (e.to_ < n) = true := by simpa using h3
  go_enter Tryz.func43, Tryz.ntmps43
  go_wp2_with (go_at_call 72; refine (isCost_any _ _).mono ?_; rintro e w' ⟨rfl, rfl⟩)
  go_ret
  exact ret_bool HF.out.symm hb0
set_option maxHeartbeats 4000000 in
theorem l15Ok_any (p : Nat) (n : Int) (v : Value) (x : List DEdge) (w : World) (m0 : w.cell? ⟨p, 0, none⟩ = some (.int .i64 n)) (hp : w.cell? ⟨p, 1, none⟩ = some v) (h : Arr eEdge w v x) (ok : okLattice (n, x)) (g : goodLattice (n, x)) :
    Calls Tryz.prog 36 #[.pointer (some ⟨p, 0, none⟩)] w (Ret (.bool (validLt (n, x))) w) := by
  obtain ⟨b, off, ao, cap, rfl, hnc, hcm, hao, hc⟩ := h
  unfold maxLen at hcm
  have ok' : x.length ≤ 1048576 := ok
  have HI : ∀ w', Calls Tryz.prog 54 #[.int .i64 n, .int .i64 1, .int .i64 20] w' fun e w'' => e = .returned (.bool (inB n 1 20)) ∧ w' = w'' := fun w' => l00In_any _ _ _ w'
  cases hn : inB n 1 20
  case false =>
    rw [hn] at HI
    have HV := hid (show validLt (n, x) = false by simp [validLt, hn])
    go_enter Tryz.func36, Tryz.ntmps36
    go_wp2_with (go_at_call 54; refine (HI _).mono ?_; rintro e w' ⟨rfl, rfl⟩)
    go_ret
    exact ret_bool HV.out.symm (Below.refl _ _)
  rw [hn] at HI
  have hn' := inB_true.1 hn
  have n1 : 1 ≤ n := hn'.1
  have n2 : n ≤ 20 := hn'.2
  clear hn'
  by_cases hl : x.length ≤ 200
  case neg =>
    have HV := hid (show validLt (n, x) = false by simp [validLt, hn, hl])
    have gl : decide ((200 : Int) < (x.length : Int)) = true := by simp; omega
    clear hn
    go_enter Tryz.func36, Tryz.ntmps36
    go_wp2_with (go_at_call 54; refine (HI _).mono ?_; rintro e w' ⟨rfl, rfl⟩)
    go_ret
    exact ret_bool HV.out.symm (Below.refl _ _)
  have gl : decide ((200 : Int) < (x.length : Int)) = false := by simp; omega
  have HVE : Hid (validLt (n, x) = validEd n x) := by show validLt (n, x) = validEd n x; simp [validLt, hn, hl]
  clear hn
  have hpl := World.block_lt_of_cell? w _ hp
  go_enter Tryz.func36, Tryz.ntmps36
  go_wp2_with (go_at_call 54; refine (HI _).mono ?_; rintro e w' ⟨rfl, rfl⟩)
  clear HI gl
  go_loopw [3] (fun i wr => ∃ k : Nat, k ≤ x.length ∧ i = .int .i64 k ∧ Below w.heap.size w wr ∧ ∀ j e, j < k → x[j]? = some e → edOk n x j e = true) (fun i _ => x.length - (intOf i).toNat)
  case atStart => exact ⟨0, Nat.zero_le _, rfl, Below.refl _ _, fun j e h => by omega⟩
  case round =>
    obtain ⟨k, hk, rfl, hb, hall⟩ := hrel
    have HA := hid hall
    clear hall
    have q1 := (hb.cell (p := ⟨p, 1, none⟩) hpl).trans hp
    have q0 := (hb.cell (p := ⟨p, 0, none⟩) hpl).trans m0
    clear hp m0
    by_cases hlt : k < x.length
    · obtain ⟨hao', hbw⟩ := hao (by omega)
      subst hao'
      obtain ⟨e, he⟩ : ∃ e, x[k]? = some e := ⟨_, List.getElem?_eq_getElem hlt⟩
      obtain ⟨c0, c1, c2, c3⟩ := eEdge_cells (hc.below hb hbw) he
      have hws := goodLabel g he
      have hli : (k : Int) < (x.length : Int) := by omega
      have HE := hid he
      clear he hao
      cases hf : fitE n e
      · have HF : ∀ w' p q r, w'.cell? ⟨p, 0, none⟩ = some (.int .i64 n) → w'.cell? ⟨q, r, none⟩ = some (.int .i64 e.frm) → w'.cell? ⟨q, r + 1, none⟩ = some (.int .i64 e.to_) → w'.cell? ⟨q, r + 3, none⟩ = some (.int .i64 e.cost) → Calls Tryz.prog 62 #[.pointer (some ⟨p, 0, none⟩), .pointer (some ⟨q, r, none⟩)] w' (Ret (.bool false) w') := fun w' p q r a1 a2 a3 a4 => hf ▸ l15Ends_any p q r n e w' a1 n1 n2 a2 a3 a4
        go_wp2
        have x_q0 := ext_cell q0
        have x_q1 := ext_cell q1
        have x_c0 := ext_cell c0
        have x_c1 := ext_cell c1
        have x_c2 := ext_cell c2
        have x_c3 := ext_cell c3
        refine wp_region_ext (by kernel_rfl) (by kernel_rfl) ?_
        repeat (go_big_quiet_step ((go_at_call 62; exact ret_ext (HF _ _ _ _ (x_q0 _) (x_c0 _) (x_c1 _) (x_c3 _)))))
        refine wpQuiet_nil ?_
        intro _ hw'
        obtain ⟨nq, hw''⟩ := hw'
        subst hw''
        replace q0 := x_q0 nq
        replace q1 := x_q1 nq
        replace c0 := x_c0 nq
        replace c1 := x_c1 nq
        replace c2 := x_c2 nq
        replace c3 := x_c3 nq
        clear x_q0 x_q1 x_c0 x_c1 x_c2 x_c3
        replace hb := hb.trans ((ext_below _ nq).mono hb.size)
        go_wp2
        go_ret
        exact ret_bool (by rw [HVE.out]; exact (validEd_at HE.out (by simp [edOk, hf])).symm) hb
      have HF : ∀ w' p q r, w'.cell? ⟨p, 0, none⟩ = some (.int .i64 n) → w'.cell? ⟨q, r, none⟩ = some (.int .i64 e.frm) → w'.cell? ⟨q, r + 1, none⟩ = some (.int .i64 e.to_) → w'.cell? ⟨q, r + 3, none⟩ = some (.int .i64 e.cost) → Calls Tryz.prog 62 #[.pointer (some ⟨p, 0, none⟩), .pointer (some ⟨q, r, none⟩)] w' (Ret (.bool true) w') := fun w' p q r a1 a2 a3 a4 => hf ▸ l15Ends_any p q r n e w' a1 n1 n2 a2 a3 a4
      cases hw : isLabelB e.label
      · have HW := specLabel_is hws hw
        go_wp2
        have x_q0 := ext_cell q0
        have x_q1 := ext_cell q1
        have x_c0 := ext_cell c0
        have x_c1 := ext_cell c1
        have x_c2 := ext_cell c2
        have x_c3 := ext_cell c3
        refine wp_region_ext (by kernel_rfl) (by kernel_rfl) ?_
        repeat (go_big_quiet_step ((first | (go_at_call 62; exact ret_ext (HF _ _ _ _ (x_q0 _) (x_c0 _) (x_c1 _) (x_c3 _))) | (go_at_call 63; exact same_ext (HW _)))))
        refine wpQuiet_nil ?_
        intro _ hw'
        obtain ⟨nq, hw''⟩ := hw'
        subst hw''
        replace q0 := x_q0 nq
        replace q1 := x_q1 nq
        replace c0 := x_c0 nq
        replace c1 := x_c1 nq
        replace c2 := x_c2 nq
        replace c3 := x_c3 nq
        clear x_q0 x_q1 x_c0 x_c1 x_c2 x_c3
        replace hb := hb.trans ((ext_below _ nq).mono hb.size)
        go_wp2
        go_ret
        exact ret_bool (by rw [HVE.out]; exact (validEd_at HE.out (by simp [edOk, hw])).symm) hb
      have HW := specLabel_is hws hw
      by_cases hk0 : 0 < k
      · have hki : (0 : Int) < (k : Int) := by omega
        have hk1 : (0 : Int) ≤ (k : Int) - 1 := by omega
        have hk2 : (k : Int) - 1 < (x.length : Int) := by omega
        obtain ⟨pe, hpe⟩ : ∃ pe, x[k - 1]? = some pe := ⟨_, List.getElem?_eq_getElem (by omega)⟩
        obtain ⟨d0, d1, d2, d3⟩ := eEdge_cells (hc.below hb hbw) hpe
        have e1 : ((k : Int) - 1).toNat = k - 1 := by omega
        have HP := hid hpe
        clear hpe
        have HO : ∀ w' p o q r, w'.cell? ⟨p, o, none⟩ = some (.int .i64 pe.frm) → w'.cell? ⟨p, o + 1, none⟩ = some (.int .i64 pe.to_) → w'.cell? ⟨p, o + 2, none⟩ = some (.string pe.label) → w'.cell? ⟨q, r, none⟩ = some (.int .i64 e.frm) → w'.cell? ⟨q, r + 1, none⟩ = some (.int .i64 e.to_) → w'.cell? ⟨q, r + 2, none⟩ = some (.string e.label) → Calls Tryz.prog 64 #[.pointer (some ⟨p, o, none⟩), .pointer (some ⟨q, r, none⟩)] w' (Ret (.int .i64 (ordE pe e)) w') := fun w' p o q r a1 a2 a3 a4 a5 a6 => l15Order_any p o q r pe e w' a1 a2 a3 a4 a5 a6
        by_cases ho : ordE pe e < 0
        · have go1 : decide (0 ≤ ordE pe e) = false := by simp; omega
          go_wp2
          have x_q0 := ext_cell q0
          have x_q1 := ext_cell q1
          have x_c0 := ext_cell c0
          have x_c1 := ext_cell c1
          have x_c2 := ext_cell c2
          have x_c3 := ext_cell c3
          have x_d0 := ext_cell d0
          have x_d1 := ext_cell d1
          have x_d2 := ext_cell d2
          refine wp_region_ext (by kernel_rfl) (by kernel_rfl) ?_
          repeat (go_big_quiet_step ((first | (go_at_call 62; exact ret_ext (HF _ _ _ _ (x_q0 _) (x_c0 _) (x_c1 _) (x_c3 _))) | (go_at_call 63; exact same_ext (HW _)) | (go_at_call 64; exact ret_ext (HO _ _ _ _ _ (x_d0 _) (x_d1 _) (x_d2 _) (x_c0 _) (x_c1 _) (x_c2 _))))))
          refine wpQuiet_nil ?_
          intro _ hw'
          obtain ⟨nq, hw''⟩ := hw'
          subst hw''
          replace q0 := x_q0 nq
          replace q1 := x_q1 nq
          replace c0 := x_c0 nq
          replace c1 := x_c1 nq
          replace c2 := x_c2 nq
          replace c3 := x_c3 nq
          replace d0 := x_d0 nq
          replace d1 := x_d1 nq
          replace d2 := x_d2 nq
          clear x_q0 x_q1 x_c0 x_c1 x_c2 x_c3 x_d0 x_d1 x_d2
          replace hb := hb.trans ((ext_below _ nq).mono hb.size)
          go_wp2
          go_roundw
          case rel =>
            refine ⟨k + 1, by omega, by go_num, hb, fun j e' hj he' => ?_⟩
            by_cases ej : j = k
            · subst ej
              rw [HE.out] at he'; obtain rfl := Option.some.inj he'
              obtain ⟨k', rfl⟩ : ∃ k', j = k' + 1 := ⟨j - 1, by omega⟩
              have hp := HP.out
              simp at hp
              simp [edOk, hw, hf, ordAtE, hp, ho]
            · exact HA.out j e' (by omega) he'
          case measure => simp [intOf]; omega
        · have go1 : decide (0 ≤ ordE pe e) = true := by simp; omega
          go_wp2
          have x_q0 := ext_cell q0
          have x_q1 := ext_cell q1
          have x_c0 := ext_cell c0
          have x_c1 := ext_cell c1
          have x_c2 := ext_cell c2
          have x_c3 := ext_cell c3
          have x_d0 := ext_cell d0
          have x_d1 := ext_cell d1
          have x_d2 := ext_cell d2
          refine wp_region_ext (by kernel_rfl) (by kernel_rfl) ?_
          repeat (go_big_quiet_step ((first | (go_at_call 62; exact ret_ext (HF _ _ _ _ (x_q0 _) (x_c0 _) (x_c1 _) (x_c3 _))) | (go_at_call 63; exact same_ext (HW _)) | (go_at_call 64; exact ret_ext (HO _ _ _ _ _ (x_d0 _) (x_d1 _) (x_d2 _) (x_c0 _) (x_c1 _) (x_c2 _))))))
          refine wpQuiet_nil ?_
          intro _ hw'
          obtain ⟨nq, hw''⟩ := hw'
          subst hw''
          replace q0 := x_q0 nq
          replace q1 := x_q1 nq
          replace c0 := x_c0 nq
          replace c1 := x_c1 nq
          replace c2 := x_c2 nq
          replace c3 := x_c3 nq
          replace d0 := x_d0 nq
          replace d1 := x_d1 nq
          replace d2 := x_d2 nq
          clear x_q0 x_q1 x_c0 x_c1 x_c2 x_c3 x_d0 x_d1 x_d2
          replace hb := hb.trans ((ext_below _ nq).mono hb.size)
          go_wp2
          go_ret
          refine ret_bool ?_ hb
          rw [HVE.out]
          refine (validEd_at HE.out ?_).symm
          obtain ⟨k', rfl⟩ : ∃ k', k = k' + 1 := ⟨k - 1, by omega⟩
          have hp := HP.out
          simp at hp
          simp [edOk, hw, hf, ordAtE, hp]
          omega
      · have hki : (k : Int) ≤ 0 := by omega
        go_wp2
        have x_q0 := ext_cell q0
        have x_q1 := ext_cell q1
        have x_c0 := ext_cell c0
        have x_c1 := ext_cell c1
        have x_c2 := ext_cell c2
        have x_c3 := ext_cell c3
        refine wp_region_ext (by kernel_rfl) (by kernel_rfl) ?_
        repeat (go_big_quiet_step ((first | (go_at_call 62; exact ret_ext (HF _ _ _ _ (x_q0 _) (x_c0 _) (x_c1 _) (x_c3 _))) | (go_at_call 63; exact same_ext (HW _)))))
        refine wpQuiet_nil ?_
        intro _ hw'
        obtain ⟨nq, hw''⟩ := hw'
        subst hw''
        replace q0 := x_q0 nq
        replace q1 := x_q1 nq
        replace c0 := x_c0 nq
        replace c1 := x_c1 nq
        replace c2 := x_c2 nq
        replace c3 := x_c3 nq
        clear x_q0 x_q1 x_c0 x_c1 x_c2 x_c3
        replace hb := hb.trans ((ext_below _ nq).mono hb.size)
        go_wp2
        go_roundw
        case rel =>
          refine ⟨k + 1, by omega, by go_num, hb, fun j e' hj he' => ?_⟩
          obtain rfl : k = 0 := by omega
          obtain rfl : j = 0 := by omega
          rw [HE.out] at he'; obtain rfl := Option.some.inj he'
          simp [edOk, hw, hf, ordAtE]
        case measure => simp [intOf]; omega
    · have HV := hid (validEd_all (n := n) (x := x) fun j e hj => HA.out j e (by omega))
      go_wp2
      go_ret
      exact ret_bool (by rw [HVE.out, HV.out]) hb
end Go.Proofs.YtbgjojnjbplblaaGreatDoor
namespace Go.Proofs.YtbgjojnjbplblaaGreatDoor
open Go.RowKit

set_option maxHeartbeats 4000000 in
theorem implValidLattice_any (v : Value) (x : XLattice) (w : World) {lo hi : Nat} (h : rLattice.at_ lo hi w v x) (ok : okLattice x) (g : goodLattice x) : Calls Tryz.prog 20 #[v] w (Ret (.bool (validLt x)) w) := by
  obtain ⟨u, rfl, h⟩ := h
  replace h := ArrIn.arr h
  obtain ⟨n, x⟩ := x
  obtain ⟨b, off, ao, cap, rfl, hnc, hcm, hao, hc⟩ := h
  simp only at hnc hao
  unfold maxLen at hcm
  have ok' : x.length ≤ 1048576 := ok
  go_enter Tryz.func20, Tryz.ntmps20
  go_wp2
  go_loopw [8] (fun i wr => ∃ k : Nat, k ≤ x.length ∧ i = .int .i64 k ∧ Below w.heap.size w wr ∧ wr.cell? ⟨w.heap.size, 0, none⟩ = some (.int .i64 n) ∧ wr.cell? ⟨w.heap.size, 1, none⟩ = some (.slice ao x.length cap) ∧ ∀ j e, j < k → x[j]? = some e → edOk n x j e = true) (fun i _ => x.length - (intOf i).toNat)
  case atStart => exact ⟨0, Nat.zero_le _, rfl, below_alloc _ _, by simp, by simp, fun j e h => by omega⟩
  case round =>
    obtain ⟨k, hk, rfl, hb, q0, q1, hall⟩ := hrel
    have HA := hid hall
    clear hall
    by_cases hlt : k < x.length
    · obtain ⟨hao', hbw⟩ := hao (by omega)
      subst hao'
      obtain ⟨e, he⟩ : ∃ e, x[k]? = some e := ⟨_, List.getElem?_eq_getElem hlt⟩
      obtain ⟨c0, c1, c2, c3⟩ := eEdge_cells (hc.below hb hbw) he
      have hws := goodLabel g he
      have hli : (k : Int) < (x.length : Int) := by omega
      have HE := hid he
      clear he hao
      obtain ⟨w1, hw1⟩ : ∃ w1, w1 = wr.alloc (.cells #[.int .i64 e.frm, .int .i64 e.to_, .string e.label, .int .i64 e.cost] 46) := ⟨_, rfl⟩
      have hb1 : Below w.heap.size w w1 := by rw [hw1]; exact hb.alloc hb.size _
      have hm1 : Below wr.heap.size wr w1 := by rw [hw1]; exact below_alloc _ _
      have p0 : w1.cell? ⟨w.heap.size, 0, none⟩ = some (.int .i64 n) := cell_later hm1 q0
      have p1 : w1.cell? ⟨w.heap.size, 1, none⟩ = some (.slice (some ⟨b, off, none⟩) x.length cap) := cell_later hm1 q1
      have e0 : w1.cell? ⟨wr.heap.size, 0, none⟩ = some (.int .i64 e.frm) := by rw [hw1]; simp
      have e1 : w1.cell? ⟨wr.heap.size, 1, none⟩ = some (.int .i64 e.to_) := by rw [hw1]; simp
      have e2 : w1.cell? ⟨wr.heap.size, 2, none⟩ = some (.string e.label) := by rw [hw1]; simp
      have e3 : w1.cell? ⟨wr.heap.size, 3, none⟩ = some (.int .i64 e.cost) := by rw [hw1]; simp
      cases hf : fitE n e
      · have HF : ∀ w', Calls Tryz.prog 43 #[.agg #[.int .i64 n, .slice (some ⟨b, off, none⟩) x.length cap], .agg #[.int .i64 e.frm, .int .i64 e.to_, .string e.label, .int .i64 e.cost]] w' (Ret (.bool false) w') := fun w' => hf ▸ fitsNodes_any n _ e w'
        go_wp2
        rw [← hw1]
        have x_p0 := ext_cell p0
        have x_p1 := ext_cell p1
        have x_e0 := ext_cell e0
        have x_e1 := ext_cell e1
        have x_e2 := ext_cell e2
        have x_e3 := ext_cell e3
        refine wp_region_ext (by kernel_rfl) (by kernel_rfl) ?_
        repeat (go_big_quiet_step ((go_at_call 43; exact ret_ext (HF _))))
        refine wpQuiet_nil ?_
        intro _ hw'
        obtain ⟨nq, hw''⟩ := hw'
        subst hw''
        replace p0 := x_p0 nq
        replace p1 := x_p1 nq
        replace e0 := x_e0 nq
        replace e1 := x_e1 nq
        replace e2 := x_e2 nq
        replace e3 := x_e3 nq
        clear x_p0 x_p1 x_e0 x_e1 x_e2 x_e3
        replace hb1 := hb1.trans ((ext_below _ nq).mono hb1.size)
        go_wp2
        go_ret
        exact ret_bool (by simp [validLt, validEd_at HE.out (show edOk n x k e = false by simp [edOk, hf])]) hb1
      have HF : ∀ w', Calls Tryz.prog 43 #[.agg #[.int .i64 n, .slice (some ⟨b, off, none⟩) x.length cap], .agg #[.int .i64 e.frm, .int .i64 e.to_, .string e.label, .int .i64 e.cost]] w' (Ret (.bool true) w') := fun w' => hf ▸ fitsNodes_any n _ e w'
      cases hw : isLabelB e.label
      · have HW := implLabel_is hws hw
        go_wp2
        rw [← hw1]
        have x_p0 := ext_cell p0
        have x_p1 := ext_cell p1
        have x_e0 := ext_cell e0
        have x_e1 := ext_cell e1
        have x_e2 := ext_cell e2
        have x_e3 := ext_cell e3
        refine wp_region_ext (by kernel_rfl) (by kernel_rfl) ?_
        repeat (go_big_quiet_step ((first | (go_at_call 43; exact ret_ext (HF _)) | (go_at_call 44; exact same_ext (HW _)))))
        refine wpQuiet_nil ?_
        intro _ hw'
        obtain ⟨nq, hw''⟩ := hw'
        subst hw''
        replace p0 := x_p0 nq
        replace p1 := x_p1 nq
        replace e0 := x_e0 nq
        replace e1 := x_e1 nq
        replace e2 := x_e2 nq
        replace e3 := x_e3 nq
        clear x_p0 x_p1 x_e0 x_e1 x_e2 x_e3
        replace hb1 := hb1.trans ((ext_below _ nq).mono hb1.size)
        go_wp2
        go_ret
        exact ret_bool (by simp [validLt, validEd_at HE.out (show edOk n x k e = false by simp [edOk, hw])]) hb1
      have HW := implLabel_is hws hw
      by_cases hk0 : 0 < k
      · have hki : (0 : Int) < (k : Int) := by omega
        have hk1 : (0 : Int) ≤ (k : Int) - 1 := by omega
        have hk2 : (k : Int) - 1 < (x.length : Int) := by omega
        obtain ⟨pe, hpe⟩ : ∃ pe, x[k - 1]? = some pe := ⟨_, List.getElem?_eq_getElem (by omega)⟩
        obtain ⟨d0, d1, d2, d3⟩ := eEdge_cells (hc.below hb1 hbw) hpe
        have ek : ((k : Int) - 1).toNat = k - 1 := by omega
        have HP := hid hpe
        clear hpe
        have HO := fun w' => compareEdges_any pe e w'
        by_cases ho : ordE pe e < 0
        · have go1 : decide (0 ≤ ordE pe e) = false := by simp; omega
          go_wp2
          rw [← hw1]
          have x_p0 := ext_cell p0
          have x_p1 := ext_cell p1
          have x_e0 := ext_cell e0
          have x_e1 := ext_cell e1
          have x_e2 := ext_cell e2
          have x_e3 := ext_cell e3
          have x_d0 := ext_cell d0
          have x_d1 := ext_cell d1
          have x_d2 := ext_cell d2
          have x_d3 := ext_cell d3
          refine wp_region_ext (by kernel_rfl) (by kernel_rfl) ?_
          repeat (go_big_quiet_step ((first | (go_at_call 43; exact ret_ext (HF _)) | (go_at_call 44; exact same_ext (HW _)) | (go_at_call 45; exact ret_ext (HO _)))))
          refine wpQuiet_nil ?_
          intro _ hw'
          obtain ⟨nq, hw''⟩ := hw'
          subst hw''
          replace p0 := x_p0 nq
          replace p1 := x_p1 nq
          replace e0 := x_e0 nq
          replace e1 := x_e1 nq
          replace e2 := x_e2 nq
          replace e3 := x_e3 nq
          replace d0 := x_d0 nq
          replace d1 := x_d1 nq
          replace d2 := x_d2 nq
          replace d3 := x_d3 nq
          clear x_p0 x_p1 x_e0 x_e1 x_e2 x_e3 x_d0 x_d1 x_d2 x_d3
          replace hb1 := hb1.trans ((ext_below _ nq).mono hb1.size)
          go_wp2
          go_roundw
          case rel =>
            refine ⟨k + 1, by omega, by go_num, hb1, p0, p1, fun j e' hj he' => ?_⟩
            by_cases ej : j = k
            · subst ej
              rw [HE.out] at he'; obtain rfl := Option.some.inj he'
              obtain ⟨k', rfl⟩ : ∃ k', j = k' + 1 := ⟨j - 1, by omega⟩
              have hp := HP.out
              simp at hp
              simp [edOk, hw, hf, ordAtE, hp, ho]
            · exact HA.out j e' (by omega) he'
          case measure => simp [intOf]; omega
        · have go1 : decide (0 ≤ ordE pe e) = true := by simp; omega
          go_wp2
          rw [← hw1]
          have x_p0 := ext_cell p0
          have x_p1 := ext_cell p1
          have x_e0 := ext_cell e0
          have x_e1 := ext_cell e1
          have x_e2 := ext_cell e2
          have x_e3 := ext_cell e3
          have x_d0 := ext_cell d0
          have x_d1 := ext_cell d1
          have x_d2 := ext_cell d2
          have x_d3 := ext_cell d3
          refine wp_region_ext (by kernel_rfl) (by kernel_rfl) ?_
          repeat (go_big_quiet_step ((first | (go_at_call 43; exact ret_ext (HF _)) | (go_at_call 44; exact same_ext (HW _)) | (go_at_call 45; exact ret_ext (HO _)))))
          refine wpQuiet_nil ?_
          intro _ hw'
          obtain ⟨nq, hw''⟩ := hw'
          subst hw''
          replace p0 := x_p0 nq
          replace p1 := x_p1 nq
          replace e0 := x_e0 nq
          replace e1 := x_e1 nq
          replace e2 := x_e2 nq
          replace e3 := x_e3 nq
          replace d0 := x_d0 nq
          replace d1 := x_d1 nq
          replace d2 := x_d2 nq
          replace d3 := x_d3 nq
          clear x_p0 x_p1 x_e0 x_e1 x_e2 x_e3 x_d0 x_d1 x_d2 x_d3
          replace hb1 := hb1.trans ((ext_below _ nq).mono hb1.size)
          go_wp2
          go_ret
          refine ret_bool ?_ hb1
          have hV : validEd n x = false := by
            refine validEd_at HE.out ?_
            obtain ⟨k', rfl⟩ : ∃ k', k = k' + 1 := ⟨k - 1, by omega⟩
            have hp := HP.out
            simp at hp
            simp [edOk, hw, hf, ordAtE, hp]
            omega
          simp [validLt, hV]
      · have hki : (k : Int) ≤ 0 := by omega
        go_wp2
        rw [← hw1]
        have x_p0 := ext_cell p0
        have x_p1 := ext_cell p1
        have x_e0 := ext_cell e0
        have x_e1 := ext_cell e1
        have x_e2 := ext_cell e2
        have x_e3 := ext_cell e3
        refine wp_region_ext (by kernel_rfl) (by kernel_rfl) ?_
        repeat (go_big_quiet_step ((first | (go_at_call 43; exact ret_ext (HF _)) | (go_at_call 44; exact same_ext (HW _)))))
        refine wpQuiet_nil ?_
        intro _ hw'
        obtain ⟨nq, hw''⟩ := hw'
        subst hw''
        replace p0 := x_p0 nq
        replace p1 := x_p1 nq
        replace e0 := x_e0 nq
        replace e1 := x_e1 nq
        replace e2 := x_e2 nq
        replace e3 := x_e3 nq
        clear x_p0 x_p1 x_e0 x_e1 x_e2 x_e3
        replace hb1 := hb1.trans ((ext_below _ nq).mono hb1.size)
        go_wp2
        go_roundw
        case rel =>
          refine ⟨k + 1, by omega, by go_num, hb1, p0, p1, fun j e' hj he' => ?_⟩
          obtain rfl : k = 0 := by omega
          obtain rfl : j = 0 := by omega
          rw [HE.out] at he'; obtain rfl := Option.some.inj he'
          simp [edOk, hw, hf, ordAtE]
        case measure => simp [intOf]; omega
    · have HV := hid (validEd_all (n := n) (x := x) fun j e hj => HA.out j e (by omega))
      have HI : ∀ w', Calls Tryz.prog 46 #[.int .i64 n, .int .i64 1, .int .i64 20] w' fun e w'' => e = .returned (.bool (inB n 1 20)) ∧ w' = w'' := fun w' => within_any _ _ _ w'
      clear hao
      cases hn : inB n 1 20
      all_goals rw [hn] at HI
      · have HN := hid hn
        clear hn
        go_wp2_with (go_at_call 46; refine (HI _).mono ?_; rintro e w' ⟨rfl, rfl⟩)
        go_ret
        exact ret_bool (by simp [validLt, HN.out]) hb
      · have HN := hid hn
        clear hn
        go_wp2_with (go_at_call 46; refine (HI _).mono ?_; rintro e w' ⟨rfl, rfl⟩)
        go_ret
        exact ret_bool (by simp [validLt, HN.out, HV.out]; omega) hb
end Go.Proofs.YtbgjojnjbplblaaGreatDoor
