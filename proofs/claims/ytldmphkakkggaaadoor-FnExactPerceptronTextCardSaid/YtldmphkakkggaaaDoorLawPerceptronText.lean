/- The walk of the law FnExactPerceptronText: for every argument it returns true and leaves what was there. -/
import Derived.Test.YtldmphkakkggaaaDoorReg
import Derived.Test.YtldmphkakkggaaaDoorRep
import Derived.Test.YtldmphkakkggaaaDoorWrPcp
import Derived.Test.YtldmphkakkggaaaDoorPcOpen
import Derived.Test.YtldmphkakkggaaaDoorTxPc
namespace Go.Proofs.YtldmphkakkggaaaDoor
open Go.RowKit

set_option maxHeartbeats 4000000 in
theorem lawPerceptronText (v0 : Value) (x0 : XPerceptron) (w : World) (a0 : rPerceptron.at_ 0 w.heap.size w v0 x0) (g0 : goodPerceptron x0) (htab : TabL w) :
    Calls Tryd.prog 7 #[v0] w (Ret (.bool true) w) := by
  obtain ⟨sa0, sc0, rfl⟩ := shapePerceptron a0
  have hbase : Below w.heap.size w w := Below.refl _ _
  go_enter Tryd.func7, Tryd.ntmps7
  go_wp2_with fail
  refine (szPerceptron_any _ x0 (1048576) _ (rPerceptron.at_alloc a0 _) g0 (by omega) (by omega)).mono ?_
  rintro e w1 ⟨rfl, hb⟩
  have z1 : w.heap.size + 1 ≤ w1.heap.size := by have := hb.size; (try simp at this); omega
  replace a0 := rPerceptron.at_below (rPerceptron.at_alloc a0 _) hb
  have q1 : w1.cell? ⟨w.heap.size, 0, none⟩ = some (.slice sa0.1 x0.1.length sc0.1) := cell_later hb (by simp)
  have q2 : w1.cell? ⟨w.heap.size, 1, none⟩ = some (.slice sa0.2 x0.2.length sc0.2) := cell_later hb (by simp)
  have yq1 := cell_lt q1
  replace hbase := baseB1 hbase hb
  clear hb
  by_cases hszx0 : (1048576 : Int) < (sizePerceptron x0 : Nat)
  · rw [szOf_neg hszx0]
    go_wp2_with fail
    go_ret
    exact ret_bool rfl hbase
  rw [szOf_pos (by omega)]
  have ok_x0 : okPerceptron x0 := okPerceptron_of (by omega)
  go_wp2_with fail
  refine (toPerceptron_any _ x0 _ a0 ok_x0).mono ?_
  rintro e w2 ⟨u1, rfl, o1, hb⟩
  obtain ⟨sb1, sd1, rfl⟩ := shapePerceptron (rPerceptron.own_at o1)
  have z2 : w1.heap.size + 0 ≤ w2.heap.size := by have := hb.size; (try simp at this); omega
  replace a0 := rPerceptron.at_below a0 hb
  replace q1 := cell_later hb q1
  replace q2 := cell_later hb q2
  replace yq1 := cell_lt q1
  replace hbase := baseB0 hbase hb
  clear hb
  go_wp2_with fail
  refine (specPerceptronText_any _ x0 _ (rPerceptron.own_at o1) ok_x0 g0 (htab.below hbase)).mono ?_
  rintro e w3 ⟨rfl, hb⟩
  have z3 : w2.heap.size + 0 ≤ w3.heap.size := by have := hb.size; (try simp at this); omega
  replace a0 := rPerceptron.at_below a0 hb
  replace o1 := rPerceptron.own_below o1 hb
  replace q1 := cell_later hb q1
  replace q2 := cell_later hb q2
  replace yq1 := cell_lt q1
  replace hbase := baseB0 hbase hb
  clear hb
  go_wp2_with fail
  refine (toPerceptron_any _ x0 _ a0 ok_x0).mono ?_
  rintro e w4 ⟨u2, rfl, o2, hb⟩
  obtain ⟨sb2, sd2, rfl⟩ := shapePerceptron (rPerceptron.own_at o2)
  have z4 : w3.heap.size + 0 ≤ w4.heap.size := by have := hb.size; (try simp at this); omega
  replace a0 := rPerceptron.at_below a0 hb
  replace o1 := rPerceptron.own_below o1 hb
  replace q1 := cell_later hb q1
  replace q2 := cell_later hb q2
  replace yq1 := cell_lt q1
  replace hbase := baseB0 hbase hb
  clear hb
  go_wp2_with fail
  refine (implPerceptronText_any _ x0 _ (rPerceptron.own_at (rPerceptron.own_alloc o2 _)) ok_x0 g0 (TabL.alloc (htab.below hbase) _)).mono ?_
  rintro e w5 ⟨rfl, hb⟩
  have z5 : w4.heap.size + 1 ≤ w5.heap.size := by have := hb.size; (try simp at this); omega
  replace a0 := rPerceptron.at_below (rPerceptron.at_alloc a0 _) hb
  replace o1 := rPerceptron.own_below (rPerceptron.own_alloc o1 _) hb
  replace o2 := rPerceptron.own_below (rPerceptron.own_alloc o2 _) hb
  replace q1 := cell_later hb (cell_alloc q1 _)
  replace q2 := cell_later hb (cell_alloc q2 _)
  have q3 : w5.cell? ⟨w4.heap.size, 0, none⟩ = some (.slice sb2.1 x0.1.length sd2.1) := cell_later hb (by simp)
  have q4 : w5.cell? ⟨w4.heap.size, 1, none⟩ = some (.slice sb2.2 x0.2.length sd2.2) := cell_later hb (by simp)
  replace yq1 := cell_lt q1
  have yq3 := cell_lt q3
  replace hbase := baseB1 hbase hb
  clear hb
  go_wp2_with fail
  refine wp_region_rel (fun i v w' => match i with
      | 0 => v = .agg #[.slice sb2.1 x0.1.length sd2.1, .slice sb2.2 x0.2.length sd2.2]
      | 1 => v = .agg #[.slice sa0.1 x0.1.length sc0.1, .slice sa0.2 x0.2.length sc0.2]
      | 2 => rPerceptron.own w5.heap.size w'.heap.size w' v x0
      | 3 => v = .bool true
      | _ => v = .bool false) (by kernel_rfl) (by kernel_rfl) (by kernel_rfl) (by kernel_rfl) ?_ ?_ ?_
  · intro i v w w' h hb
    match i, h with
    | 0, h => exact h
    | 1, h => exact h
    | 2, h => exact rPerceptron.own_now h hb
    | 3, h => exact h
    | (m + 4), h => exact h
  · refine ⟨?_, ?_, ?_, ?_, ?_, trivial⟩
    · intro ρ w' hbw ht hcs hfn hgl hdep
      refine ⟨fun _ => ?_, fun h => by cases h⟩
      have s5 : ρ (.tmp 5) = .pointer (some ⟨w4.heap.size, 0, none⟩) := ht 5 rfl
      have c0 := cell_later hbw q3
      have c1 := cell_later hbw q4
      clear ht hdep
      go_simp
      exact ⟨Below.refl _ _, rfl⟩
    · intro ρ w' hbw ht hcs hfn hgl hdep
      refine ⟨fun _ => ?_, fun h => by cases h⟩
      have s1 : ρ (.tmp 1) = .pointer (some ⟨w.heap.size, 0, none⟩) := ht 1 rfl
      have c0 := cell_later hbw q1
      have c1 := cell_later hbw q2
      clear ht hdep
      go_simp
      exact ⟨Below.refl _ _, rfl⟩
    · intro ρ w' hbw ht hcs hfn hgl hdep
      refine ⟨fun _ => ?_, fun h => by cases h⟩
      have s23 : ρ (.tmp 23) = .agg #[.slice sa0.1 x0.1.length sc0.1, .slice sa0.2 x0.2.length sc0.2] := hdep ⟨1, .data⟩ (by simp) rfl 23 rfl
      clear ht hdep
      go_simp
      exact (toPerceptron_any _ x0 w' (rPerceptron.at_below a0 hbw) ok_x0).mono fun e w'' ⟨u, he, ho, hb⟩ => ⟨_, he, hb, rPerceptron.own_mono ho hbw.size (Nat.le_refl _)⟩
    · intro ρ w' hbw ht hcs hfn hgl hdep
      refine ⟨fun _ => ?_, fun h => by cases h⟩
      have s22 : ρ (.tmp 22) = .agg #[.slice sb2.1 x0.1.length sd2.1, .slice sb2.2 x0.2.length sd2.2] := hdep ⟨0, .data⟩ (by simp) rfl 22 rfl
      have o24 := hdep ⟨2, .data⟩ (by simp) rfl 24 rfl
      clear ht hdep
      go_simp
      exact (eqPerceptron_any _ _ x0 w' (rPerceptron.own_at (rPerceptron.own_below o2 hbw)) (rPerceptron.own_at o24)).mono fun e w'' ⟨he, hb⟩ => ⟨_, he, hb, rfl⟩
    · intro ρ w' hbw ht hcs hfn hgl hdep
      refine ⟨fun _ => ?_, fun h => by cases h⟩
      have s25 : ρ (.tmp 25) = .bool true := hdep ⟨3, .data⟩ (by simp) rfl 25 rfl
      clear ht hdep
      go_simp
      exact ⟨Below.refl _ _, rfl⟩
  · intro x w6 hb hx
    have hx0 : x 0 = .agg #[.slice sb2.1 x0.1.length sd2.1, .slice sb2.2 x0.2.length sd2.2] := hx 0 (by simp)
    have hx1 : x 1 = .agg #[.slice sa0.1 x0.1.length sc0.1, .slice sa0.2 x0.2.length sc0.2] := hx 1 (by simp)
    have hx2 := hx 2 (by simp)
    have hx3 : x 3 = .bool true := hx 3 (by simp)
    have hx4 : x 4 = .bool false := hx 4 (by simp)
    clear hx
    have z6 : w5.heap.size + 0 ≤ w6.heap.size := by have := hb.size; (try simp at this); omega
    replace a0 := rPerceptron.at_below a0 hb
    replace o1 := rPerceptron.own_below o1 hb
    replace o2 := rPerceptron.own_below o2 hb
    replace q1 := cell_later hb q1
    replace q2 := cell_later hb q2
    replace q3 := cell_later hb q3
    replace q4 := cell_later hb q4
    replace yq1 := cell_lt q1
    replace yq3 := cell_lt q3
    replace hbase := baseB0 hbase hb
    clear hb
    simp only [putAll, Act.put, List.setIfInBounds_toArray, List.set_cons_succ, List.set_cons_zero, Nat.zero_add, Nat.reduceAdd, hx0, hx1, hx3, hx4]
    generalize x 2 = k10_2 at *
    clear hx0 hx1 hx3 hx4
    have o3 := hx2
    clear hx2
    obtain ⟨sb3, sd3, hsh3⟩ := shapePerceptron (rPerceptron.own_at o3)
    subst hsh3
    go_wp2_with fail
    go_ret
    exact ret_bool rfl hbase
end Go.Proofs.YtldmphkakkggaaaDoor
