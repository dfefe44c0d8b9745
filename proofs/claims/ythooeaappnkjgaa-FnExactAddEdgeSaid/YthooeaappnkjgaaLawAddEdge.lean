/- The walk of the law FnExactAddEdge: for every argument it returns true and leaves what was there. -/
import Derived.Test.YthooeaappnkjgaaReg
import Derived.Test.YthooeaappnkjgaaRep
import Derived.Test.YthooeaappnkjgaaWrLattice
import Derived.Test.YthooeaappnkjgaaLtAddS
import Derived.Test.YthooeaappnkjgaaLtAddI
namespace Go.Proofs.Ythooeaappnkjgaa
open Go.RowKit

set_option maxHeartbeats 4000000 in
theorem lawAddEdge (v0 : Value) (x0 : XLattice) (x1 : DEdge) (w : World) (a0 : rLattice.at_ 0 w.heap.size w v0 x0) (g0 : goodLattice x0) (g1 : goodEdge x1) :
    Calls Try.prog 3 #[v0, .agg #[.int .i64 x1.frm, .int .i64 x1.to_, .string x1.label, .int .i64 x1.cost]] w (Ret (.bool true) w) := by
  obtain ⟨sa0, sc0, rfl⟩ := shapeLattice a0
  have hbase : Below w.heap.size w w := Below.refl _ _
  go_enter Try.func3, Try.ntmps3
  go_wp2_with fail
  refine (szLattice_any _ x0 (1048576) _ (rLattice.at_alloc (rLattice.at_alloc a0 _) _) g0 (by omega) (by omega)).mono ?_
  rintro e w1 ⟨rfl, hb⟩
  have z1 : w.heap.size + 2 ≤ w1.heap.size := by have := hb.size; (try simp at this); omega
  replace a0 := rLattice.at_below (rLattice.at_alloc (rLattice.at_alloc a0 _) _) hb
  have q1 : w1.cell? ⟨w.heap.size, 0, none⟩ = some (.int .i64 x0.1) := cell_later hb (by simp)
  have q2 : w1.cell? ⟨w.heap.size, 1, none⟩ = some (.slice sa0 x0.2.length sc0) := cell_later hb (by simp)
  have q3 : w1.cell? ⟨w.heap.size + 1, 0, none⟩ = some (.int .i64 x1.frm) := cell_later hb (by simp)
  have q4 : w1.cell? ⟨w.heap.size + 1, 1, none⟩ = some (.int .i64 x1.to_) := cell_later hb (by simp)
  have q5 : w1.cell? ⟨w.heap.size + 1, 2, none⟩ = some (.string x1.label) := cell_later hb (by simp)
  have q6 : w1.cell? ⟨w.heap.size + 1, 3, none⟩ = some (.int .i64 x1.cost) := cell_later hb (by simp)
  have yq1 := cell_lt q1
  have yq3 := cell_lt q3
  replace hbase := baseB2 hbase hb
  clear hb
  by_cases hszx0 : (1048576 : Int) < (sizeLattice x0 : Nat)
  · rw [szOf_neg hszx0]
    go_wp2_with fail
    go_ret
    exact ret_bool rfl hbase
  rw [szOf_pos (by omega)]
  have ok_x0 : okLattice x0 := okLattice_of (by omega)
  go_wp2_with fail
  refine (szEdge_any x1 (1048576 - (sizeLattice x0 : Nat)) _ g1 (by omega) (by omega)).mono ?_
  rintro e w2 ⟨rfl, hb⟩
  have z2 : w1.heap.size + 0 ≤ w2.heap.size := by have := hb.size; (try simp at this); omega
  replace a0 := rLattice.at_below a0 hb
  replace q1 := cell_later hb q1
  replace q2 := cell_later hb q2
  replace q3 := cell_later hb q3
  replace q4 := cell_later hb q4
  replace q5 := cell_later hb q5
  replace q6 := cell_later hb q6
  replace yq1 := cell_lt q1
  replace yq3 := cell_lt q3
  replace hbase := baseB0 hbase hb
  clear hb
  by_cases hszx1 : (1048576 - (sizeLattice x0 : Nat) : Int) < (szEdge x1 : Nat)
  · rw [szOf_neg hszx1]
    go_wp2_with fail
    go_ret
    exact ret_bool rfl hbase
  rw [szOf_pos (by omega)]
  go_wp2_with fail
  refine wp_region_rel2 9 (fun i v w' => match i with
      | 0 => v = .agg #[.int .i64 x0.1, .slice sa0 x0.2.length sc0]
      | 1 => rLattice.own w2.heap.size w'.heap.size w' v x0
      | 2 => v = .agg #[.int .i64 x1.frm, .int .i64 x1.to_, .string x1.label, .int .i64 x1.cost]
      | 3 => v = .agg #[.int .i64 x1.frm, .int .i64 x1.to_, .string x1.label, .int .i64 x1.cost]
      | 4 => ∃ u, v = .tuple #[u, .int .i64 (addC x0 x1)] ∧ rLattice.own w2.heap.size w'.heap.size w' u (addLt x0 x1)
      | 5 => ∃ u, v = .tuple #[u, .int .i64 (addC x0 x1)] ∧ rLattice.own w2.heap.size w'.heap.size w' u (addLt x0 x1)
      | 6 => rLattice.own w2.heap.size w'.heap.size w' v (addLt x0 x1)
      | 7 => v = .int .i64 (addC x0 x1)
      | 8 => ∃ p, v = .pointer (some ⟨p, 0, none⟩) ∧ w2.heap.size ≤ p ∧ w'.heap[p]? = some (.cells #[.int .i64 0, .slice none 0 0] 31 (0, 0))
      | 9 => True
      | _ => v = .int .i64 (addC x0 x1))
    (fun i v w' => match i with
      | 0 => v = .agg #[.int .i64 x0.1, .slice sa0 x0.2.length sc0]
      | 1 => True
      | 2 => v = .agg #[.int .i64 x1.frm, .int .i64 x1.to_, .string x1.label, .int .i64 x1.cost]
      | 3 => v = .agg #[.int .i64 x1.frm, .int .i64 x1.to_, .string x1.label, .int .i64 x1.cost]
      | 4 => ∃ u, v = .tuple #[u, .int .i64 (addC x0 x1)] ∧ True
      | 5 => ∃ u, v = .tuple #[u, .int .i64 (addC x0 x1)] ∧ True
      | 6 => True
      | 7 => v = .int .i64 (addC x0 x1)
      | 8 => ∃ (p : Nat) (sa : Option Addr) (sc : Nat), v = .pointer (some ⟨p, 0, none⟩) ∧ w2.heap.size ≤ p ∧ w'.cell? ⟨p, 0, none⟩ = some (.int .i64 (addLt x0 x1).1) ∧ w'.cell? ⟨p, 1, none⟩ = some (.slice sa (addLt x0 x1).2.length sc) ∧ BoxT w' p 31 ∧ rLattice.own w2.heap.size w'.heap.size w' (.agg #[.int .i64 (addLt x0 x1).1, .slice sa (addLt x0 x1).2.length sc]) (addLt x0 x1)
      | 9 => True
      | _ => v = .int .i64 (addC x0 x1)) (by kernel_rfl) (by kernel_rfl) (by kernel_rfl) (by kernel_rfl) ?_ ?_ ?_ ?_ (by decide) ?_
  · intro i v w w' h hb
    match i, h with
    | 0, h => exact h
    | 1, h => exact rLattice.own_now h hb
    | 2, h => exact h
    | 3, h => exact h
    | 4, ⟨u, hu, ho⟩ => exact ⟨u, hu, rLattice.own_now ho hb⟩
    | 5, ⟨u, hu, ho⟩ => exact ⟨u, hu, rLattice.own_now ho hb⟩
    | 6, h => exact rLattice.own_now h hb
    | 7, h => exact h
    | 8, ⟨p, hp, hl, hc⟩ => exact ⟨p, hp, hl, (hb.block p (Array.getElem?_eq_some_iff.1 hc).1).trans hc⟩
    | 9, h => exact h
    | (m + 10), h => exact h
  · intro i v w w' h hb
    match i, h with
    | 0, h => exact h
    | 1, h => exact h
    | 2, h => exact h
    | 3, h => exact h
    | 4, ⟨u, hu, ho⟩ => exact ⟨u, hu, ho⟩
    | 5, ⟨u, hu, ho⟩ => exact ⟨u, hu, ho⟩
    | 6, h => exact h
    | 7, h => exact h
    | 8, ⟨p, sa, sc, hp, hl, hc0, hc1, hk, ho⟩ => exact ⟨p, sa, sc, hp, hl, cell_later hb hc0, cell_later hb hc1, hk.below hb, rLattice.own_now ho hb⟩
    | 9, h => exact h
    | (m + 10), h => exact h
  · refine ⟨?_, ?_, ?_, ?_, ?_, ?_, ?_, ?_, ?_, ?_, ?_, trivial⟩
    · refine .inr ⟨fun _ => ?_, stage_no (by kernel_rfl)⟩
      intro ρ w' hbw ht hcs hfn hgl hdep
      refine ⟨fun _ => ?_, fun h => by cases h⟩
      have s2 : ρ (.tmp 2) = .pointer (some ⟨w.heap.size, 0, none⟩) := ht 2 rfl
      have c0 := cell_later hbw q1
      have c1 := cell_later hbw q2
      clear ht hdep
      go_simp
      exact ⟨Below.refl _ _, rfl⟩
    · refine .inr ⟨fun _ => ?_, stage_no (by kernel_rfl)⟩
      intro ρ w' hbw ht hcs hfn hgl hdep
      refine ⟨fun _ => ?_, fun h => by cases h⟩
      have s27 : ρ (.tmp 27) = .agg #[.int .i64 x0.1, .slice sa0 x0.2.length sc0] := hdep ⟨0, .data⟩ (by simp) rfl 27 rfl
      clear ht hdep
      go_simp
      exact (toLattice_any _ x0 w' (rLattice.at_below a0 hbw) ok_x0).mono fun e w'' ⟨u, he, ho, hb⟩ => ⟨_, he, hb, rLattice.own_mono ho hbw.size (Nat.le_refl _)⟩
    · refine .inr ⟨fun _ => ?_, stage_no (by kernel_rfl)⟩
      intro ρ w' hbw ht hcs hfn hgl hdep
      refine ⟨fun _ => ?_, fun h => by cases h⟩
      have s3 : ρ (.tmp 3) = .pointer (some ⟨w.heap.size + 1, 0, none⟩) := ht 3 rfl
      have c0 := cell_later hbw q3
      have c1 := cell_later hbw q4
      have c2 := cell_later hbw q5
      have c3 := cell_later hbw q6
      clear ht hdep
      go_simp
      exact ⟨Below.refl _ _, rfl⟩
    · refine .inr ⟨fun _ => ?_, stage_no (by kernel_rfl)⟩
      intro ρ w' hbw ht hcs hfn hgl hdep
      refine ⟨fun _ => ?_, fun h => by cases h⟩
      have s29 : ρ (.tmp 29) = .agg #[.int .i64 x1.frm, .int .i64 x1.to_, .string x1.label, .int .i64 x1.cost] := hdep ⟨2, .data⟩ (by simp) rfl 29 rfl
      clear ht hdep
      go_simp
      exact (toEdge_any x1 w').mono fun e w'' ⟨he, hb⟩ => ⟨_, he, hb, rfl⟩
    · refine .inr ⟨fun _ => ?_, stage_no (by kernel_rfl)⟩
      intro ρ w' hbw ht hcs hfn hgl hdep
      refine ⟨fun _ => ?_, fun h => by cases h⟩
      have o28 := hdep ⟨1, .data⟩ (by simp) rfl 28 rfl
      have s30 : ρ (.tmp 30) = .agg #[.int .i64 x1.frm, .int .i64 x1.to_, .string x1.label, .int .i64 x1.cost] := hdep ⟨3, .data⟩ (by simp) rfl 30 rfl
      clear ht hdep
      go_simp
      exact (specAddEdge_any _ x0 x1 w' (rLattice.own_at o28) ok_x0 g0 g1).mono fun e w'' ⟨u, he, ho, hb⟩ => ⟨_, he, hb, u, rfl, rLattice.own_mono ho hbw.size (Nat.le_refl _)⟩
    · refine .inr ⟨fun _ => ?_, stage_no (by kernel_rfl)⟩
      intro ρ w' hbw ht hcs hfn hgl hdep
      refine ⟨fun _ => ?_, fun h => by cases h⟩
      obtain ⟨u31, s31, o31⟩ := hdep ⟨4, .data⟩ (by simp) rfl 31 rfl
      clear ht hdep
      go_simp
      exact ⟨Below.refl _ _, _, rfl, o31⟩
    · refine .inr ⟨fun _ => ?_, stage_no (by kernel_rfl)⟩
      intro ρ w' hbw ht hcs hfn hgl hdep
      refine ⟨fun _ => ?_, fun h => by cases h⟩
      obtain ⟨u26, s26, o26⟩ := hdep ⟨5, .data⟩ (by simp) rfl 26 rfl
      clear ht hdep
      go_simp
      exact ⟨Below.refl _ _, o26⟩
    · refine .inr ⟨fun _ => ?_, fun _ => ?_⟩
      · intro ρ w' hbw ht hcs hfn hgl hdep
        refine ⟨fun _ => ?_, fun h => by cases h⟩
        obtain ⟨u26, s26, o26⟩ := hdep ⟨5, .data⟩ (by simp) rfl 26 rfl
        clear ht hdep
        go_simp
        exact ⟨Below.refl _ _, rfl⟩
      · intro ρ w' hbw ht hcs hfn hgl hdep
        refine ⟨fun _ => ?_, fun h => by cases h⟩
        obtain ⟨u26, s26, o26⟩ := hdep ⟨5, .data⟩ (by simp) rfl 26 rfl
        clear ht hdep
        go_simp
        exact ⟨Below.refl _ _, rfl⟩
    · refine .inr ⟨fun _ => ?_, stage_no (by kernel_rfl)⟩
      intro ρ w' hbw ht hcs hfn hgl hdep
      refine ⟨fun _ => ?_, fun h => by cases h⟩
      clear ht hdep
      go_simp
      exact ⟨below_alloc _ _, _, rfl, hbw.size, heap_alloc_new _ _⟩
    · exact .inl rfl
    · refine .inr ⟨stage_no (by kernel_rfl), fun _ => ?_⟩
      intro ρ w' hbw ht hcs hfn hgl hdep
      refine ⟨fun _ => ?_, fun h => by cases h⟩
      have s33 : ρ (.tmp 33) = .int .i64 (addC x0 x1) := hdep ⟨7, .data⟩ (by simp) rfl 33 rfl
      clear ht hdep
      go_simp
      exact ⟨Below.refl _ _, rfl⟩
  · intro o ho
    obtain rfl := Option.some.inj ho
    refine ⟨rfl, fun ρ w' hbw ht hcs hdep => ?_⟩
    obtain ⟨pp, s6, hpl, hpc⟩ := hdep ⟨8, .data⟩ (by simp) rfl 6 rfl
    have ho := hdep ⟨6, .data⟩ (by simp) rfl 32 rfl
    clear hdep ht
    obtain ⟨sa, sc, hsh⟩ := shapeLattice (rLattice.own_at ho)
    have hcell0 : w'.cell? ⟨pp, 0, none⟩ = some (.int .i64 0) := by rw [cell_of_row w' pp 0 _ _ _ hpc]; rfl
    have hcell1 : w'.cell? ⟨pp, 1, none⟩ = some (.slice none 0 0) := by rw [cell_of_row w' pp 1 _ _ _ hpc]; rfl
    have hfree : ∀ j, w'.frozen? ⟨pp, j, none⟩ = false := fun j => frozen_of_row w' pp j _ _ hpc
    refine ⟨((w'.setCell ⟨pp, 0, none⟩ (.int .i64 (addLt x0 x1).1)).setCell ⟨pp, 1, none⟩ (.slice sa (addLt x0 x1).2.length sc)), ?_, ?_, trivial, ?_⟩
    · clear ho
      go_simp
    · exact ((hbw.setCell (by simpa using hpl) _).setCell (by simpa using hpl) _)
    · intro j v hj hv hrho
      match j, hj, hv, hrho with
      | 0, _, h, _ => exact h
      | 1, _, _, _ => exact trivial
      | 2, _, h, _ => exact h
      | 3, _, h, _ => exact h
      | 4, _, ⟨u, hu, _⟩, _ => exact ⟨u, hu, trivial⟩
      | 5, _, ⟨u, hu, _⟩, _ => exact ⟨u, hu, trivial⟩
      | 6, _, _, _ => exact trivial
      | 7, _, h, _ => exact h
      | 8, _, _, hr =>
        rw [hsh] at ho
        exact ⟨pp, sa, sc, (hr 6 rfl).trans s6, hpl, by simp [go_sem, hcell0], by simp [go_sem, hcell1], (BoxT.set (BoxT.set ⟨_, _, hpc⟩)), rLattice.own_mono (rLattice.own_set (rLattice.own_set ho hpc rfl) (heap_setCell_same _ pp 0 _ _ (.int .i64 (addLt x0 x1).1) hpc) rfl) (Nat.le_refl _) (by simp)⟩
      | 9, _, _, _ => exact trivial
      | 10, _, h, _ => exact h
      | (m + 11), hj, _, _ => exact absurd hj (by simp)
  · intro x w3 hb hx
    have hx0 : x 0 = .agg #[.int .i64 x0.1, .slice sa0 x0.2.length sc0] := hx 0 (by simp)
    have hx2 : x 2 = .agg #[.int .i64 x1.frm, .int .i64 x1.to_, .string x1.label, .int .i64 x1.cost] := hx 2 (by simp)
    have hx3 : x 3 = .agg #[.int .i64 x1.frm, .int .i64 x1.to_, .string x1.label, .int .i64 x1.cost] := hx 3 (by simp)
    have hx7 : x 7 = .int .i64 (addC x0 x1) := hx 7 (by simp)
    have hx10 : x 10 = .int .i64 (addC x0 x1) := hx 10 (by simp)
    obtain ⟨pp8, sb1, sd1, hx8, hppl, hpc0, hpc1, hppk, hppo⟩ := hx 8 (by simp)
    clear hx
    have z3 : w2.heap.size + 0 ≤ w3.heap.size := by have := hb.size; (try simp at this); omega
    replace a0 := rLattice.at_below a0 hb
    replace q1 := cell_later hb q1
    replace q2 := cell_later hb q2
    replace q3 := cell_later hb q3
    replace q4 := cell_later hb q4
    replace q5 := cell_later hb q5
    replace q6 := cell_later hb q6
    replace yq1 := cell_lt q1
    replace yq3 := cell_lt q3
    replace hbase := baseB0 hbase hb
    clear hb
    simp only [putAll, Act.put, List.setIfInBounds_toArray, List.set_cons_succ, List.set_cons_zero, Nat.zero_add, Nat.reduceAdd, hx0, hx2, hx3, hx7, hx10, hx8]
    generalize x 1 = k8_1 at *
    generalize x 4 = k8_4 at *
    generalize x 5 = k8_5 at *
    generalize x 6 = k8_6 at *
    clear hx0 hx2 hx3 hx7 hx10 hx8
    have o1 := hppo
    clear hppo
    have r8 := hppl
    clear hppl
    have rr8 : pp8 < w3.heap.size := cell_lt hpc0
    have kt8 := hppk
    clear hppk
    have q7 := hpc0
    clear hpc0
    have q8 := hpc1
    clear hpc1
    have yq7 := cell_lt q7
    go_wp2_with fail
    refine (toLattice_any _ x0 _ a0 ok_x0).mono ?_
    rintro e w4 ⟨u2, rfl, o2, hb⟩
    obtain ⟨sb2, sd2, rfl⟩ := shapeLattice (rLattice.own_at o2)
    have z4 : w3.heap.size + 0 ≤ w4.heap.size := by have := hb.size; (try simp at this); omega
    replace a0 := rLattice.at_below a0 hb
    replace o1 := rLattice.own_below o1 hb
    replace q1 := cell_later hb q1
    replace q2 := cell_later hb q2
    replace q3 := cell_later hb q3
    replace q4 := cell_later hb q4
    replace q5 := cell_later hb q5
    replace q6 := cell_later hb q6
    replace q7 := cell_later hb q7
    replace q8 := cell_later hb q8
    replace kt8 := kt8.below hb
    replace yq1 := cell_lt q1
    replace yq3 := cell_lt q3
    replace yq7 := cell_lt q7
    replace hbase := baseB0 hbase hb
    clear hb
    go_wp2_with fail
    obtain ⟨w5, hww5⟩ : ∃ u : World, u = (w4.alloc (.cells #[.int .i64 x0.1, .slice sb2 x0.2.length sd2] 31)) := ⟨_, rfl⟩
    rw [← hww5]
    have hb : Below w4.heap.size w4 w5 := by rw [hww5]; exact belowA1 _ _
    have zzw5 : w4.heap.size + 1 ≤ w5.heap.size := by rw [hww5]; simp <;> omega
    have z5 : w4.heap.size + 0 ≤ w5.heap.size := by have := hb.size; (try simp at this); omega
    replace a0 := rLattice.at_below a0 hb
    replace o1 := rLattice.own_below o1 hb
    replace o2 := rLattice.own_below o2 hb
    replace q1 := cell_later hb q1
    replace q2 := cell_later hb q2
    replace q3 := cell_later hb q3
    replace q4 := cell_later hb q4
    replace q5 := cell_later hb q5
    replace q6 := cell_later hb q6
    replace q7 := cell_later hb q7
    replace q8 := cell_later hb q8
    replace kt8 := kt8.below hb
    replace yq1 := cell_lt q1
    replace yq3 := cell_lt q3
    replace yq7 := cell_lt q7
    replace hbase := baseB0 hbase hb
    clear hb
    have q9 : w5.cell? ⟨w4.heap.size, 0, none⟩ = some (.int .i64 x0.1) := by rw [hww5]; simp
    have q10 : w5.cell? ⟨w4.heap.size, 1, none⟩ = some (.slice sb2 x0.2.length sd2) := by rw [hww5]; simp
    have yq9 := cell_lt q9
    clear hww5
    refine wp_region_rel2 8 (fun i v w' => match i with
        | 0 => v = .agg #[.int .i64 x0.1, .slice sb2 x0.2.length sd2]
        | 1 => v = .agg #[.int .i64 x1.frm, .int .i64 x1.to_, .string x1.label, .int .i64 x1.cost]
        | 2 => v = .agg #[.int .i64 x1.frm, .int .i64 x1.to_, .string x1.label, .int .i64 x1.cost]
        | 3 => ∃ u, v = .tuple #[u, .int .i64 (addC x0 x1)] ∧ rLattice.own w5.heap.size w'.heap.size w' u (addLt x0 x1)
        | 4 => ∃ u, v = .tuple #[u, .int .i64 (addC x0 x1)] ∧ rLattice.own w5.heap.size w'.heap.size w' u (addLt x0 x1)
        | 5 => rLattice.own w5.heap.size w'.heap.size w' v (addLt x0 x1)
        | 6 => v = .int .i64 (addC x0 x1)
        | 7 => ∃ p, v = .pointer (some ⟨p, 0, none⟩) ∧ w5.heap.size ≤ p ∧ w'.heap[p]? = some (.cells #[.int .i64 0, .slice none 0 0] 31 (0, 0))
        | 8 => True
        | _ => v = .int .i64 (addC x0 x1))
      (fun i v w' => match i with
        | 0 => v = .agg #[.int .i64 x0.1, .slice sb2 x0.2.length sd2]
        | 1 => v = .agg #[.int .i64 x1.frm, .int .i64 x1.to_, .string x1.label, .int .i64 x1.cost]
        | 2 => v = .agg #[.int .i64 x1.frm, .int .i64 x1.to_, .string x1.label, .int .i64 x1.cost]
        | 3 => ∃ u, v = .tuple #[u, .int .i64 (addC x0 x1)] ∧ True
        | 4 => ∃ u, v = .tuple #[u, .int .i64 (addC x0 x1)] ∧ True
        | 5 => True
        | 6 => v = .int .i64 (addC x0 x1)
        | 7 => ∃ (p : Nat) (sa : Option Addr) (sc : Nat), v = .pointer (some ⟨p, 0, none⟩) ∧ w5.heap.size ≤ p ∧ w'.cell? ⟨p, 0, none⟩ = some (.int .i64 (addLt x0 x1).1) ∧ w'.cell? ⟨p, 1, none⟩ = some (.slice sa (addLt x0 x1).2.length sc) ∧ BoxT w' p 31 ∧ rLattice.own w5.heap.size w'.heap.size w' (.agg #[.int .i64 (addLt x0 x1).1, .slice sa (addLt x0 x1).2.length sc]) (addLt x0 x1)
        | 8 => True
        | _ => v = .int .i64 (addC x0 x1)) (by kernel_rfl) (by kernel_rfl) (by kernel_rfl) (by kernel_rfl) ?_ ?_ ?_ ?_ (by decide) ?_
    · intro i v w w' h hb
      match i, h with
      | 0, h => exact h
      | 1, h => exact h
      | 2, h => exact h
      | 3, ⟨u, hu, ho⟩ => exact ⟨u, hu, rLattice.own_now ho hb⟩
      | 4, ⟨u, hu, ho⟩ => exact ⟨u, hu, rLattice.own_now ho hb⟩
      | 5, h => exact rLattice.own_now h hb
      | 6, h => exact h
      | 7, ⟨p, hp, hl, hc⟩ => exact ⟨p, hp, hl, (hb.block p (Array.getElem?_eq_some_iff.1 hc).1).trans hc⟩
      | 8, h => exact h
      | (m + 9), h => exact h
    · intro i v w w' h hb
      match i, h with
      | 0, h => exact h
      | 1, h => exact h
      | 2, h => exact h
      | 3, ⟨u, hu, ho⟩ => exact ⟨u, hu, ho⟩
      | 4, ⟨u, hu, ho⟩ => exact ⟨u, hu, ho⟩
      | 5, h => exact h
      | 6, h => exact h
      | 7, ⟨p, sa, sc, hp, hl, hc0, hc1, hk, ho⟩ => exact ⟨p, sa, sc, hp, hl, cell_later hb hc0, cell_later hb hc1, hk.below hb, rLattice.own_now ho hb⟩
      | 8, h => exact h
      | (m + 9), h => exact h
    · refine ⟨?_, ?_, ?_, ?_, ?_, ?_, ?_, ?_, ?_, ?_, trivial⟩
      · refine .inr ⟨fun _ => ?_, stage_no (by kernel_rfl)⟩
        intro ρ w' hbw ht hcs hfn hgl hdep
        refine ⟨fun _ => ?_, fun h => by cases h⟩
        have s8 : ρ (.tmp 8) = .pointer (some ⟨w4.heap.size, 0, none⟩) := ht 8 rfl
        have c0 := cell_later hbw q9
        have c1 := cell_later hbw q10
        clear ht hdep
        go_simp
        exact ⟨Below.refl _ _, rfl⟩
      · refine .inr ⟨fun _ => ?_, stage_no (by kernel_rfl)⟩
        intro ρ w' hbw ht hcs hfn hgl hdep
        refine ⟨fun _ => ?_, fun h => by cases h⟩
        have s3 : ρ (.tmp 3) = .pointer (some ⟨w.heap.size + 1, 0, none⟩) := ht 3 rfl
        have c0 := cell_later hbw q3
        have c1 := cell_later hbw q4
        have c2 := cell_later hbw q5
        have c3 := cell_later hbw q6
        clear ht hdep
        go_simp
        exact ⟨Below.refl _ _, rfl⟩
      · refine .inr ⟨fun _ => ?_, stage_no (by kernel_rfl)⟩
        intro ρ w' hbw ht hcs hfn hgl hdep
        refine ⟨fun _ => ?_, fun h => by cases h⟩
        have s38 : ρ (.tmp 38) = .agg #[.int .i64 x1.frm, .int .i64 x1.to_, .string x1.label, .int .i64 x1.cost] := hdep ⟨1, .data⟩ (by simp) rfl 38 rfl
        clear ht hdep
        go_simp
        exact (toEdge_any x1 w').mono fun e w'' ⟨he, hb⟩ => ⟨_, he, hb, rfl⟩
      · refine .inr ⟨fun _ => ?_, stage_no (by kernel_rfl)⟩
        intro ρ w' hbw ht hcs hfn hgl hdep
        refine ⟨fun _ => ?_, fun h => by cases h⟩
        have s37 : ρ (.tmp 37) = .agg #[.int .i64 x0.1, .slice sb2 x0.2.length sd2] := hdep ⟨0, .data⟩ (by simp) rfl 37 rfl
        have s39 : ρ (.tmp 39) = .agg #[.int .i64 x1.frm, .int .i64 x1.to_, .string x1.label, .int .i64 x1.cost] := hdep ⟨2, .data⟩ (by simp) rfl 39 rfl
        clear ht hdep
        go_simp
        exact (implAddEdge_any _ x0 x1 w' (rLattice.own_at (rLattice.own_below o2 hbw)) ok_x0 g0 g1).mono fun e w'' ⟨u, he, ho, hb⟩ => ⟨_, he, hb, u, rfl, rLattice.own_mono ho hbw.size (Nat.le_refl _)⟩
      · refine .inr ⟨fun _ => ?_, stage_no (by kernel_rfl)⟩
        intro ρ w' hbw ht hcs hfn hgl hdep
        refine ⟨fun _ => ?_, fun h => by cases h⟩
        obtain ⟨u40, s40, o40⟩ := hdep ⟨3, .data⟩ (by simp) rfl 40 rfl
        clear ht hdep
        go_simp
        exact ⟨Below.refl _ _, _, rfl, o40⟩
      · refine .inr ⟨fun _ => ?_, stage_no (by kernel_rfl)⟩
        intro ρ w' hbw ht hcs hfn hgl hdep
        refine ⟨fun _ => ?_, fun h => by cases h⟩
        obtain ⟨u36, s36, o36⟩ := hdep ⟨4, .data⟩ (by simp) rfl 36 rfl
        clear ht hdep
        go_simp
        exact ⟨Below.refl _ _, o36⟩
      · refine .inr ⟨fun _ => ?_, fun _ => ?_⟩
        · intro ρ w' hbw ht hcs hfn hgl hdep
          refine ⟨fun _ => ?_, fun h => by cases h⟩
          obtain ⟨u36, s36, o36⟩ := hdep ⟨4, .data⟩ (by simp) rfl 36 rfl
          clear ht hdep
          go_simp
          exact ⟨Below.refl _ _, rfl⟩
        · intro ρ w' hbw ht hcs hfn hgl hdep
          refine ⟨fun _ => ?_, fun h => by cases h⟩
          obtain ⟨u36, s36, o36⟩ := hdep ⟨4, .data⟩ (by simp) rfl 36 rfl
          clear ht hdep
          go_simp
          exact ⟨Below.refl _ _, rfl⟩
      · refine .inr ⟨fun _ => ?_, stage_no (by kernel_rfl)⟩
        intro ρ w' hbw ht hcs hfn hgl hdep
        refine ⟨fun _ => ?_, fun h => by cases h⟩
        clear ht hdep
        go_simp
        exact ⟨below_alloc _ _, _, rfl, hbw.size, heap_alloc_new _ _⟩
      · exact .inl rfl
      · refine .inr ⟨stage_no (by kernel_rfl), fun _ => ?_⟩
        intro ρ w' hbw ht hcs hfn hgl hdep
        refine ⟨fun _ => ?_, fun h => by cases h⟩
        have s42 : ρ (.tmp 42) = .int .i64 (addC x0 x1) := hdep ⟨6, .data⟩ (by simp) rfl 42 rfl
        clear ht hdep
        go_simp
        exact ⟨Below.refl _ _, rfl⟩
    · intro o ho
      obtain rfl := Option.some.inj ho
      refine ⟨rfl, fun ρ w' hbw ht hcs hdep => ?_⟩
      obtain ⟨pp, s9, hpl, hpc⟩ := hdep ⟨7, .data⟩ (by simp) rfl 9 rfl
      have ho := hdep ⟨5, .data⟩ (by simp) rfl 41 rfl
      clear hdep ht
      obtain ⟨sa, sc, hsh⟩ := shapeLattice (rLattice.own_at ho)
      have hcell0 : w'.cell? ⟨pp, 0, none⟩ = some (.int .i64 0) := by rw [cell_of_row w' pp 0 _ _ _ hpc]; rfl
      have hcell1 : w'.cell? ⟨pp, 1, none⟩ = some (.slice none 0 0) := by rw [cell_of_row w' pp 1 _ _ _ hpc]; rfl
      have hfree : ∀ j, w'.frozen? ⟨pp, j, none⟩ = false := fun j => frozen_of_row w' pp j _ _ hpc
      refine ⟨((w'.setCell ⟨pp, 0, none⟩ (.int .i64 (addLt x0 x1).1)).setCell ⟨pp, 1, none⟩ (.slice sa (addLt x0 x1).2.length sc)), ?_, ?_, trivial, ?_⟩
      · clear ho
        go_simp
      · exact ((hbw.setCell (by simpa using hpl) _).setCell (by simpa using hpl) _)
      · intro j v hj hv hrho
        match j, hj, hv, hrho with
        | 0, _, h, _ => exact h
        | 1, _, h, _ => exact h
        | 2, _, h, _ => exact h
        | 3, _, ⟨u, hu, _⟩, _ => exact ⟨u, hu, trivial⟩
        | 4, _, ⟨u, hu, _⟩, _ => exact ⟨u, hu, trivial⟩
        | 5, _, _, _ => exact trivial
        | 6, _, h, _ => exact h
        | 7, _, _, hr =>
          rw [hsh] at ho
          exact ⟨pp, sa, sc, (hr 9 rfl).trans s9, hpl, by simp [go_sem, hcell0], by simp [go_sem, hcell1], (BoxT.set (BoxT.set ⟨_, _, hpc⟩)), rLattice.own_mono (rLattice.own_set (rLattice.own_set ho hpc rfl) (heap_setCell_same _ pp 0 _ _ (.int .i64 (addLt x0 x1).1) hpc) rfl) (Nat.le_refl _) (by simp)⟩
        | 8, _, _, _ => exact trivial
        | 9, _, h, _ => exact h
        | (m + 10), hj, _, _ => exact absurd hj (by simp)
    · intro x w6 hb hx
      have hx0 : x 0 = .agg #[.int .i64 x0.1, .slice sb2 x0.2.length sd2] := hx 0 (by simp)
      have hx1 : x 1 = .agg #[.int .i64 x1.frm, .int .i64 x1.to_, .string x1.label, .int .i64 x1.cost] := hx 1 (by simp)
      have hx2 : x 2 = .agg #[.int .i64 x1.frm, .int .i64 x1.to_, .string x1.label, .int .i64 x1.cost] := hx 2 (by simp)
      have hx6 : x 6 = .int .i64 (addC x0 x1) := hx 6 (by simp)
      have hx9 : x 9 = .int .i64 (addC x0 x1) := hx 9 (by simp)
      obtain ⟨pp10, sb3, sd3, hx7, hppl, hpc0, hpc1, hppk, hppo⟩ := hx 7 (by simp)
      clear hx
      have z6 : w5.heap.size + 0 ≤ w6.heap.size := by have := hb.size; (try simp at this); omega
      replace a0 := rLattice.at_below a0 hb
      replace o1 := rLattice.own_below o1 hb
      replace o2 := rLattice.own_below o2 hb
      replace q1 := cell_later hb q1
      replace q2 := cell_later hb q2
      replace q3 := cell_later hb q3
      replace q4 := cell_later hb q4
      replace q5 := cell_later hb q5
      replace q6 := cell_later hb q6
      replace q7 := cell_later hb q7
      replace q8 := cell_later hb q8
      replace q9 := cell_later hb q9
      replace q10 := cell_later hb q10
      replace kt8 := kt8.below hb
      replace yq1 := cell_lt q1
      replace yq3 := cell_lt q3
      replace yq7 := cell_lt q7
      replace yq9 := cell_lt q9
      replace hbase := baseB0 hbase hb
      clear hb
      simp only [putAll, Act.put, List.setIfInBounds_toArray, List.set_cons_succ, List.set_cons_zero, Nat.zero_add, Nat.reduceAdd, hx0, hx1, hx2, hx6, hx9, hx7]
      generalize x 3 = k10_3 at *
      generalize x 4 = k10_4 at *
      generalize x 5 = k10_5 at *
      clear hx0 hx1 hx2 hx6 hx9 hx7
      have o3 := hppo
      clear hppo
      have r10 := hppl
      clear hppl
      have rr10 : pp10 < w6.heap.size := cell_lt hpc0
      have kt10 := hppk
      clear hppk
      have q11 := hpc0
      clear hpc0
      have q12 := hpc1
      clear hpc1
      have yq11 := cell_lt q11
      go_wp2_with fail
      refine (eqLattice_any _ _ (addLt x0 x1) _ (rLattice.own_at o3) (rLattice.own_at o1)).mono ?_
      rintro e w7 ⟨rfl, hb⟩
      have z7 : w6.heap.size + 0 ≤ w7.heap.size := by have := hb.size; (try simp at this); omega
      replace a0 := rLattice.at_below a0 hb
      replace o1 := rLattice.own_below o1 hb
      replace o2 := rLattice.own_below o2 hb
      replace o3 := rLattice.own_below o3 hb
      replace q1 := cell_later hb q1
      replace q2 := cell_later hb q2
      replace q3 := cell_later hb q3
      replace q4 := cell_later hb q4
      replace q5 := cell_later hb q5
      replace q6 := cell_later hb q6
      replace q7 := cell_later hb q7
      replace q8 := cell_later hb q8
      replace q9 := cell_later hb q9
      replace q10 := cell_later hb q10
      replace q11 := cell_later hb q11
      replace q12 := cell_later hb q12
      replace kt8 := kt8.below hb
      replace kt10 := kt10.below hb
      replace yq1 := cell_lt q1
      replace yq3 := cell_lt q3
      replace yq7 := cell_lt q7
      replace yq9 := cell_lt q9
      replace yq11 := cell_lt q11
      replace hbase := baseB0 hbase hb
      clear hb
      go_wp2_with fail
      refine wp_region_rel (fun i v w' => match i with
          | 0 => v = .agg #[.int .i64 x0.1, .slice sb2 x0.2.length sd2]
          | 1 => v = .agg #[.int .i64 x0.1, .slice sa0 x0.2.length sc0]
          | 2 => rLattice.own w7.heap.size w'.heap.size w' v x0
          | 3 => v = .bool true
          | _ => v = .bool false) (by kernel_rfl) (by kernel_rfl) (by kernel_rfl) (by kernel_rfl) ?_ ?_ ?_
      · intro i v w w' h hb
        match i, h with
        | 0, h => exact h
        | 1, h => exact h
        | 2, h => exact rLattice.own_now h hb
        | 3, h => exact h
        | (m + 4), h => exact h
      · refine ⟨?_, ?_, ?_, ?_, ?_, trivial⟩
        · intro ρ w' hbw ht hcs hfn hgl hdep
          refine ⟨fun _ => ?_, fun h => by cases h⟩
          have s8 : ρ (.tmp 8) = .pointer (some ⟨w4.heap.size, 0, none⟩) := ht 8 rfl
          have c0 := cell_later hbw q9
          have c1 := cell_later hbw q10
          clear ht hdep
          go_simp
          exact ⟨Below.refl _ _, rfl⟩
        · intro ρ w' hbw ht hcs hfn hgl hdep
          refine ⟨fun _ => ?_, fun h => by cases h⟩
          have s2 : ρ (.tmp 2) = .pointer (some ⟨w.heap.size, 0, none⟩) := ht 2 rfl
          have c0 := cell_later hbw q1
          have c1 := cell_later hbw q2
          clear ht hdep
          go_simp
          exact ⟨Below.refl _ _, rfl⟩
        · intro ρ w' hbw ht hcs hfn hgl hdep
          refine ⟨fun _ => ?_, fun h => by cases h⟩
          have s53 : ρ (.tmp 53) = .agg #[.int .i64 x0.1, .slice sa0 x0.2.length sc0] := hdep ⟨1, .data⟩ (by simp) rfl 53 rfl
          clear ht hdep
          go_simp
          exact (toLattice_any _ x0 w' (rLattice.at_below a0 hbw) ok_x0).mono fun e w'' ⟨u, he, ho, hb⟩ => ⟨_, he, hb, rLattice.own_mono ho hbw.size (Nat.le_refl _)⟩
        · intro ρ w' hbw ht hcs hfn hgl hdep
          refine ⟨fun _ => ?_, fun h => by cases h⟩
          have s52 : ρ (.tmp 52) = .agg #[.int .i64 x0.1, .slice sb2 x0.2.length sd2] := hdep ⟨0, .data⟩ (by simp) rfl 52 rfl
          have o54 := hdep ⟨2, .data⟩ (by simp) rfl 54 rfl
          clear ht hdep
          go_simp
          exact (eqLattice_any _ _ x0 w' (rLattice.own_at (rLattice.own_below o2 hbw)) (rLattice.own_at o54)).mono fun e w'' ⟨he, hb⟩ => ⟨_, he, hb, rfl⟩
        · intro ρ w' hbw ht hcs hfn hgl hdep
          refine ⟨fun _ => ?_, fun h => by cases h⟩
          have s55 : ρ (.tmp 55) = .bool true := hdep ⟨3, .data⟩ (by simp) rfl 55 rfl
          clear ht hdep
          go_simp
          exact ⟨Below.refl _ _, rfl⟩
      · intro x w8 hb hx
        have hx0 : x 0 = .agg #[.int .i64 x0.1, .slice sb2 x0.2.length sd2] := hx 0 (by simp)
        have hx1 : x 1 = .agg #[.int .i64 x0.1, .slice sa0 x0.2.length sc0] := hx 1 (by simp)
        have hx2 := hx 2 (by simp)
        have hx3 : x 3 = .bool true := hx 3 (by simp)
        have hx4 : x 4 = .bool false := hx 4 (by simp)
        clear hx
        have z8 : w7.heap.size + 0 ≤ w8.heap.size := by have := hb.size; (try simp at this); omega
        replace a0 := rLattice.at_below a0 hb
        replace o1 := rLattice.own_below o1 hb
        replace o2 := rLattice.own_below o2 hb
        replace o3 := rLattice.own_below o3 hb
        replace q1 := cell_later hb q1
        replace q2 := cell_later hb q2
        replace q3 := cell_later hb q3
        replace q4 := cell_later hb q4
        replace q5 := cell_later hb q5
        replace q6 := cell_later hb q6
        replace q7 := cell_later hb q7
        replace q8 := cell_later hb q8
        replace q9 := cell_later hb q9
        replace q10 := cell_later hb q10
        replace q11 := cell_later hb q11
        replace q12 := cell_later hb q12
        replace kt8 := kt8.below hb
        replace kt10 := kt10.below hb
        replace yq1 := cell_lt q1
        replace yq3 := cell_lt q3
        replace yq7 := cell_lt q7
        replace yq9 := cell_lt q9
        replace yq11 := cell_lt q11
        replace hbase := baseB0 hbase hb
        clear hb
        simp only [putAll, Act.put, List.setIfInBounds_toArray, List.set_cons_succ, List.set_cons_zero, Nat.zero_add, Nat.reduceAdd, hx0, hx1, hx3, hx4]
        generalize x 2 = k13_2 at *
        clear hx0 hx1 hx3 hx4
        have o4 := hx2
        clear hx2
        obtain ⟨sb4, sd4, hsh4⟩ := shapeLattice (rLattice.own_at o4)
        subst hsh4
        go_wp2_with fail
        refine (markLattice_any _ x0 _ _ (1) _ o2 ok_x0 (by omega) (by omega)).mono ?_
        rintro e w9 ⟨rfl, o2n, hc, hty⟩
        have z9 : w8.heap.size + 0 ≤ w9.heap.size := by have := hc.size; (try simp at this); omega
        replace a0 := rLattice.at_chg a0 hc (by first | (left; omega) | (right; omega))
        replace o1 := rLattice.own_chg o1 hc (by first | (left; omega) | (right; omega))
        replace o3 := rLattice.own_chg o3 hc (by first | (left; omega) | (right; omega))
        replace o4 := rLattice.own_chg o4 hc (by first | (left; omega) | (right; omega))
        replace q1 := chg_cell hc q1 (by first | (left; omega) | (right; omega))
        replace q2 := chg_cell hc q2 (by first | (left; omega) | (right; omega))
        replace q3 := chg_cell hc q3 (by first | (left; omega) | (right; omega))
        replace q4 := chg_cell hc q4 (by first | (left; omega) | (right; omega))
        replace q5 := chg_cell hc q5 (by first | (left; omega) | (right; omega))
        replace q6 := chg_cell hc q6 (by first | (left; omega) | (right; omega))
        replace q7 := typed_cell hty kt8 rfl q7
        replace q8 := typed_cell hty kt8 rfl q8
        replace q9 := chg_cell hc q9 (by first | (left; omega) | (right; omega))
        replace q10 := chg_cell hc q10 (by first | (left; omega) | (right; omega))
        replace q11 := typed_cell hty kt10 rfl q11
        replace q12 := typed_cell hty kt10 rfl q12
        replace kt8 := kt8.typed hty rfl
        replace kt10 := kt10.typed hty rfl
        replace yq1 := cell_lt q1
        replace yq3 := cell_lt q3
        replace yq7 := cell_lt q7
        replace yq9 := cell_lt q9
        replace yq11 := cell_lt q11
        replace hbase := below_chg hbase hc (by omega)
        clear hc
        clear hty
        clear o2
        have o2 := o2n
        clear o2n
        have cn9 : 0 ≤ cntLattice x0 ∧ cntLattice x0 ≤ 10000000 := cntLattice_bd ok_x0
        go_wp2_with fail
        refine (eqLattice_any _ _ (addLt x0 x1) _ (rLattice.own_at o3) (rLattice.own_at o1)).mono ?_
        rintro e w10 ⟨rfl, hb⟩
        have z10 : w9.heap.size + 0 ≤ w10.heap.size := by have := hb.size; (try simp at this); omega
        replace a0 := rLattice.at_below a0 hb
        replace o1 := rLattice.own_below o1 hb
        replace o2 := rLattice.own_below o2 hb
        replace o3 := rLattice.own_below o3 hb
        replace o4 := rLattice.own_below o4 hb
        replace q1 := cell_later hb q1
        replace q2 := cell_later hb q2
        replace q3 := cell_later hb q3
        replace q4 := cell_later hb q4
        replace q5 := cell_later hb q5
        replace q6 := cell_later hb q6
        replace q7 := cell_later hb q7
        replace q8 := cell_later hb q8
        replace q9 := cell_later hb q9
        replace q10 := cell_later hb q10
        replace q11 := cell_later hb q11
        replace q12 := cell_later hb q12
        replace kt8 := kt8.below hb
        replace kt10 := kt10.below hb
        replace yq1 := cell_lt q1
        replace yq3 := cell_lt q3
        replace yq7 := cell_lt q7
        replace yq9 := cell_lt q9
        replace yq11 := cell_lt q11
        replace hbase := baseB0 hbase hb
        clear hb
        go_wp2_with fail
        refine (markLattice_any _ (addLt x0 x1) _ _ (1) _ o3 (okAdd ok_x0) (by omega) (by omega)).mono ?_
        rintro e w11 ⟨rfl, o3n, hc, hty⟩
        have z11 : w10.heap.size + 0 ≤ w11.heap.size := by have := hc.size; (try simp at this); omega
        replace a0 := rLattice.at_chg a0 hc (by first | (left; omega) | (right; omega))
        replace o1 := rLattice.own_chg o1 hc (by first | (left; omega) | (right; omega))
        replace o2 := rLattice.own_chg o2 hc (by first | (left; omega) | (right; omega))
        replace o4 := rLattice.own_chg o4 hc (by first | (left; omega) | (right; omega))
        replace q1 := chg_cell hc q1 (by first | (left; omega) | (right; omega))
        replace q2 := chg_cell hc q2 (by first | (left; omega) | (right; omega))
        replace q3 := chg_cell hc q3 (by first | (left; omega) | (right; omega))
        replace q4 := chg_cell hc q4 (by first | (left; omega) | (right; omega))
        replace q5 := chg_cell hc q5 (by first | (left; omega) | (right; omega))
        replace q6 := chg_cell hc q6 (by first | (left; omega) | (right; omega))
        replace q7 := typed_cell hty kt8 rfl q7
        replace q8 := typed_cell hty kt8 rfl q8
        replace q9 := chg_cell hc q9 (by first | (left; omega) | (right; omega))
        replace q10 := chg_cell hc q10 (by first | (left; omega) | (right; omega))
        replace q11 := typed_cell hty kt10 rfl q11
        replace q12 := typed_cell hty kt10 rfl q12
        replace kt8 := kt8.typed hty rfl
        replace kt10 := kt10.typed hty rfl
        replace yq1 := cell_lt q1
        replace yq3 := cell_lt q3
        replace yq7 := cell_lt q7
        replace yq9 := cell_lt q9
        replace yq11 := cell_lt q11
        replace hbase := below_chg hbase hc (by omega)
        clear hc
        clear hty
        clear o3
        have o3 := o3n
        clear o3n
        have cn11 : 0 ≤ cntLattice (addLt x0 x1) ∧ cntLattice (addLt x0 x1) ≤ 10000000 := cntLattice_bd (okAdd ok_x0)
        go_wp2_with fail
        refine (heldLattice_any _ (addLt x0 x1) (1) _ (rLattice.own_at o3) (okAdd ok_x0) (by omega) (by omega)).mono ?_
        rintro e w12 ⟨rfl, hb⟩
        have z12 : w11.heap.size + 0 ≤ w12.heap.size := by have := hb.size; (try simp at this); omega
        replace a0 := rLattice.at_below a0 hb
        replace o1 := rLattice.own_below o1 hb
        replace o2 := rLattice.own_below o2 hb
        replace o3 := rLattice.own_below o3 hb
        replace o4 := rLattice.own_below o4 hb
        replace q1 := cell_later hb q1
        replace q2 := cell_later hb q2
        replace q3 := cell_later hb q3
        replace q4 := cell_later hb q4
        replace q5 := cell_later hb q5
        replace q6 := cell_later hb q6
        replace q7 := cell_later hb q7
        replace q8 := cell_later hb q8
        replace q9 := cell_later hb q9
        replace q10 := cell_later hb q10
        replace q11 := cell_later hb q11
        replace q12 := cell_later hb q12
        replace kt8 := kt8.below hb
        replace kt10 := kt10.below hb
        replace yq1 := cell_lt q1
        replace yq3 := cell_lt q3
        replace yq7 := cell_lt q7
        replace yq9 := cell_lt q9
        replace yq11 := cell_lt q11
        replace hbase := baseB0 hbase hb
        clear hb
        go_wp2_with fail
        refine wp_region_rel2 9 (fun i v w' => match i with
            | 0 => v = .agg #[.int .i64 x0.1, .slice sa0 x0.2.length sc0]
            | 1 => rLattice.own w12.heap.size w'.heap.size w' v x0
            | 2 => v = .agg #[.int .i64 x1.frm, .int .i64 x1.to_, .string x1.label, .int .i64 x1.cost]
            | 3 => v = .agg #[.int .i64 x1.frm, .int .i64 x1.to_, .string x1.label, .int .i64 x1.cost]
            | 4 => ∃ u, v = .tuple #[u, .int .i64 (addC x0 x1)] ∧ rLattice.own w12.heap.size w'.heap.size w' u (addLt x0 x1)
            | 5 => ∃ u, v = .tuple #[u, .int .i64 (addC x0 x1)] ∧ rLattice.own w12.heap.size w'.heap.size w' u (addLt x0 x1)
            | 6 => rLattice.own w12.heap.size w'.heap.size w' v (addLt x0 x1)
            | 7 => v = .int .i64 (addC x0 x1)
            | 8 => ∃ p, v = .pointer (some ⟨p, 0, none⟩) ∧ w12.heap.size ≤ p ∧ w'.heap[p]? = some (.cells #[.int .i64 0, .slice none 0 0] 31 (0, 0))
            | 9 => True
            | _ => v = .int .i64 (addC x0 x1))
          (fun i v w' => match i with
            | 0 => v = .agg #[.int .i64 x0.1, .slice sa0 x0.2.length sc0]
            | 1 => True
            | 2 => v = .agg #[.int .i64 x1.frm, .int .i64 x1.to_, .string x1.label, .int .i64 x1.cost]
            | 3 => v = .agg #[.int .i64 x1.frm, .int .i64 x1.to_, .string x1.label, .int .i64 x1.cost]
            | 4 => ∃ u, v = .tuple #[u, .int .i64 (addC x0 x1)] ∧ True
            | 5 => ∃ u, v = .tuple #[u, .int .i64 (addC x0 x1)] ∧ True
            | 6 => True
            | 7 => v = .int .i64 (addC x0 x1)
            | 8 => ∃ (p : Nat) (sa : Option Addr) (sc : Nat), v = .pointer (some ⟨p, 0, none⟩) ∧ w12.heap.size ≤ p ∧ w'.cell? ⟨p, 0, none⟩ = some (.int .i64 (addLt x0 x1).1) ∧ w'.cell? ⟨p, 1, none⟩ = some (.slice sa (addLt x0 x1).2.length sc) ∧ BoxT w' p 31 ∧ rLattice.own w12.heap.size w'.heap.size w' (.agg #[.int .i64 (addLt x0 x1).1, .slice sa (addLt x0 x1).2.length sc]) (addLt x0 x1)
            | 9 => True
            | _ => v = .int .i64 (addC x0 x1)) (by kernel_rfl) (by kernel_rfl) (by kernel_rfl) (by kernel_rfl) ?_ ?_ ?_ ?_ (by decide) ?_
        · intro i v w w' h hb
          match i, h with
          | 0, h => exact h
          | 1, h => exact rLattice.own_now h hb
          | 2, h => exact h
          | 3, h => exact h
          | 4, ⟨u, hu, ho⟩ => exact ⟨u, hu, rLattice.own_now ho hb⟩
          | 5, ⟨u, hu, ho⟩ => exact ⟨u, hu, rLattice.own_now ho hb⟩
          | 6, h => exact rLattice.own_now h hb
          | 7, h => exact h
          | 8, ⟨p, hp, hl, hc⟩ => exact ⟨p, hp, hl, (hb.block p (Array.getElem?_eq_some_iff.1 hc).1).trans hc⟩
          | 9, h => exact h
          | (m + 10), h => exact h
        · intro i v w w' h hb
          match i, h with
          | 0, h => exact h
          | 1, h => exact h
          | 2, h => exact h
          | 3, h => exact h
          | 4, ⟨u, hu, ho⟩ => exact ⟨u, hu, ho⟩
          | 5, ⟨u, hu, ho⟩ => exact ⟨u, hu, ho⟩
          | 6, h => exact h
          | 7, h => exact h
          | 8, ⟨p, sa, sc, hp, hl, hc0, hc1, hk, ho⟩ => exact ⟨p, sa, sc, hp, hl, cell_later hb hc0, cell_later hb hc1, hk.below hb, rLattice.own_now ho hb⟩
          | 9, h => exact h
          | (m + 10), h => exact h
        · refine ⟨?_, ?_, ?_, ?_, ?_, ?_, ?_, ?_, ?_, ?_, ?_, trivial⟩
          · refine .inr ⟨fun _ => ?_, stage_no (by kernel_rfl)⟩
            intro ρ w' hbw ht hcs hfn hgl hdep
            refine ⟨fun _ => ?_, fun h => by cases h⟩
            have s2 : ρ (.tmp 2) = .pointer (some ⟨w.heap.size, 0, none⟩) := ht 2 rfl
            have c0 := cell_later hbw q1
            have c1 := cell_later hbw q2
            clear ht hdep
            go_simp
            exact ⟨Below.refl _ _, rfl⟩
          · refine .inr ⟨fun _ => ?_, stage_no (by kernel_rfl)⟩
            intro ρ w' hbw ht hcs hfn hgl hdep
            refine ⟨fun _ => ?_, fun h => by cases h⟩
            have s85 : ρ (.tmp 85) = .agg #[.int .i64 x0.1, .slice sa0 x0.2.length sc0] := hdep ⟨0, .data⟩ (by simp) rfl 85 rfl
            clear ht hdep
            go_simp
            exact (toLattice_any _ x0 w' (rLattice.at_below a0 hbw) ok_x0).mono fun e w'' ⟨u, he, ho, hb⟩ => ⟨_, he, hb, rLattice.own_mono ho hbw.size (Nat.le_refl _)⟩
          · refine .inr ⟨fun _ => ?_, stage_no (by kernel_rfl)⟩
            intro ρ w' hbw ht hcs hfn hgl hdep
            refine ⟨fun _ => ?_, fun h => by cases h⟩
            have s3 : ρ (.tmp 3) = .pointer (some ⟨w.heap.size + 1, 0, none⟩) := ht 3 rfl
            have c0 := cell_later hbw q3
            have c1 := cell_later hbw q4
            have c2 := cell_later hbw q5
            have c3 := cell_later hbw q6
            clear ht hdep
            go_simp
            exact ⟨Below.refl _ _, rfl⟩
          · refine .inr ⟨fun _ => ?_, stage_no (by kernel_rfl)⟩
            intro ρ w' hbw ht hcs hfn hgl hdep
            refine ⟨fun _ => ?_, fun h => by cases h⟩
            have s87 : ρ (.tmp 87) = .agg #[.int .i64 x1.frm, .int .i64 x1.to_, .string x1.label, .int .i64 x1.cost] := hdep ⟨2, .data⟩ (by simp) rfl 87 rfl
            clear ht hdep
            go_simp
            exact (toEdge_any x1 w').mono fun e w'' ⟨he, hb⟩ => ⟨_, he, hb, rfl⟩
          · refine .inr ⟨fun _ => ?_, stage_no (by kernel_rfl)⟩
            intro ρ w' hbw ht hcs hfn hgl hdep
            refine ⟨fun _ => ?_, fun h => by cases h⟩
            have o86 := hdep ⟨1, .data⟩ (by simp) rfl 86 rfl
            have s88 : ρ (.tmp 88) = .agg #[.int .i64 x1.frm, .int .i64 x1.to_, .string x1.label, .int .i64 x1.cost] := hdep ⟨3, .data⟩ (by simp) rfl 88 rfl
            clear ht hdep
            go_simp
            exact (implAddEdge_any _ x0 x1 w' (rLattice.own_at o86) ok_x0 g0 g1).mono fun e w'' ⟨u, he, ho, hb⟩ => ⟨_, he, hb, u, rfl, rLattice.own_mono ho hbw.size (Nat.le_refl _)⟩
          · refine .inr ⟨fun _ => ?_, stage_no (by kernel_rfl)⟩
            intro ρ w' hbw ht hcs hfn hgl hdep
            refine ⟨fun _ => ?_, fun h => by cases h⟩
            obtain ⟨u89, s89, o89⟩ := hdep ⟨4, .data⟩ (by simp) rfl 89 rfl
            clear ht hdep
            go_simp
            exact ⟨Below.refl _ _, _, rfl, o89⟩
          · refine .inr ⟨fun _ => ?_, stage_no (by kernel_rfl)⟩
            intro ρ w' hbw ht hcs hfn hgl hdep
            refine ⟨fun _ => ?_, fun h => by cases h⟩
            obtain ⟨u84, s84, o84⟩ := hdep ⟨5, .data⟩ (by simp) rfl 84 rfl
            clear ht hdep
            go_simp
            exact ⟨Below.refl _ _, o84⟩
          · refine .inr ⟨fun _ => ?_, fun _ => ?_⟩
            · intro ρ w' hbw ht hcs hfn hgl hdep
              refine ⟨fun _ => ?_, fun h => by cases h⟩
              obtain ⟨u84, s84, o84⟩ := hdep ⟨5, .data⟩ (by simp) rfl 84 rfl
              clear ht hdep
              go_simp
              exact ⟨Below.refl _ _, rfl⟩
            · intro ρ w' hbw ht hcs hfn hgl hdep
              refine ⟨fun _ => ?_, fun h => by cases h⟩
              obtain ⟨u84, s84, o84⟩ := hdep ⟨5, .data⟩ (by simp) rfl 84 rfl
              clear ht hdep
              go_simp
              exact ⟨Below.refl _ _, rfl⟩
          · refine .inr ⟨fun _ => ?_, stage_no (by kernel_rfl)⟩
            intro ρ w' hbw ht hcs hfn hgl hdep
            refine ⟨fun _ => ?_, fun h => by cases h⟩
            clear ht hdep
            go_simp
            exact ⟨below_alloc _ _, _, rfl, hbw.size, heap_alloc_new _ _⟩
          · exact .inl rfl
          · refine .inr ⟨stage_no (by kernel_rfl), fun _ => ?_⟩
            intro ρ w' hbw ht hcs hfn hgl hdep
            refine ⟨fun _ => ?_, fun h => by cases h⟩
            have s91 : ρ (.tmp 91) = .int .i64 (addC x0 x1) := hdep ⟨7, .data⟩ (by simp) rfl 91 rfl
            clear ht hdep
            go_simp
            exact ⟨Below.refl _ _, rfl⟩
        · intro o ho
          obtain rfl := Option.some.inj ho
          refine ⟨rfl, fun ρ w' hbw ht hcs hdep => ?_⟩
          obtain ⟨pp, s14, hpl, hpc⟩ := hdep ⟨8, .data⟩ (by simp) rfl 14 rfl
          have ho := hdep ⟨6, .data⟩ (by simp) rfl 90 rfl
          clear hdep ht
          obtain ⟨sa, sc, hsh⟩ := shapeLattice (rLattice.own_at ho)
          have hcell0 : w'.cell? ⟨pp, 0, none⟩ = some (.int .i64 0) := by rw [cell_of_row w' pp 0 _ _ _ hpc]; rfl
          have hcell1 : w'.cell? ⟨pp, 1, none⟩ = some (.slice none 0 0) := by rw [cell_of_row w' pp 1 _ _ _ hpc]; rfl
          have hfree : ∀ j, w'.frozen? ⟨pp, j, none⟩ = false := fun j => frozen_of_row w' pp j _ _ hpc
          refine ⟨((w'.setCell ⟨pp, 0, none⟩ (.int .i64 (addLt x0 x1).1)).setCell ⟨pp, 1, none⟩ (.slice sa (addLt x0 x1).2.length sc)), ?_, ?_, trivial, ?_⟩
          · clear ho
            go_simp
          · exact ((hbw.setCell (by simpa using hpl) _).setCell (by simpa using hpl) _)
          · intro j v hj hv hrho
            match j, hj, hv, hrho with
            | 0, _, h, _ => exact h
            | 1, _, _, _ => exact trivial
            | 2, _, h, _ => exact h
            | 3, _, h, _ => exact h
            | 4, _, ⟨u, hu, _⟩, _ => exact ⟨u, hu, trivial⟩
            | 5, _, ⟨u, hu, _⟩, _ => exact ⟨u, hu, trivial⟩
            | 6, _, _, _ => exact trivial
            | 7, _, h, _ => exact h
            | 8, _, _, hr =>
              rw [hsh] at ho
              exact ⟨pp, sa, sc, (hr 14 rfl).trans s14, hpl, by simp [go_sem, hcell0], by simp [go_sem, hcell1], (BoxT.set (BoxT.set ⟨_, _, hpc⟩)), rLattice.own_mono (rLattice.own_set (rLattice.own_set ho hpc rfl) (heap_setCell_same _ pp 0 _ _ (.int .i64 (addLt x0 x1).1) hpc) rfl) (Nat.le_refl _) (by simp)⟩
            | 9, _, _, _ => exact trivial
            | 10, _, h, _ => exact h
            | (m + 11), hj, _, _ => exact absurd hj (by simp)
        · intro x w13 hb hx
          have hx0 : x 0 = .agg #[.int .i64 x0.1, .slice sa0 x0.2.length sc0] := hx 0 (by simp)
          have hx2 : x 2 = .agg #[.int .i64 x1.frm, .int .i64 x1.to_, .string x1.label, .int .i64 x1.cost] := hx 2 (by simp)
          have hx3 : x 3 = .agg #[.int .i64 x1.frm, .int .i64 x1.to_, .string x1.label, .int .i64 x1.cost] := hx 3 (by simp)
          have hx7 : x 7 = .int .i64 (addC x0 x1) := hx 7 (by simp)
          have hx10 : x 10 = .int .i64 (addC x0 x1) := hx 10 (by simp)
          obtain ⟨pp27, sb5, sd5, hx8, hppl, hpc0, hpc1, hppk, hppo⟩ := hx 8 (by simp)
          clear hx
          have z13 : w12.heap.size + 0 ≤ w13.heap.size := by have := hb.size; (try simp at this); omega
          replace a0 := rLattice.at_below a0 hb
          replace o1 := rLattice.own_below o1 hb
          replace o2 := rLattice.own_below o2 hb
          replace o3 := rLattice.own_below o3 hb
          replace o4 := rLattice.own_below o4 hb
          replace q1 := cell_later hb q1
          replace q2 := cell_later hb q2
          replace q3 := cell_later hb q3
          replace q4 := cell_later hb q4
          replace q5 := cell_later hb q5
          replace q6 := cell_later hb q6
          replace q7 := cell_later hb q7
          replace q8 := cell_later hb q8
          replace q9 := cell_later hb q9
          replace q10 := cell_later hb q10
          replace q11 := cell_later hb q11
          replace q12 := cell_later hb q12
          replace kt8 := kt8.below hb
          replace kt10 := kt10.below hb
          replace yq1 := cell_lt q1
          replace yq3 := cell_lt q3
          replace yq7 := cell_lt q7
          replace yq9 := cell_lt q9
          replace yq11 := cell_lt q11
          replace hbase := baseB0 hbase hb
          clear hb
          simp only [putAll, Act.put, List.setIfInBounds_toArray, List.set_cons_succ, List.set_cons_zero, Nat.zero_add, Nat.reduceAdd, hx0, hx2, hx3, hx7, hx10, hx8]
          generalize x 1 = k27_1 at *
          generalize x 4 = k27_4 at *
          generalize x 5 = k27_5 at *
          generalize x 6 = k27_6 at *
          clear hx0 hx2 hx3 hx7 hx10 hx8
          have o5 := hppo
          clear hppo
          have r27 := hppl
          clear hppl
          have rr27 : pp27 < w13.heap.size := cell_lt hpc0
          have kt27 := hppk
          clear hppk
          have q13 := hpc0
          clear hpc0
          have q14 := hpc1
          clear hpc1
          have yq13 := cell_lt q13
          go_wp2_with fail
          refine (eqLattice_any _ _ (addLt x0 x1) _ (rLattice.own_at o5) (rLattice.own_at o1)).mono ?_
          rintro e w14 ⟨rfl, hb⟩
          have z14 : w13.heap.size + 0 ≤ w14.heap.size := by have := hb.size; (try simp at this); omega
          replace a0 := rLattice.at_below a0 hb
          replace o1 := rLattice.own_below o1 hb
          replace o2 := rLattice.own_below o2 hb
          replace o3 := rLattice.own_below o3 hb
          replace o4 := rLattice.own_below o4 hb
          replace o5 := rLattice.own_below o5 hb
          replace q1 := cell_later hb q1
          replace q2 := cell_later hb q2
          replace q3 := cell_later hb q3
          replace q4 := cell_later hb q4
          replace q5 := cell_later hb q5
          replace q6 := cell_later hb q6
          replace q7 := cell_later hb q7
          replace q8 := cell_later hb q8
          replace q9 := cell_later hb q9
          replace q10 := cell_later hb q10
          replace q11 := cell_later hb q11
          replace q12 := cell_later hb q12
          replace q13 := cell_later hb q13
          replace q14 := cell_later hb q14
          replace kt8 := kt8.below hb
          replace kt10 := kt10.below hb
          replace kt27 := kt27.below hb
          replace yq1 := cell_lt q1
          replace yq3 := cell_lt q3
          replace yq7 := cell_lt q7
          replace yq9 := cell_lt q9
          replace yq11 := cell_lt q11
          replace yq13 := cell_lt q13
          replace hbase := baseB0 hbase hb
          clear hb
          go_wp2_with fail
          refine (heldLattice_any _ (addLt x0 x1) (1) _ (rLattice.own_at o3) (okAdd ok_x0) (by omega) (by omega)).mono ?_
          rintro e w15 ⟨rfl, hb⟩
          have z15 : w14.heap.size + 0 ≤ w15.heap.size := by have := hb.size; (try simp at this); omega
          replace a0 := rLattice.at_below a0 hb
          replace o1 := rLattice.own_below o1 hb
          replace o2 := rLattice.own_below o2 hb
          replace o3 := rLattice.own_below o3 hb
          replace o4 := rLattice.own_below o4 hb
          replace o5 := rLattice.own_below o5 hb
          replace q1 := cell_later hb q1
          replace q2 := cell_later hb q2
          replace q3 := cell_later hb q3
          replace q4 := cell_later hb q4
          replace q5 := cell_later hb q5
          replace q6 := cell_later hb q6
          replace q7 := cell_later hb q7
          replace q8 := cell_later hb q8
          replace q9 := cell_later hb q9
          replace q10 := cell_later hb q10
          replace q11 := cell_later hb q11
          replace q12 := cell_later hb q12
          replace q13 := cell_later hb q13
          replace q14 := cell_later hb q14
          replace kt8 := kt8.below hb
          replace kt10 := kt10.below hb
          replace kt27 := kt27.below hb
          replace yq1 := cell_lt q1
          replace yq3 := cell_lt q3
          replace yq7 := cell_lt q7
          replace yq9 := cell_lt q9
          replace yq11 := cell_lt q11
          replace yq13 := cell_lt q13
          replace hbase := baseB0 hbase hb
          clear hb
          go_wp2_with fail
          go_ret
          exact ret_bool rfl hbase
end Go.Proofs.Ythooeaappnkjgaa
