/- The walk of the law FnExactInkOfGroup: for every argument it returns true and leaves what was there. -/
import Derived.Test.YtdadmphmpojjhaaReg
import Derived.Test.YtdadmphmpojjhaaRep
import Derived.Test.YtdadmphmpojjhaaWrInk
import Derived.Test.YtdadmphmpojjhaaFlGroup
import Derived.Test.YtdadmphmpojjhaaInkG6
namespace Go.Proofs.Ytdadmphmpojjhaa
open Go.RowKit

set_option maxHeartbeats 4000000 in
theorem lawInkOfGroup (v0 : Value) (x0 : XInk) (x1 : DGroup) (w : World) (a0 : rInk.at_ 0 w.heap.size w v0 x0) (g0 : goodInk x0) :
    Calls Try.prog 3 #[v0, .agg #[.int .i64 x1.frm, .int .i64 x1.to_]] w (Ret (.bool true) w) := by
  obtain ⟨sa0, sc0, rfl⟩ := shapeInk a0
  have hbase : Below w.heap.size w w := Below.refl _ _
  go_enter Try.func3, Try.ntmps3
  go_wp2_with fail
  refine (szInk_any _ x0 (1048576) _ (rInk.at_alloc (rInk.at_alloc a0 _) _) g0 (by omega) (by omega)).mono ?_
  rintro e w1 ⟨rfl, hb⟩
  have z1 : w.heap.size + 2 ≤ w1.heap.size := by have := hb.size; (try simp at this); omega
  replace a0 := rInk.at_below (rInk.at_alloc (rInk.at_alloc a0 _) _) hb
  have q1 : w1.cell? ⟨w.heap.size, 0, none⟩ = some (.slice sa0 x0.length sc0) := cell_later hb (by simp)
  have q2 : w1.cell? ⟨w.heap.size + 1, 0, none⟩ = some (.int .i64 x1.frm) := cell_later hb (by simp)
  have q3 : w1.cell? ⟨w.heap.size + 1, 1, none⟩ = some (.int .i64 x1.to_) := cell_later hb (by simp)
  have yq1 := cell_lt q1
  have yq2 := cell_lt q2
  replace hbase := baseB2 hbase hb
  clear hb
  by_cases hszx0 : (1048576 : Int) < (sizeInk x0 : Nat)
  · rw [szOf_neg hszx0]
    go_wp2_with fail
    go_ret
    exact ret_bool rfl hbase
  rw [szOf_pos (by omega)]
  have ok_x0 : okInk x0 := okInk_of (by omega)
  go_wp2_with fail
  refine wp_region_rel2 9 (fun i v w' => match i with
      | 0 => v = .agg #[.slice sa0 x0.length sc0]
      | 1 => rInk.own w1.heap.size w'.heap.size w' v x0
      | 2 => v = .agg #[.int .i64 x1.frm, .int .i64 x1.to_]
      | 3 => v = .agg #[.int .i64 x1.frm, .int .i64 x1.to_]
      | 4 => ∃ u, v = .tuple #[u, .int .i64 (iogCG x0 x1)] ∧ rInk.own w1.heap.size w'.heap.size w' u (iogXG x0 x1)
      | 5 => ∃ u, v = .tuple #[u, .int .i64 (iogCG x0 x1)] ∧ rInk.own w1.heap.size w'.heap.size w' u (iogXG x0 x1)
      | 6 => rInk.own w1.heap.size w'.heap.size w' v (iogXG x0 x1)
      | 7 => v = .int .i64 (iogCG x0 x1)
      | 8 => ∃ p, v = .pointer (some ⟨p, 0, none⟩) ∧ w1.heap.size ≤ p ∧ w'.heap[p]? = some (.cells #[.slice none 0 0] 30 (0, 0))
      | 9 => True
      | _ => v = .int .i64 (iogCG x0 x1))
    (fun i v w' => match i with
      | 0 => v = .agg #[.slice sa0 x0.length sc0]
      | 1 => True
      | 2 => v = .agg #[.int .i64 x1.frm, .int .i64 x1.to_]
      | 3 => v = .agg #[.int .i64 x1.frm, .int .i64 x1.to_]
      | 4 => ∃ u, v = .tuple #[u, .int .i64 (iogCG x0 x1)] ∧ True
      | 5 => ∃ u, v = .tuple #[u, .int .i64 (iogCG x0 x1)] ∧ True
      | 6 => True
      | 7 => v = .int .i64 (iogCG x0 x1)
      | 8 => ∃ (p : Nat) (sa : Option Addr) (sc : Nat), v = .pointer (some ⟨p, 0, none⟩) ∧ w1.heap.size ≤ p ∧ w'.cell? ⟨p, 0, none⟩ = some (.slice sa (iogXG x0 x1).length sc) ∧ BoxT w' p 30 ∧ rInk.own w1.heap.size w'.heap.size w' (.agg #[.slice sa (iogXG x0 x1).length sc]) (iogXG x0 x1)
      | 9 => True
      | _ => v = .int .i64 (iogCG x0 x1)) (by kernel_rfl) (by kernel_rfl) (by kernel_rfl) (by kernel_rfl) ?_ ?_ ?_ ?_ (by decide) ?_
  · intro i v w w' h hb
    match i, h with
    | 0, h => exact h
    | 1, h => exact rInk.own_now h hb
    | 2, h => exact h
    | 3, h => exact h
    | 4, ⟨u, hu, ho⟩ => exact ⟨u, hu, rInk.own_now ho hb⟩
    | 5, ⟨u, hu, ho⟩ => exact ⟨u, hu, rInk.own_now ho hb⟩
    | 6, h => exact rInk.own_now h hb
    | 7, h => exact h
    | 8, ⟨p, hp, hl, hc⟩ => exact ⟨p, hp, hl, (hb.block p (Array.getElem?_eq_some_iff.1 hc).1).trans hc⟩
    | 9, h => exact h
    | (m + 10), h => exact h
  · intro i v w w' h hb
    match i, h with
    | 0, h => exact h
    | 1, h => exact h
    | 2, h => exact h
    | 3, h => exact h
    | 4, ⟨u, hu, ho⟩ => exact ⟨u, hu, ho⟩
    | 5, ⟨u, hu, ho⟩ => exact ⟨u, hu, ho⟩
    | 6, h => exact h
    | 7, h => exact h
    | 8, ⟨p, sa, sc, hp, hl, hc0, hk, ho⟩ => exact ⟨p, sa, sc, hp, hl, cell_later hb hc0, hk.below hb, rInk.own_now ho hb⟩
    | 9, h => exact h
    | (m + 10), h => exact h
  · refine ⟨?_, ?_, ?_, ?_, ?_, ?_, ?_, ?_, ?_, ?_, ?_, trivial⟩
    · refine .inr ⟨fun _ => ?_, stage_no (by kernel_rfl)⟩
      intro ρ w' hbw ht hcs hfn hgl hdep
      refine ⟨fun _ => ?_, fun h => by cases h⟩
      have s2 : ρ (.tmp 2) = .pointer (some ⟨w.heap.size, 0, none⟩) := ht 2 rfl
      have c0 := cell_later hbw q1
      clear ht hdep
      go_simp
      exact ⟨Below.refl _ _, rfl⟩
    · refine .inr ⟨fun _ => ?_, stage_no (by kernel_rfl)⟩
      intro ρ w' hbw ht hcs hfn hgl hdep
      refine ⟨fun _ => ?_, fun h => by cases h⟩
      have s22 : ρ (.tmp 22) = .agg #[.slice sa0 x0.length sc0] := hdep ⟨0, .data⟩ (by simp) rfl 22 rfl
      clear ht hdep
      go_simp
      exact (toInk_any _ x0 w' (rInk.at_below a0 hbw) ok_x0).mono fun e w'' ⟨u, he, ho, hb⟩ => ⟨_, he, hb, rInk.own_mono ho hbw.size (Nat.le_refl _)⟩
    · refine .inr ⟨fun _ => ?_, stage_no (by kernel_rfl)⟩
      intro ρ w' hbw ht hcs hfn hgl hdep
      refine ⟨fun _ => ?_, fun h => by cases h⟩
      have s3 : ρ (.tmp 3) = .pointer (some ⟨w.heap.size + 1, 0, none⟩) := ht 3 rfl
      have c0 := cell_later hbw q2
      have c1 := cell_later hbw q3
      clear ht hdep
      go_simp
      exact ⟨Below.refl _ _, rfl⟩
    · refine .inr ⟨fun _ => ?_, stage_no (by kernel_rfl)⟩
      intro ρ w' hbw ht hcs hfn hgl hdep
      refine ⟨fun _ => ?_, fun h => by cases h⟩
      have s24 : ρ (.tmp 24) = .agg #[.int .i64 x1.frm, .int .i64 x1.to_] := hdep ⟨2, .data⟩ (by simp) rfl 24 rfl
      clear ht hdep
      go_simp
      exact (toGroup_any x1 w').mono fun e w'' ⟨he, hb⟩ => ⟨_, he, hb, rfl⟩
    · refine .inr ⟨fun _ => ?_, stage_no (by kernel_rfl)⟩
      intro ρ w' hbw ht hcs hfn hgl hdep
      refine ⟨fun _ => ?_, fun h => by cases h⟩
      have o23 := hdep ⟨1, .data⟩ (by simp) rfl 23 rfl
      have s25 : ρ (.tmp 25) = .agg #[.int .i64 x1.frm, .int .i64 x1.to_] := hdep ⟨3, .data⟩ (by simp) rfl 25 rfl
      clear ht hdep
      go_simp
      exact (specInkOfGroup_any _ x0 x1 w' (rInk.own_at o23) ok_x0 g0).mono fun e w'' ⟨u, he, ho, hb⟩ => ⟨_, he, hb, u, rfl, rInk.own_mono ho hbw.size (Nat.le_refl _)⟩
    · refine .inr ⟨fun _ => ?_, stage_no (by kernel_rfl)⟩
      intro ρ w' hbw ht hcs hfn hgl hdep
      refine ⟨fun _ => ?_, fun h => by cases h⟩
      obtain ⟨u26, s26, o26⟩ := hdep ⟨4, .data⟩ (by simp) rfl 26 rfl
      clear ht hdep
      go_simp
      exact ⟨Below.refl _ _, _, rfl, o26⟩
    · refine .inr ⟨fun _ => ?_, stage_no (by kernel_rfl)⟩
      intro ρ w' hbw ht hcs hfn hgl hdep
      refine ⟨fun _ => ?_, fun h => by cases h⟩
      obtain ⟨u21, s21, o21⟩ := hdep ⟨5, .data⟩ (by simp) rfl 21 rfl
      clear ht hdep
      go_simp
      exact ⟨Below.refl _ _, o21⟩
    · refine .inr ⟨fun _ => ?_, fun _ => ?_⟩
      · intro ρ w' hbw ht hcs hfn hgl hdep
        refine ⟨fun _ => ?_, fun h => by cases h⟩
        obtain ⟨u21, s21, o21⟩ := hdep ⟨5, .data⟩ (by simp) rfl 21 rfl
        clear ht hdep
        go_simp
        exact ⟨Below.refl _ _, rfl⟩
      · intro ρ w' hbw ht hcs hfn hgl hdep
        refine ⟨fun _ => ?_, fun h => by cases h⟩
        obtain ⟨u21, s21, o21⟩ := hdep ⟨5, .data⟩ (by simp) rfl 21 rfl
        clear ht hdep
        go_simp
        exact ⟨Below.refl _ _, rfl⟩
    · refine .inr ⟨fun _ => ?_, stage_no (by kernel_rfl)⟩
      intro ρ w' hbw ht hcs hfn hgl hdep
      refine ⟨fun _ => ?_, fun h => by cases h⟩
      clear ht hdep
      go_simp
      exact ⟨below_alloc _ _, _, rfl, hbw.size, heap_alloc_new _ _⟩
    · exact .inl rfl
    · refine .inr ⟨stage_no (by kernel_rfl), fun _ => ?_⟩
      intro ρ w' hbw ht hcs hfn hgl hdep
      refine ⟨fun _ => ?_, fun h => by cases h⟩
      have s28 : ρ (.tmp 28) = .int .i64 (iogCG x0 x1) := hdep ⟨7, .data⟩ (by simp) rfl 28 rfl
      clear ht hdep
      go_simp
      exact ⟨Below.refl _ _, rfl⟩
  · intro o ho
    obtain rfl := Option.some.inj ho
    refine ⟨rfl, fun ρ w' hbw ht hcs hdep => ?_⟩
    obtain ⟨pp, s6, hpl, hpc⟩ := hdep ⟨8, .data⟩ (by simp) rfl 6 rfl
    have ho := hdep ⟨6, .data⟩ (by simp) rfl 27 rfl
    clear hdep ht
    obtain ⟨sa, sc, hsh⟩ := shapeInk (rInk.own_at ho)
    have hcell0 : w'.cell? ⟨pp, 0, none⟩ = some (.slice none 0 0) := by rw [cell_of_row w' pp 0 _ _ _ hpc]; rfl
    have hfree : ∀ j, w'.frozen? ⟨pp, j, none⟩ = false := fun j => frozen_of_row w' pp j _ _ hpc
    refine ⟨(w'.setCell ⟨pp, 0, none⟩ (.slice sa (iogXG x0 x1).length sc)), ?_, ?_, trivial, ?_⟩
    · clear ho
      go_simp
    · exact (hbw.setCell (by simpa using hpl) _)
    · intro j v hj hv hrho
      match j, hj, hv, hrho with
      | 0, _, h, _ => exact h
      | 1, _, _, _ => exact trivial
      | 2, _, h, _ => exact h
      | 3, _, h, _ => exact h
      | 4, _, ⟨u, hu, _⟩, _ => exact ⟨u, hu, trivial⟩
      | 5, _, ⟨u, hu, _⟩, _ => exact ⟨u, hu, trivial⟩
      | 6, _, _, _ => exact trivial
      | 7, _, h, _ => exact h
      | 8, _, _, hr =>
        rw [hsh] at ho
        exact ⟨pp, sa, sc, (hr 6 rfl).trans s6, hpl, by simp [go_sem, hcell0], (BoxT.set ⟨_, _, hpc⟩), rInk.own_mono (rInk.own_set ho hpc rfl) (Nat.le_refl _) (by simp)⟩
      | 9, _, _, _ => exact trivial
      | 10, _, h, _ => exact h
      | (m + 11), hj, _, _ => exact absurd hj (by simp)
  · intro x w2 hb hx
    have hx0 : x 0 = .agg #[.slice sa0 x0.length sc0] := hx 0 (by simp)
    have hx2 : x 2 = .agg #[.int .i64 x1.frm, .int .i64 x1.to_] := hx 2 (by simp)
    have hx3 : x 3 = .agg #[.int .i64 x1.frm, .int .i64 x1.to_] := hx 3 (by simp)
    have hx7 : x 7 = .int .i64 (iogCG x0 x1) := hx 7 (by simp)
    have hx10 : x 10 = .int .i64 (iogCG x0 x1) := hx 10 (by simp)
    obtain ⟨pp5, sb1, sd1, hx8, hppl, hpc0, hppk, hppo⟩ := hx 8 (by simp)
    clear hx
    have z2 : w1.heap.size + 0 ≤ w2.heap.size := by have := hb.size; (try simp at this); omega
    replace a0 := rInk.at_below a0 hb
    replace q1 := cell_later hb q1
    replace q2 := cell_later hb q2
    replace q3 := cell_later hb q3
    replace yq1 := cell_lt q1
    replace yq2 := cell_lt q2
    replace hbase := baseB0 hbase hb
    clear hb
    simp only [putAll, Act.put, List.setIfInBounds_toArray, List.set_cons_succ, List.set_cons_zero, Nat.zero_add, Nat.reduceAdd, hx0, hx2, hx3, hx7, hx10, hx8]
    generalize x 1 = k5_1 at *
    generalize x 4 = k5_4 at *
    generalize x 5 = k5_5 at *
    generalize x 6 = k5_6 at *
    clear hx0 hx2 hx3 hx7 hx10 hx8
    have o1 := hppo
    clear hppo
    have r5 := hppl
    clear hppl
    have rr5 : pp5 < w2.heap.size := cell_lt hpc0
    have kt5 := hppk
    clear hppk
    have q4 := hpc0
    clear hpc0
    have yq4 := cell_lt q4
    go_wp2_with fail
    refine (toInk_any _ x0 _ a0 ok_x0).mono ?_
    rintro e w3 ⟨u2, rfl, o2, hb⟩
    obtain ⟨sb2, sd2, rfl⟩ := shapeInk (rInk.own_at o2)
    have z3 : w2.heap.size + 0 ≤ w3.heap.size := by have := hb.size; (try simp at this); omega
    replace a0 := rInk.at_below a0 hb
    replace o1 := rInk.own_below o1 hb
    replace q1 := cell_later hb q1
    replace q2 := cell_later hb q2
    replace q3 := cell_later hb q3
    replace q4 := cell_later hb q4
    replace kt5 := kt5.below hb
    replace yq1 := cell_lt q1
    replace yq2 := cell_lt q2
    replace yq4 := cell_lt q4
    replace hbase := baseB0 hbase hb
    clear hb
    go_wp2_with fail
    obtain ⟨w4, hww4⟩ : ∃ u : World, u = (w3.alloc (.cells #[.slice sb2 x0.length sd2] 30)) := ⟨_, rfl⟩
    rw [← hww4]
    have hb : Below w3.heap.size w3 w4 := by rw [hww4]; exact belowA1 _ _
    have zzw4 : w3.heap.size + 1 ≤ w4.heap.size := by rw [hww4]; simp <;> omega
    have z4 : w3.heap.size + 0 ≤ w4.heap.size := by have := hb.size; (try simp at this); omega
    replace a0 := rInk.at_below a0 hb
    replace o1 := rInk.own_below o1 hb
    replace o2 := rInk.own_below o2 hb
    replace q1 := cell_later hb q1
    replace q2 := cell_later hb q2
    replace q3 := cell_later hb q3
    replace q4 := cell_later hb q4
    replace kt5 := kt5.below hb
    replace yq1 := cell_lt q1
    replace yq2 := cell_lt q2
    replace yq4 := cell_lt q4
    replace hbase := baseB0 hbase hb
    clear hb
    have q5 : w4.cell? ⟨w3.heap.size, 0, none⟩ = some (.slice sb2 x0.length sd2) := by rw [hww4]; simp
    have yq5 := cell_lt q5
    clear hww4
    refine wp_region_rel2 8 (fun i v w' => match i with
        | 0 => v = .agg #[.slice sb2 x0.length sd2]
        | 1 => v = .agg #[.int .i64 x1.frm, .int .i64 x1.to_]
        | 2 => v = .agg #[.int .i64 x1.frm, .int .i64 x1.to_]
        | 3 => ∃ u, v = .tuple #[u, .int .i64 (iogCG x0 x1)] ∧ rInk.own w4.heap.size w'.heap.size w' u (iogXG x0 x1)
        | 4 => ∃ u, v = .tuple #[u, .int .i64 (iogCG x0 x1)] ∧ rInk.own w4.heap.size w'.heap.size w' u (iogXG x0 x1)
        | 5 => rInk.own w4.heap.size w'.heap.size w' v (iogXG x0 x1)
        | 6 => v = .int .i64 (iogCG x0 x1)
        | 7 => ∃ p, v = .pointer (some ⟨p, 0, none⟩) ∧ w4.heap.size ≤ p ∧ w'.heap[p]? = some (.cells #[.slice none 0 0] 30 (0, 0))
        | 8 => True
        | _ => v = .int .i64 (iogCG x0 x1))
      (fun i v w' => match i with
        | 0 => v = .agg #[.slice sb2 x0.length sd2]
        | 1 => v = .agg #[.int .i64 x1.frm, .int .i64 x1.to_]
        | 2 => v = .agg #[.int .i64 x1.frm, .int .i64 x1.to_]
        | 3 => ∃ u, v = .tuple #[u, .int .i64 (iogCG x0 x1)] ∧ True
        | 4 => ∃ u, v = .tuple #[u, .int .i64 (iogCG x0 x1)] ∧ True
        | 5 => True
        | 6 => v = .int .i64 (iogCG x0 x1)
        | 7 => ∃ (p : Nat) (sa : Option Addr) (sc : Nat), v = .pointer (some ⟨p, 0, none⟩) ∧ w4.heap.size ≤ p ∧ w'.cell? ⟨p, 0, none⟩ = some (.slice sa (iogXG x0 x1).length sc) ∧ BoxT w' p 30 ∧ rInk.own w4.heap.size w'.heap.size w' (.agg #[.slice sa (iogXG x0 x1).length sc]) (iogXG x0 x1)
        | 8 => True
        | _ => v = .int .i64 (iogCG x0 x1)) (by kernel_rfl) (by kernel_rfl) (by kernel_rfl) (by kernel_rfl) ?_ ?_ ?_ ?_ (by decide) ?_
    · intro i v w w' h hb
      match i, h with
      | 0, h => exact h
      | 1, h => exact h
      | 2, h => exact h
      | 3, ⟨u, hu, ho⟩ => exact ⟨u, hu, rInk.own_now ho hb⟩
      | 4, ⟨u, hu, ho⟩ => exact ⟨u, hu, rInk.own_now ho hb⟩
      | 5, h => exact rInk.own_now h hb
      | 6, h => exact h
      | 7, ⟨p, hp, hl, hc⟩ => exact ⟨p, hp, hl, (hb.block p (Array.getElem?_eq_some_iff.1 hc).1).trans hc⟩
      | 8, h => exact h
      | (m + 9), h => exact h
    · intro i v w w' h hb
      match i, h with
      | 0, h => exact h
      | 1, h => exact h
      | 2, h => exact h
      | 3, ⟨u, hu, ho⟩ => exact ⟨u, hu, ho⟩
      | 4, ⟨u, hu, ho⟩ => exact ⟨u, hu, ho⟩
      | 5, h => exact h
      | 6, h => exact h
      | 7, ⟨p, sa, sc, hp, hl, hc0, hk, ho⟩ => exact ⟨p, sa, sc, hp, hl, cell_later hb hc0, hk.below hb, rInk.own_now ho hb⟩
      | 8, h => exact h
      | (m + 9), h => exact h
    · refine ⟨?_, ?_, ?_, ?_, ?_, ?_, ?_, ?_, ?_, ?_, trivial⟩
      · refine .inr ⟨fun _ => ?_, stage_no (by kernel_rfl)⟩
        intro ρ w' hbw ht hcs hfn hgl hdep
        refine ⟨fun _ => ?_, fun h => by cases h⟩
        have s8 : ρ (.tmp 8) = .pointer (some ⟨w3.heap.size, 0, none⟩) := ht 8 rfl
        have c0 := cell_later hbw q5
        clear ht hdep
        go_simp
        exact ⟨Below.refl _ _, rfl⟩
      · refine .inr ⟨fun _ => ?_, stage_no (by kernel_rfl)⟩
        intro ρ w' hbw ht hcs hfn hgl hdep
        refine ⟨fun _ => ?_, fun h => by cases h⟩
        have s3 : ρ (.tmp 3) = .pointer (some ⟨w.heap.size + 1, 0, none⟩) := ht 3 rfl
        have c0 := cell_later hbw q2
        have c1 := cell_later hbw q3
        clear ht hdep
        go_simp
        exact ⟨Below.refl _ _, rfl⟩
      · refine .inr ⟨fun _ => ?_, stage_no (by kernel_rfl)⟩
        intro ρ w' hbw ht hcs hfn hgl hdep
        refine ⟨fun _ => ?_, fun h => by cases h⟩
        have s33 : ρ (.tmp 33) = .agg #[.int .i64 x1.frm, .int .i64 x1.to_] := hdep ⟨1, .data⟩ (by simp) rfl 33 rfl
        clear ht hdep
        go_simp
        exact (toGroup_any x1 w').mono fun e w'' ⟨he, hb⟩ => ⟨_, he, hb, rfl⟩
      · refine .inr ⟨fun _ => ?_, stage_no (by kernel_rfl)⟩
        intro ρ w' hbw ht hcs hfn hgl hdep
        refine ⟨fun _ => ?_, fun h => by cases h⟩
        have s32 : ρ (.tmp 32) = .agg #[.slice sb2 x0.length sd2] := hdep ⟨0, .data⟩ (by simp) rfl 32 rfl
        have s34 : ρ (.tmp 34) = .agg #[.int .i64 x1.frm, .int .i64 x1.to_] := hdep ⟨2, .data⟩ (by simp) rfl 34 rfl
        clear ht hdep
        go_simp
        exact (implInkOfGroup_any _ x0 x1 w' (rInk.own_at (rInk.own_below o2 hbw)) ok_x0 g0).mono fun e w'' ⟨u, he, ho, hb⟩ => ⟨_, he, hb, u, rfl, rInk.own_mono ho hbw.size (Nat.le_refl _)⟩
      · refine .inr ⟨fun _ => ?_, stage_no (by kernel_rfl)⟩
        intro ρ w' hbw ht hcs hfn hgl hdep
        refine ⟨fun _ => ?_, fun h => by cases h⟩
        obtain ⟨u35, s35, o35⟩ := hdep ⟨3, .data⟩ (by simp) rfl 35 rfl
        clear ht hdep
        go_simp
        exact ⟨Below.refl _ _, _, rfl, o35⟩
      · refine .inr ⟨fun _ => ?_, stage_no (by kernel_rfl)⟩
        intro ρ w' hbw ht hcs hfn hgl hdep
        refine ⟨fun _ => ?_, fun h => by cases h⟩
        obtain ⟨u31, s31, o31⟩ := hdep ⟨4, .data⟩ (by simp) rfl 31 rfl
        clear ht hdep
        go_simp
        exact ⟨Below.refl _ _, o31⟩
      · refine .inr ⟨fun _ => ?_, fun _ => ?_⟩
        · intro ρ w' hbw ht hcs hfn hgl hdep
          refine ⟨fun _ => ?_, fun h => by cases h⟩
          obtain ⟨u31, s31, o31⟩ := hdep ⟨4, .data⟩ (by simp) rfl 31 rfl
          clear ht hdep
          go_simp
          exact ⟨Below.refl _ _, rfl⟩
        · intro ρ w' hbw ht hcs hfn hgl hdep
          refine ⟨fun _ => ?_, fun h => by cases h⟩
          obtain ⟨u31, s31, o31⟩ := hdep ⟨4, .data⟩ (by simp) rfl 31 rfl
          clear ht hdep
          go_simp
          exact ⟨Below.refl _ _, rfl⟩
      · refine .inr ⟨fun _ => ?_, stage_no (by kernel_rfl)⟩
        intro ρ w' hbw ht hcs hfn hgl hdep
        refine ⟨fun _ => ?_, fun h => by cases h⟩
        clear ht hdep
        go_simp
        exact ⟨below_alloc _ _, _, rfl, hbw.size, heap_alloc_new _ _⟩
      · exact .inl rfl
      · refine .inr ⟨stage_no (by kernel_rfl), fun _ => ?_⟩
        intro ρ w' hbw ht hcs hfn hgl hdep
        refine ⟨fun _ => ?_, fun h => by cases h⟩
        have s37 : ρ (.tmp 37) = .int .i64 (iogCG x0 x1) := hdep ⟨6, .data⟩ (by simp) rfl 37 rfl
        clear ht hdep
        go_simp
        exact ⟨Below.refl _ _, rfl⟩
    · intro o ho
      obtain rfl := Option.some.inj ho
      refine ⟨rfl, fun ρ w' hbw ht hcs hdep => ?_⟩
      obtain ⟨pp, s9, hpl, hpc⟩ := hdep ⟨7, .data⟩ (by simp) rfl 9 rfl
      have ho := hdep ⟨5, .data⟩ (by simp) rfl 36 rfl
      clear hdep ht
      obtain ⟨sa, sc, hsh⟩ := shapeInk (rInk.own_at ho)
      have hcell0 : w'.cell? ⟨pp, 0, none⟩ = some (.slice none 0 0) := by rw [cell_of_row w' pp 0 _ _ _ hpc]; rfl
      have hfree : ∀ j, w'.frozen? ⟨pp, j, none⟩ = false := fun j => frozen_of_row w' pp j _ _ hpc
      refine ⟨(w'.setCell ⟨pp, 0, none⟩ (.slice sa (iogXG x0 x1).length sc)), ?_, ?_, trivial, ?_⟩
      · clear ho
        go_simp
      · exact (hbw.setCell (by simpa using hpl) _)
      · intro j v hj hv hrho
        match j, hj, hv, hrho with
        | 0, _, h, _ => exact h
        | 1, _, h, _ => exact h
        | 2, _, h, _ => exact h
        | 3, _, ⟨u, hu, _⟩, _ => exact ⟨u, hu, trivial⟩
        | 4, _, ⟨u, hu, _⟩, _ => exact ⟨u, hu, trivial⟩
        | 5, _, _, _ => exact trivial
        | 6, _, h, _ => exact h
        | 7, _, _, hr =>
          rw [hsh] at ho
          exact ⟨pp, sa, sc, (hr 9 rfl).trans s9, hpl, by simp [go_sem, hcell0], (BoxT.set ⟨_, _, hpc⟩), rInk.own_mono (rInk.own_set ho hpc rfl) (Nat.le_refl _) (by simp)⟩
        | 8, _, _, _ => exact trivial
        | 9, _, h, _ => exact h
        | (m + 10), hj, _, _ => exact absurd hj (by simp)
    · intro x w5 hb hx
      have hx0 : x 0 = .agg #[.slice sb2 x0.length sd2] := hx 0 (by simp)
      have hx1 : x 1 = .agg #[.int .i64 x1.frm, .int .i64 x1.to_] := hx 1 (by simp)
      have hx2 : x 2 = .agg #[.int .i64 x1.frm, .int .i64 x1.to_] := hx 2 (by simp)
      have hx6 : x 6 = .int .i64 (iogCG x0 x1) := hx 6 (by simp)
      have hx9 : x 9 = .int .i64 (iogCG x0 x1) := hx 9 (by simp)
      obtain ⟨pp7, sb3, sd3, hx7, hppl, hpc0, hppk, hppo⟩ := hx 7 (by simp)
      clear hx
      have z5 : w4.heap.size + 0 ≤ w5.heap.size := by have := hb.size; (try simp at this); omega
      replace a0 := rInk.at_below a0 hb
      replace o1 := rInk.own_below o1 hb
      replace o2 := rInk.own_below o2 hb
      replace q1 := cell_later hb q1
      replace q2 := cell_later hb q2
      replace q3 := cell_later hb q3
      replace q4 := cell_later hb q4
      replace q5 := cell_later hb q5
      replace kt5 := kt5.below hb
      replace yq1 := cell_lt q1
      replace yq2 := cell_lt q2
      replace yq4 := cell_lt q4
      replace yq5 := cell_lt q5
      replace hbase := baseB0 hbase hb
      clear hb
      simp only [putAll, Act.put, List.setIfInBounds_toArray, List.set_cons_succ, List.set_cons_zero, Nat.zero_add, Nat.reduceAdd, hx0, hx1, hx2, hx6, hx9, hx7]
      generalize x 3 = k7_3 at *
      generalize x 4 = k7_4 at *
      generalize x 5 = k7_5 at *
      clear hx0 hx1 hx2 hx6 hx9 hx7
      have o3 := hppo
      clear hppo
      have r7 := hppl
      clear hppl
      have rr7 : pp7 < w5.heap.size := cell_lt hpc0
      have kt7 := hppk
      clear hppk
      have q6 := hpc0
      clear hpc0
      have yq6 := cell_lt q6
      go_wp2_with fail
      refine (eqInk_any _ _ (iogXG x0 x1) _ (rInk.own_at o3) (rInk.own_at o1)).mono ?_
      rintro e w6 ⟨rfl, hb⟩
      have z6 : w5.heap.size + 0 ≤ w6.heap.size := by have := hb.size; (try simp at this); omega
      replace a0 := rInk.at_below a0 hb
      replace o1 := rInk.own_below o1 hb
      replace o2 := rInk.own_below o2 hb
      replace o3 := rInk.own_below o3 hb
      replace q1 := cell_later hb q1
      replace q2 := cell_later hb q2
      replace q3 := cell_later hb q3
      replace q4 := cell_later hb q4
      replace q5 := cell_later hb q5
      replace q6 := cell_later hb q6
      replace kt5 := kt5.below hb
      replace kt7 := kt7.below hb
      replace yq1 := cell_lt q1
      replace yq2 := cell_lt q2
      replace yq4 := cell_lt q4
      replace yq5 := cell_lt q5
      replace yq6 := cell_lt q6
      replace hbase := baseB0 hbase hb
      clear hb
      go_wp2_with fail
      refine wp_region_rel (fun i v w' => match i with
          | 0 => v = .agg #[.slice sb2 x0.length sd2]
          | 1 => v = .agg #[.slice sa0 x0.length sc0]
          | 2 => rInk.own w6.heap.size w'.heap.size w' v x0
          | 3 => v = .bool true
          | _ => v = .bool false) (by kernel_rfl) (by kernel_rfl) (by kernel_rfl) (by kernel_rfl) ?_ ?_ ?_
      · intro i v w w' h hb
        match i, h with
        | 0, h => exact h
        | 1, h => exact h
        | 2, h => exact rInk.own_now h hb
        | 3, h => exact h
        | (m + 4), h => exact h
      · refine ⟨?_, ?_, ?_, ?_, ?_, trivial⟩
        · intro ρ w' hbw ht hcs hfn hgl hdep
          refine ⟨fun _ => ?_, fun h => by cases h⟩
          have s8 : ρ (.tmp 8) = .pointer (some ⟨w3.heap.size, 0, none⟩) := ht 8 rfl
          have c0 := cell_later hbw q5
          clear ht hdep
          go_simp
          exact ⟨Below.refl _ _, rfl⟩
        · intro ρ w' hbw ht hcs hfn hgl hdep
          refine ⟨fun _ => ?_, fun h => by cases h⟩
          have s2 : ρ (.tmp 2) = .pointer (some ⟨w.heap.size, 0, none⟩) := ht 2 rfl
          have c0 := cell_later hbw q1
          clear ht hdep
          go_simp
          exact ⟨Below.refl _ _, rfl⟩
        · intro ρ w' hbw ht hcs hfn hgl hdep
          refine ⟨fun _ => ?_, fun h => by cases h⟩
          have s48 : ρ (.tmp 48) = .agg #[.slice sa0 x0.length sc0] := hdep ⟨1, .data⟩ (by simp) rfl 48 rfl
          clear ht hdep
          go_simp
          exact (toInk_any _ x0 w' (rInk.at_below a0 hbw) ok_x0).mono fun e w'' ⟨u, he, ho, hb⟩ => ⟨_, he, hb, rInk.own_mono ho hbw.size (Nat.le_refl _)⟩
        · intro ρ w' hbw ht hcs hfn hgl hdep
          refine ⟨fun _ => ?_, fun h => by cases h⟩
          have s47 : ρ (.tmp 47) = .agg #[.slice sb2 x0.length sd2] := hdep ⟨0, .data⟩ (by simp) rfl 47 rfl
          have o49 := hdep ⟨2, .data⟩ (by simp) rfl 49 rfl
          clear ht hdep
          go_simp
          exact (eqInk_any _ _ x0 w' (rInk.own_at (rInk.own_below o2 hbw)) (rInk.own_at o49)).mono fun e w'' ⟨he, hb⟩ => ⟨_, he, hb, rfl⟩
        · intro ρ w' hbw ht hcs hfn hgl hdep
          refine ⟨fun _ => ?_, fun h => by cases h⟩
          have s50 : ρ (.tmp 50) = .bool true := hdep ⟨3, .data⟩ (by simp) rfl 50 rfl
          clear ht hdep
          go_simp
          exact ⟨Below.refl _ _, rfl⟩
      · intro x w7 hb hx
        have hx0 : x 0 = .agg #[.slice sb2 x0.length sd2] := hx 0 (by simp)
        have hx1 : x 1 = .agg #[.slice sa0 x0.length sc0] := hx 1 (by simp)
        have hx2 := hx 2 (by simp)
        have hx3 : x 3 = .bool true := hx 3 (by simp)
        have hx4 : x 4 = .bool false := hx 4 (by simp)
        clear hx
        have z7 : w6.heap.size + 0 ≤ w7.heap.size := by have := hb.size; (try simp at this); omega
        replace a0 := rInk.at_below a0 hb
        replace o1 := rInk.own_below o1 hb
        replace o2 := rInk.own_below o2 hb
        replace o3 := rInk.own_below o3 hb
        replace q1 := cell_later hb q1
        replace q2 := cell_later hb q2
        replace q3 := cell_later hb q3
        replace q4 := cell_later hb q4
        replace q5 := cell_later hb q5
        replace q6 := cell_later hb q6
        replace kt5 := kt5.below hb
        replace kt7 := kt7.below hb
        replace yq1 := cell_lt q1
        replace yq2 := cell_lt q2
        replace yq4 := cell_lt q4
        replace yq5 := cell_lt q5
        replace yq6 := cell_lt q6
        replace hbase := baseB0 hbase hb
        clear hb
        simp only [putAll, Act.put, List.setIfInBounds_toArray, List.set_cons_succ, List.set_cons_zero, Nat.zero_add, Nat.reduceAdd, hx0, hx1, hx3, hx4]
        generalize x 2 = k10_2 at *
        clear hx0 hx1 hx3 hx4
        have o4 := hx2
        clear hx2
        obtain ⟨sb4, sd4, hsh4⟩ := shapeInk (rInk.own_at o4)
        subst hsh4
        go_wp2_with fail
        refine (markInk_any _ x0 _ _ (1) _ o2 ok_x0 (by omega) (by omega)).mono ?_
        rintro e w8 ⟨rfl, o2n, hc, hty⟩
        have z8 : w7.heap.size + 0 ≤ w8.heap.size := by have := hc.size; (try simp at this); omega
        replace a0 := rInk.at_chg a0 hc (by first | (left; omega) | (right; omega))
        replace o1 := rInk.own_chg o1 hc (by first | (left; omega) | (right; omega))
        replace o3 := rInk.own_chg o3 hc (by first | (left; omega) | (right; omega))
        replace o4 := rInk.own_chg o4 hc (by first | (left; omega) | (right; omega))
        replace q1 := chg_cell hc q1 (by first | (left; omega) | (right; omega))
        replace q2 := chg_cell hc q2 (by first | (left; omega) | (right; omega))
        replace q3 := chg_cell hc q3 (by first | (left; omega) | (right; omega))
        replace q4 := typed_cell hty kt5 rfl q4
        replace q5 := chg_cell hc q5 (by first | (left; omega) | (right; omega))
        replace q6 := typed_cell hty kt7 rfl q6
        replace kt5 := kt5.typed hty rfl
        replace kt7 := kt7.typed hty rfl
        replace yq1 := cell_lt q1
        replace yq2 := cell_lt q2
        replace yq4 := cell_lt q4
        replace yq5 := cell_lt q5
        replace yq6 := cell_lt q6
        replace hbase := below_chg hbase hc (by omega)
        clear hc
        clear hty
        clear o2
        have o2 := o2n
        clear o2n
        have cn8 : 0 ≤ cntInk x0 ∧ cntInk x0 ≤ 10000000 := cntInk_bd ok_x0
        go_wp2_with fail
        refine (eqInk_any _ _ (iogXG x0 x1) _ (rInk.own_at o3) (rInk.own_at o1)).mono ?_
        rintro e w9 ⟨rfl, hb⟩
        have z9 : w8.heap.size + 0 ≤ w9.heap.size := by have := hb.size; (try simp at this); omega
        replace a0 := rInk.at_below a0 hb
        replace o1 := rInk.own_below o1 hb
        replace o2 := rInk.own_below o2 hb
        replace o3 := rInk.own_below o3 hb
        replace o4 := rInk.own_below o4 hb
        replace q1 := cell_later hb q1
        replace q2 := cell_later hb q2
        replace q3 := cell_later hb q3
        replace q4 := cell_later hb q4
        replace q5 := cell_later hb q5
        replace q6 := cell_later hb q6
        replace kt5 := kt5.below hb
        replace kt7 := kt7.below hb
        replace yq1 := cell_lt q1
        replace yq2 := cell_lt q2
        replace yq4 := cell_lt q4
        replace yq5 := cell_lt q5
        replace yq6 := cell_lt q6
        replace hbase := baseB0 hbase hb
        clear hb
        go_wp2_with fail
        refine (markInk_any _ (iogXG x0 x1) _ _ (1) _ o3 (okInk_iogG ok_x0) (by omega) (by omega)).mono ?_
        rintro e w10 ⟨rfl, o3n, hc, hty⟩
        have z10 : w9.heap.size + 0 ≤ w10.heap.size := by have := hc.size; (try simp at this); omega
        replace a0 := rInk.at_chg a0 hc (by first | (left; omega) | (right; omega))
        replace o1 := rInk.own_chg o1 hc (by first | (left; omega) | (right; omega))
        replace o2 := rInk.own_chg o2 hc (by first | (left; omega) | (right; omega))
        replace o4 := rInk.own_chg o4 hc (by first | (left; omega) | (right; omega))
        replace q1 := chg_cell hc q1 (by first | (left; omega) | (right; omega))
        replace q2 := chg_cell hc q2 (by first | (left; omega) | (right; omega))
        replace q3 := chg_cell hc q3 (by first | (left; omega) | (right; omega))
        replace q4 := typed_cell hty kt5 rfl q4
        replace q5 := chg_cell hc q5 (by first | (left; omega) | (right; omega))
        replace q6 := typed_cell hty kt7 rfl q6
        replace kt5 := kt5.typed hty rfl
        replace kt7 := kt7.typed hty rfl
        replace yq1 := cell_lt q1
        replace yq2 := cell_lt q2
        replace yq4 := cell_lt q4
        replace yq5 := cell_lt q5
        replace yq6 := cell_lt q6
        replace hbase := below_chg hbase hc (by omega)
        clear hc
        clear hty
        clear o3
        have o3 := o3n
        clear o3n
        have cn10 : 0 ≤ cntInk (iogXG x0 x1) ∧ cntInk (iogXG x0 x1) ≤ 10000000 := cntInk_bd (okInk_iogG ok_x0)
        go_wp2_with fail
        refine (heldInk_any _ (iogXG x0 x1) (1) _ (rInk.own_at o3) (okInk_iogG ok_x0) (by omega) (by omega)).mono ?_
        rintro e w11 ⟨rfl, hb⟩
        have z11 : w10.heap.size + 0 ≤ w11.heap.size := by have := hb.size; (try simp at this); omega
        replace a0 := rInk.at_below a0 hb
        replace o1 := rInk.own_below o1 hb
        replace o2 := rInk.own_below o2 hb
        replace o3 := rInk.own_below o3 hb
        replace o4 := rInk.own_below o4 hb
        replace q1 := cell_later hb q1
        replace q2 := cell_later hb q2
        replace q3 := cell_later hb q3
        replace q4 := cell_later hb q4
        replace q5 := cell_later hb q5
        replace q6 := cell_later hb q6
        replace kt5 := kt5.below hb
        replace kt7 := kt7.below hb
        replace yq1 := cell_lt q1
        replace yq2 := cell_lt q2
        replace yq4 := cell_lt q4
        replace yq5 := cell_lt q5
        replace yq6 := cell_lt q6
        replace hbase := baseB0 hbase hb
        clear hb
        go_wp2_with fail
        refine wp_region_rel2 9 (fun i v w' => match i with
            | 0 => v = .agg #[.slice sa0 x0.length sc0]
            | 1 => rInk.own w11.heap.size w'.heap.size w' v x0
            | 2 => v = .agg #[.int .i64 x1.frm, .int .i64 x1.to_]
            | 3 => v = .agg #[.int .i64 x1.frm, .int .i64 x1.to_]
            | 4 => ∃ u, v = .tuple #[u, .int .i64 (iogCG x0 x1)] ∧ rInk.own w11.heap.size w'.heap.size w' u (iogXG x0 x1)
            | 5 => ∃ u, v = .tuple #[u, .int .i64 (iogCG x0 x1)] ∧ rInk.own w11.heap.size w'.heap.size w' u (iogXG x0 x1)
            | 6 => rInk.own w11.heap.size w'.heap.size w' v (iogXG x0 x1)
            | 7 => v = .int .i64 (iogCG x0 x1)
            | 8 => ∃ p, v = .pointer (some ⟨p, 0, none⟩) ∧ w11.heap.size ≤ p ∧ w'.heap[p]? = some (.cells #[.slice none 0 0] 30 (0, 0))
            | 9 => True
            | _ => v = .int .i64 (iogCG x0 x1))
          (fun i v w' => match i with
            | 0 => v = .agg #[.slice sa0 x0.length sc0]
            | 1 => True
            | 2 => v = .agg #[.int .i64 x1.frm, .int .i64 x1.to_]
            | 3 => v = .agg #[.int .i64 x1.frm, .int .i64 x1.to_]
            | 4 => ∃ u, v = .tuple #[u, .int .i64 (iogCG x0 x1)] ∧ True
            | 5 => ∃ u, v = .tuple #[u, .int .i64 (iogCG x0 x1)] ∧ True
            | 6 => True
            | 7 => v = .int .i64 (iogCG x0 x1)
            | 8 => ∃ (p : Nat) (sa : Option Addr) (sc : Nat), v = .pointer (some ⟨p, 0, none⟩) ∧ w11.heap.size ≤ p ∧ w'.cell? ⟨p, 0, none⟩ = some (.slice sa (iogXG x0 x1).length sc) ∧ BoxT w' p 30 ∧ rInk.own w11.heap.size w'.heap.size w' (.agg #[.slice sa (iogXG x0 x1).length sc]) (iogXG x0 x1)
            | 9 => True
            | _ => v = .int .i64 (iogCG x0 x1)) (by kernel_rfl) (by kernel_rfl) (by kernel_rfl) (by kernel_rfl) ?_ ?_ ?_ ?_ (by decide) ?_
        · intro i v w w' h hb
          match i, h with
          | 0, h => exact h
          | 1, h => exact rInk.own_now h hb
          | 2, h => exact h
          | 3, h => exact h
          | 4, ⟨u, hu, ho⟩ => exact ⟨u, hu, rInk.own_now ho hb⟩
          | 5, ⟨u, hu, ho⟩ => exact ⟨u, hu, rInk.own_now ho hb⟩
          | 6, h => exact rInk.own_now h hb
          | 7, h => exact h
          | 8, ⟨p, hp, hl, hc⟩ => exact ⟨p, hp, hl, (hb.block p (Array.getElem?_eq_some_iff.1 hc).1).trans hc⟩
          | 9, h => exact h
          | (m + 10), h => exact h
        · intro i v w w' h hb
          match i, h with
          | 0, h => exact h
          | 1, h => exact h
          | 2, h => exact h
          | 3, h => exact h
          | 4, ⟨u, hu, ho⟩ => exact ⟨u, hu, ho⟩
          | 5, ⟨u, hu, ho⟩ => exact ⟨u, hu, ho⟩
          | 6, h => exact h
          | 7, h => exact h
          | 8, ⟨p, sa, sc, hp, hl, hc0, hk, ho⟩ => exact ⟨p, sa, sc, hp, hl, cell_later hb hc0, hk.below hb, rInk.own_now ho hb⟩
          | 9, h => exact h
          | (m + 10), h => exact h
        · refine ⟨?_, ?_, ?_, ?_, ?_, ?_, ?_, ?_, ?_, ?_, ?_, trivial⟩
          · refine .inr ⟨fun _ => ?_, stage_no (by kernel_rfl)⟩
            intro ρ w' hbw ht hcs hfn hgl hdep
            refine ⟨fun _ => ?_, fun h => by cases h⟩
            have s2 : ρ (.tmp 2) = .pointer (some ⟨w.heap.size, 0, none⟩) := ht 2 rfl
            have c0 := cell_later hbw q1
            clear ht hdep
            go_simp
            exact ⟨Below.refl _ _, rfl⟩
          · refine .inr ⟨fun _ => ?_, stage_no (by kernel_rfl)⟩
            intro ρ w' hbw ht hcs hfn hgl hdep
            refine ⟨fun _ => ?_, fun h => by cases h⟩
            have s80 : ρ (.tmp 80) = .agg #[.slice sa0 x0.length sc0] := hdep ⟨0, .data⟩ (by simp) rfl 80 rfl
            clear ht hdep
            go_simp
            exact (toInk_any _ x0 w' (rInk.at_below a0 hbw) ok_x0).mono fun e w'' ⟨u, he, ho, hb⟩ => ⟨_, he, hb, rInk.own_mono ho hbw.size (Nat.le_refl _)⟩
          · refine .inr ⟨fun _ => ?_, stage_no (by kernel_rfl)⟩
            intro ρ w' hbw ht hcs hfn hgl hdep
            refine ⟨fun _ => ?_, fun h => by cases h⟩
            have s3 : ρ (.tmp 3) = .pointer (some ⟨w.heap.size + 1, 0, none⟩) := ht 3 rfl
            have c0 := cell_later hbw q2
            have c1 := cell_later hbw q3
            clear ht hdep
            go_simp
            exact ⟨Below.refl _ _, rfl⟩
          · refine .inr ⟨fun _ => ?_, stage_no (by kernel_rfl)⟩
            intro ρ w' hbw ht hcs hfn hgl hdep
            refine ⟨fun _ => ?_, fun h => by cases h⟩
            have s82 : ρ (.tmp 82) = .agg #[.int .i64 x1.frm, .int .i64 x1.to_] := hdep ⟨2, .data⟩ (by simp) rfl 82 rfl
            clear ht hdep
            go_simp
            exact (toGroup_any x1 w').mono fun e w'' ⟨he, hb⟩ => ⟨_, he, hb, rfl⟩
          · refine .inr ⟨fun _ => ?_, stage_no (by kernel_rfl)⟩
            intro ρ w' hbw ht hcs hfn hgl hdep
            refine ⟨fun _ => ?_, fun h => by cases h⟩
            have o81 := hdep ⟨1, .data⟩ (by simp) rfl 81 rfl
            have s83 : ρ (.tmp 83) = .agg #[.int .i64 x1.frm, .int .i64 x1.to_] := hdep ⟨3, .data⟩ (by simp) rfl 83 rfl
            clear ht hdep
            go_simp
            exact (implInkOfGroup_any _ x0 x1 w' (rInk.own_at o81) ok_x0 g0).mono fun e w'' ⟨u, he, ho, hb⟩ => ⟨_, he, hb, u, rfl, rInk.own_mono ho hbw.size (Nat.le_refl _)⟩
          · refine .inr ⟨fun _ => ?_, stage_no (by kernel_rfl)⟩
            intro ρ w' hbw ht hcs hfn hgl hdep
            refine ⟨fun _ => ?_, fun h => by cases h⟩
            obtain ⟨u84, s84, o84⟩ := hdep ⟨4, .data⟩ (by simp) rfl 84 rfl
            clear ht hdep
            go_simp
            exact ⟨Below.refl _ _, _, rfl, o84⟩
          · refine .inr ⟨fun _ => ?_, stage_no (by kernel_rfl)⟩
            intro ρ w' hbw ht hcs hfn hgl hdep
            refine ⟨fun _ => ?_, fun h => by cases h⟩
            obtain ⟨u79, s79, o79⟩ := hdep ⟨5, .data⟩ (by simp) rfl 79 rfl
            clear ht hdep
            go_simp
            exact ⟨Below.refl _ _, o79⟩
          · refine .inr ⟨fun _ => ?_, fun _ => ?_⟩
            · intro ρ w' hbw ht hcs hfn hgl hdep
              refine ⟨fun _ => ?_, fun h => by cases h⟩
              obtain ⟨u79, s79, o79⟩ := hdep ⟨5, .data⟩ (by simp) rfl 79 rfl
              clear ht hdep
              go_simp
              exact ⟨Below.refl _ _, rfl⟩
            · intro ρ w' hbw ht hcs hfn hgl hdep
              refine ⟨fun _ => ?_, fun h => by cases h⟩
              obtain ⟨u79, s79, o79⟩ := hdep ⟨5, .data⟩ (by simp) rfl 79 rfl
              clear ht hdep
              go_simp
              exact ⟨Below.refl _ _, rfl⟩
          · refine .inr ⟨fun _ => ?_, stage_no (by kernel_rfl)⟩
            intro ρ w' hbw ht hcs hfn hgl hdep
            refine ⟨fun _ => ?_, fun h => by cases h⟩
            clear ht hdep
            go_simp
            exact ⟨below_alloc _ _, _, rfl, hbw.size, heap_alloc_new _ _⟩
          · exact .inl rfl
          · refine .inr ⟨stage_no (by kernel_rfl), fun _ => ?_⟩
            intro ρ w' hbw ht hcs hfn hgl hdep
            refine ⟨fun _ => ?_, fun h => by cases h⟩
            have s86 : ρ (.tmp 86) = .int .i64 (iogCG x0 x1) := hdep ⟨7, .data⟩ (by simp) rfl 86 rfl
            clear ht hdep
            go_simp
            exact ⟨Below.refl _ _, rfl⟩
        · intro o ho
          obtain rfl := Option.some.inj ho
          refine ⟨rfl, fun ρ w' hbw ht hcs hdep => ?_⟩
          obtain ⟨pp, s14, hpl, hpc⟩ := hdep ⟨8, .data⟩ (by simp) rfl 14 rfl
          have ho := hdep ⟨6, .data⟩ (by simp) rfl 85 rfl
          clear hdep ht
          obtain ⟨sa, sc, hsh⟩ := shapeInk (rInk.own_at ho)
          have hcell0 : w'.cell? ⟨pp, 0, none⟩ = some (.slice none 0 0) := by rw [cell_of_row w' pp 0 _ _ _ hpc]; rfl
          have hfree : ∀ j, w'.frozen? ⟨pp, j, none⟩ = false := fun j => frozen_of_row w' pp j _ _ hpc
          refine ⟨(w'.setCell ⟨pp, 0, none⟩ (.slice sa (iogXG x0 x1).length sc)), ?_, ?_, trivial, ?_⟩
          · clear ho
            go_simp
          · exact (hbw.setCell (by simpa using hpl) _)
          · intro j v hj hv hrho
            match j, hj, hv, hrho with
            | 0, _, h, _ => exact h
            | 1, _, _, _ => exact trivial
            | 2, _, h, _ => exact h
            | 3, _, h, _ => exact h
            | 4, _, ⟨u, hu, _⟩, _ => exact ⟨u, hu, trivial⟩
            | 5, _, ⟨u, hu, _⟩, _ => exact ⟨u, hu, trivial⟩
            | 6, _, _, _ => exact trivial
            | 7, _, h, _ => exact h
            | 8, _, _, hr =>
              rw [hsh] at ho
              exact ⟨pp, sa, sc, (hr 14 rfl).trans s14, hpl, by simp [go_sem, hcell0], (BoxT.set ⟨_, _, hpc⟩), rInk.own_mono (rInk.own_set ho hpc rfl) (Nat.le_refl _) (by simp)⟩
            | 9, _, _, _ => exact trivial
            | 10, _, h, _ => exact h
            | (m + 11), hj, _, _ => exact absurd hj (by simp)
        · intro x w12 hb hx
          have hx0 : x 0 = .agg #[.slice sa0 x0.length sc0] := hx 0 (by simp)
          have hx2 : x 2 = .agg #[.int .i64 x1.frm, .int .i64 x1.to_] := hx 2 (by simp)
          have hx3 : x 3 = .agg #[.int .i64 x1.frm, .int .i64 x1.to_] := hx 3 (by simp)
          have hx7 : x 7 = .int .i64 (iogCG x0 x1) := hx 7 (by simp)
          have hx10 : x 10 = .int .i64 (iogCG x0 x1) := hx 10 (by simp)
          obtain ⟨pp24, sb5, sd5, hx8, hppl, hpc0, hppk, hppo⟩ := hx 8 (by simp)
          clear hx
          have z12 : w11.heap.size + 0 ≤ w12.heap.size := by have := hb.size; (try simp at this); omega
          replace a0 := rInk.at_below a0 hb
          replace o1 := rInk.own_below o1 hb
          replace o2 := rInk.own_below o2 hb
          replace o3 := rInk.own_below o3 hb
          replace o4 := rInk.own_below o4 hb
          replace q1 := cell_later hb q1
          replace q2 := cell_later hb q2
          replace q3 := cell_later hb q3
          replace q4 := cell_later hb q4
          replace q5 := cell_later hb q5
          replace q6 := cell_later hb q6
          replace kt5 := kt5.below hb
          replace kt7 := kt7.below hb
          replace yq1 := cell_lt q1
          replace yq2 := cell_lt q2
          replace yq4 := cell_lt q4
          replace yq5 := cell_lt q5
          replace yq6 := cell_lt q6
          replace hbase := baseB0 hbase hb
          clear hb
          simp only [putAll, Act.put, List.setIfInBounds_toArray, List.set_cons_succ, List.set_cons_zero, Nat.zero_add, Nat.reduceAdd, hx0, hx2, hx3, hx7, hx10, hx8]
          generalize x 1 = k24_1 at *
          generalize x 4 = k24_4 at *
          generalize x 5 = k24_5 at *
          generalize x 6 = k24_6 at *
          clear hx0 hx2 hx3 hx7 hx10 hx8
          have o5 := hppo
          clear hppo
          have r24 := hppl
          clear hppl
          have rr24 : pp24 < w12.heap.size := cell_lt hpc0
          have kt24 := hppk
          clear hppk
          have q7 := hpc0
          clear hpc0
          have yq7 := cell_lt q7
          go_wp2_with fail
          refine (eqInk_any _ _ (iogXG x0 x1) _ (rInk.own_at o5) (rInk.own_at o1)).mono ?_
          rintro e w13 ⟨rfl, hb⟩
          have z13 : w12.heap.size + 0 ≤ w13.heap.size := by have := hb.size; (try simp at this); omega
          replace a0 := rInk.at_below a0 hb
          replace o1 := rInk.own_below o1 hb
          replace o2 := rInk.own_below o2 hb
          replace o3 := rInk.own_below o3 hb
          replace o4 := rInk.own_below o4 hb
          replace o5 := rInk.own_below o5 hb
          replace q1 := cell_later hb q1
          replace q2 := cell_later hb q2
          replace q3 := cell_later hb q3
          replace q4 := cell_later hb q4
          replace q5 := cell_later hb q5
          replace q6 := cell_later hb q6
          replace q7 := cell_later hb q7
          replace kt5 := kt5.below hb
          replace kt7 := kt7.below hb
          replace kt24 := kt24.below hb
          replace yq1 := cell_lt q1
          replace yq2 := cell_lt q2
          replace yq4 := cell_lt q4
          replace yq5 := cell_lt q5
          replace yq6 := cell_lt q6
          replace yq7 := cell_lt q7
          replace hbase := baseB0 hbase hb
          clear hb
          go_wp2_with fail
          refine (heldInk_any _ (iogXG x0 x1) (1) _ (rInk.own_at o3) (okInk_iogG ok_x0) (by omega) (by omega)).mono ?_
          rintro e w14 ⟨rfl, hb⟩
          have z14 : w13.heap.size + 0 ≤ w14.heap.size := by have := hb.size; (try simp at this); omega
          replace a0 := rInk.at_below a0 hb
          replace o1 := rInk.own_below o1 hb
          replace o2 := rInk.own_below o2 hb
          replace o3 := rInk.own_below o3 hb
          replace o4 := rInk.own_below o4 hb
          replace o5 := rInk.own_below o5 hb
          replace q1 := cell_later hb q1
          replace q2 := cell_later hb q2
          replace q3 := cell_later hb q3
          replace q4 := cell_later hb q4
          replace q5 := cell_later hb q5
          replace q6 := cell_later hb q6
          replace q7 := cell_later hb q7
          replace kt5 := kt5.below hb
          replace kt7 := kt7.below hb
          replace kt24 := kt24.below hb
          replace yq1 := cell_lt q1
          replace yq2 := cell_lt q2
          replace yq4 := cell_lt q4
          replace yq5 := cell_lt q5
          replace yq6 := cell_lt q6
          replace yq7 := cell_lt q7
          replace hbase := baseB0 hbase hb
          clear hb
          go_wp2_with fail
          go_ret
          exact ret_bool rfl hbase
end Go.Proofs.Ytdadmphmpojjhaa
