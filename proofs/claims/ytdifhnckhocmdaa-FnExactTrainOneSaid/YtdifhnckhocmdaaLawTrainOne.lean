/- The walk of the law FnExactTrainOne: for every argument it returns true and leaves what was there. -/
import Derived.Test.YtdifhnckhocmdaaReg
import Derived.Test.YtdifhnckhocmdaaRep
import Derived.Test.YtdifhnckhocmdaaWrPcp
import Derived.Test.YtdifhnckhocmdaaPcOpen
import Derived.Test.YtdifhnckhocmdaaPcOpenS
import Derived.Test.YtdifhnckhocmdaaPcSmpM
import Derived.Test.YtdifhnckhocmdaaPcAllI
import Derived.Test.YtdifhnckhocmdaaPcAllS
import Derived.Test.YtdifhnckhocmdaaPcBd
namespace Go.Proofs.Ytdifhnckhocmdaa
open Go.RowKit

set_option maxHeartbeats 4000000 in
theorem lawTrainOne (v0 : Value) (x0 : XPerceptron) (v1 : Value) (x1 : XSample) (w : World) (a0 : rPerceptron.at_ 0 w.heap.size w v0 x0) (g0 : goodPerceptron x0) (a1 : rSample.at_ 0 w.heap.size w v1 x1) (g1 : goodSample x1) :
    Calls Try.prog 8 #[v0, v1] w (Ret (.bool true) w) := by
  obtain ⟨sa0, sc0, rfl⟩ := shapePerceptron a0
  obtain ⟨sa1, sc1, rfl⟩ := shapeSample a1
  have hbase : Below w.heap.size w w := Below.refl _ _
  go_enter Try.func8, Try.ntmps8
  go_wp2_with fail
  refine (szPerceptron_any _ x0 (1048576) _ (rPerceptron.at_alloc (rPerceptron.at_alloc a0 _) _) g0 (by omega) (by omega)).mono ?_
  rintro e w1 ⟨rfl, hb⟩
  have z1 : w.heap.size + 2 ≤ w1.heap.size := by have := hb.size; (try simp at this); omega
  replace a0 := rPerceptron.at_below (rPerceptron.at_alloc (rPerceptron.at_alloc a0 _) _) hb
  replace a1 := rSample.at_below (rSample.at_alloc (rSample.at_alloc a1 _) _) hb
  have q1 : w1.cell? ⟨w.heap.size, 0, none⟩ = some (.slice sa0.1 x0.1.length sc0.1) := cell_later hb (by simp)
  have q2 : w1.cell? ⟨w.heap.size, 1, none⟩ = some (.slice sa0.2 x0.2.length sc0.2) := cell_later hb (by simp)
  have q3 : w1.cell? ⟨w.heap.size + 1, 0, none⟩ = some (.string x1.1) := cell_later hb (by simp)
  have q4 : w1.cell? ⟨w.heap.size + 1, 1, none⟩ = some (.slice sa1 x1.2.length sc1) := cell_later hb (by simp)
  have yq1 := cell_lt q1
  have yq3 := cell_lt q3
  replace hbase := baseB2 hbase hb
  clear hb
  by_cases hszx0 : (1048576 : Int) < (sizePerceptron x0 : Nat)
  · rw [szOf_neg hszx0]
    go_wp2_with fail
    go_ret
    exact ret_bool rfl hbase
  rw [szOf_pos (by omega)]
  have ok_x0 : okPerceptron x0 := okPerceptron_of (by omega)
  go_wp2_with fail
  refine (szSample_any _ x1 (1048576 - (sizePerceptron x0 : Nat)) _ a1 g1 (by omega) (by omega)).mono ?_
  rintro e w2 ⟨rfl, hb⟩
  have z2 : w1.heap.size + 0 ≤ w2.heap.size := by have := hb.size; (try simp at this); omega
  replace a0 := rPerceptron.at_below a0 hb
  replace a1 := rSample.at_below a1 hb
  replace q1 := cell_later hb q1
  replace q2 := cell_later hb q2
  replace q3 := cell_later hb q3
  replace q4 := cell_later hb q4
  replace yq1 := cell_lt q1
  replace yq3 := cell_lt q3
  replace hbase := baseB0 hbase hb
  clear hb
  by_cases hszx1 : (1048576 - (sizePerceptron x0 : Nat) : Int) < (sizeSample x1 : Nat)
  · rw [szOf_neg hszx1]
    go_wp2_with fail
    go_ret
    exact ret_bool rfl hbase
  rw [szOf_pos (by omega)]
  have ok_x1 : okSample x1 := okSample_of (by omega)
  go_wp2_with fail
  refine wp_region_rel2 10 (fun i v w' => match i with
      | 0 => v = .agg #[.slice sa0.1 x0.1.length sc0.1, .slice sa0.2 x0.2.length sc0.2]
      | 1 => rPerceptron.own w2.heap.size w'.heap.size w' v x0
      | 2 => v = .agg #[.string x1.1, .slice sa1 x1.2.length sc1]
      | 3 => rSample.own w2.heap.size w'.heap.size w' v x1
      | 4 => ∃ u, v = .tuple #[u, .bool (oneB x0 x1), .int .i64 (oneC x0 x1)] ∧ rPerceptron.own w2.heap.size w'.heap.size w' u (oneX x0 x1)
      | 5 => ∃ u, v = .tuple #[u, .bool (oneB x0 x1), .int .i64 (oneC x0 x1)] ∧ rPerceptron.own w2.heap.size w'.heap.size w' u (oneX x0 x1)
      | 6 => rPerceptron.own w2.heap.size w'.heap.size w' v (oneX x0 x1)
      | 7 => v = .bool (oneB x0 x1)
      | 8 => v = .int .i64 (oneC x0 x1)
      | 9 => ∃ p, v = .pointer (some ⟨p, 0, none⟩) ∧ w2.heap.size ≤ p ∧ w'.heap[p]? = some (.cells #[.slice none 0 0, .slice none 0 0] 28 (0, 0))
      | 10 => True
      | 11 => v = .bool (oneB x0 x1)
      | _ => v = .int .i64 (oneC x0 x1))
    (fun i v w' => match i with
      | 0 => v = .agg #[.slice sa0.1 x0.1.length sc0.1, .slice sa0.2 x0.2.length sc0.2]
      | 1 => True
      | 2 => v = .agg #[.string x1.1, .slice sa1 x1.2.length sc1]
      | 3 => True
      | 4 => ∃ u, v = .tuple #[u, .bool (oneB x0 x1), .int .i64 (oneC x0 x1)] ∧ True
      | 5 => ∃ u, v = .tuple #[u, .bool (oneB x0 x1), .int .i64 (oneC x0 x1)] ∧ True
      | 6 => True
      | 7 => v = .bool (oneB x0 x1)
      | 8 => v = .int .i64 (oneC x0 x1)
      | 9 => ∃ (p : Nat) (sa : Option Addr × Option Addr) (sc : Nat × Nat), v = .pointer (some ⟨p, 0, none⟩) ∧ w2.heap.size ≤ p ∧ w'.cell? ⟨p, 0, none⟩ = some (.slice sa.1 (oneX x0 x1).1.length sc.1) ∧ w'.cell? ⟨p, 1, none⟩ = some (.slice sa.2 (oneX x0 x1).2.length sc.2) ∧ BoxT w' p 28 ∧ rPerceptron.own w2.heap.size w'.heap.size w' (.agg #[.slice sa.1 (oneX x0 x1).1.length sc.1, .slice sa.2 (oneX x0 x1).2.length sc.2]) (oneX x0 x1)
      | 10 => True
      | 11 => v = .bool (oneB x0 x1)
      | _ => v = .int .i64 (oneC x0 x1)) (by kernel_rfl) (by kernel_rfl) (by kernel_rfl) (by kernel_rfl) ?_ ?_ ?_ ?_ (by decide) ?_
  · intro i v w w' h hb
    match i, h with
    | 0, h => exact h
    | 1, h => exact rPerceptron.own_now h hb
    | 2, h => exact h
    | 3, h => exact rSample.own_now h hb
    | 4, ⟨u, hu, ho⟩ => exact ⟨u, hu, rPerceptron.own_now ho hb⟩
    | 5, ⟨u, hu, ho⟩ => exact ⟨u, hu, rPerceptron.own_now ho hb⟩
    | 6, h => exact rPerceptron.own_now h hb
    | 7, h => exact h
    | 8, h => exact h
    | 9, ⟨p, hp, hl, hc⟩ => exact ⟨p, hp, hl, (hb.block p (Array.getElem?_eq_some_iff.1 hc).1).trans hc⟩
    | 10, h => exact h
    | 11, h => exact h
    | (m + 12), h => exact h
  · intro i v w w' h hb
    match i, h with
    | 0, h => exact h
    | 1, h => exact h
    | 2, h => exact h
    | 3, h => exact h
    | 4, ⟨u, hu, ho⟩ => exact ⟨u, hu, ho⟩
    | 5, ⟨u, hu, ho⟩ => exact ⟨u, hu, ho⟩
    | 6, h => exact h
    | 7, h => exact h
    | 8, h => exact h
    | 9, ⟨p, sa, sc, hp, hl, hc0, hc1, hk, ho⟩ => exact ⟨p, sa, sc, hp, hl, cell_later hb hc0, cell_later hb hc1, hk.below hb, rPerceptron.own_now ho hb⟩
    | 10, h => exact h
    | 11, h => exact h
    | (m + 12), h => exact h
  · refine ⟨?_, ?_, ?_, ?_, ?_, ?_, ?_, ?_, ?_, ?_, ?_, ?_, ?_, trivial⟩
    · refine .inr ⟨fun _ => ?_, stage_no (by kernel_rfl)⟩
      intro ρ w' hbw ht hcs hfn hgl hdep
      refine ⟨fun _ => ?_, fun h => by cases h⟩
      have s2 : ρ (.tmp 2) = .pointer (some ⟨w.heap.size, 0, none⟩) := ht 2 rfl
      have c0 := cell_later hbw q1
      have c1 := cell_later hbw q2
      clear ht hdep
      go_simp
      exact ⟨Below.refl _ _, rfl⟩
    · refine .inr ⟨fun _ => ?_, stage_no (by kernel_rfl)⟩
      intro ρ w' hbw ht hcs hfn hgl hdep
      refine ⟨fun _ => ?_, fun h => by cases h⟩
      have s31 : ρ (.tmp 31) = .agg #[.slice sa0.1 x0.1.length sc0.1, .slice sa0.2 x0.2.length sc0.2] := hdep ⟨0, .data⟩ (by simp) rfl 31 rfl
      clear ht hdep
      go_simp
      exact (toPerceptron_any _ x0 w' (rPerceptron.at_below a0 hbw) ok_x0).mono fun e w'' ⟨u, he, ho, hb⟩ => ⟨_, he, hb, rPerceptron.own_mono ho hbw.size (Nat.le_refl _)⟩
    · refine .inr ⟨fun _ => ?_, stage_no (by kernel_rfl)⟩
      intro ρ w' hbw ht hcs hfn hgl hdep
      refine ⟨fun _ => ?_, fun h => by cases h⟩
      have s3 : ρ (.tmp 3) = .pointer (some ⟨w.heap.size + 1, 0, none⟩) := ht 3 rfl
      have c0 := cell_later hbw q3
      have c1 := cell_later hbw q4
      clear ht hdep
      go_simp
      exact ⟨Below.refl _ _, rfl⟩
    · refine .inr ⟨fun _ => ?_, stage_no (by kernel_rfl)⟩
      intro ρ w' hbw ht hcs hfn hgl hdep
      refine ⟨fun _ => ?_, fun h => by cases h⟩
      have s33 : ρ (.tmp 33) = .agg #[.string x1.1, .slice sa1 x1.2.length sc1] := hdep ⟨2, .data⟩ (by simp) rfl 33 rfl
      clear ht hdep
      go_simp
      exact (toSample_any _ x1 w' (rSample.at_below a1 hbw) ok_x1).mono fun e w'' ⟨u, he, ho, hb⟩ => ⟨_, he, hb, rSample.own_mono ho hbw.size (Nat.le_refl _)⟩
    · refine .inr ⟨fun _ => ?_, stage_no (by kernel_rfl)⟩
      intro ρ w' hbw ht hcs hfn hgl hdep
      refine ⟨fun _ => ?_, fun h => by cases h⟩
      have o32 := hdep ⟨1, .data⟩ (by simp) rfl 32 rfl
      have o34 := hdep ⟨3, .data⟩ (by simp) rfl 34 rfl
      clear ht hdep
      go_simp
      exact (specTrainOne_any _ x0 _ x1 w' (rPerceptron.own_at o32) (rSample.own_at o34) ok_x0 ok_x1 g0 g1).mono fun e w'' ⟨u, he, ho, hb⟩ => ⟨_, he, hb, u, rfl, rPerceptron.own_mono ho hbw.size (Nat.le_refl _)⟩
    · refine .inr ⟨fun _ => ?_, stage_no (by kernel_rfl)⟩
      intro ρ w' hbw ht hcs hfn hgl hdep
      refine ⟨fun _ => ?_, fun h => by cases h⟩
      obtain ⟨u35, s35, o35⟩ := hdep ⟨4, .data⟩ (by simp) rfl 35 rfl
      clear ht hdep
      go_simp
      exact ⟨Below.refl _ _, _, rfl, o35⟩
    · refine .inr ⟨fun _ => ?_, stage_no (by kernel_rfl)⟩
      intro ρ w' hbw ht hcs hfn hgl hdep
      refine ⟨fun _ => ?_, fun h => by cases h⟩
      obtain ⟨u30, s30, o30⟩ := hdep ⟨5, .data⟩ (by simp) rfl 30 rfl
      clear ht hdep
      go_simp
      exact ⟨Below.refl _ _, o30⟩
    · refine .inr ⟨fun _ => ?_, fun _ => ?_⟩
      · intro ρ w' hbw ht hcs hfn hgl hdep
        refine ⟨fun _ => ?_, fun h => by cases h⟩
        obtain ⟨u30, s30, o30⟩ := hdep ⟨5, .data⟩ (by simp) rfl 30 rfl
        clear ht hdep
        go_simp
        exact ⟨Below.refl _ _, rfl⟩
      · intro ρ w' hbw ht hcs hfn hgl hdep
        refine ⟨fun _ => ?_, fun h => by cases h⟩
        obtain ⟨u30, s30, o30⟩ := hdep ⟨5, .data⟩ (by simp) rfl 30 rfl
        clear ht hdep
        go_simp
        exact ⟨Below.refl _ _, rfl⟩
    · refine .inr ⟨fun _ => ?_, fun _ => ?_⟩
      · intro ρ w' hbw ht hcs hfn hgl hdep
        refine ⟨fun _ => ?_, fun h => by cases h⟩
        obtain ⟨u30, s30, o30⟩ := hdep ⟨5, .data⟩ (by simp) rfl 30 rfl
        clear ht hdep
        go_simp
        exact ⟨Below.refl _ _, rfl⟩
      · intro ρ w' hbw ht hcs hfn hgl hdep
        refine ⟨fun _ => ?_, fun h => by cases h⟩
        obtain ⟨u30, s30, o30⟩ := hdep ⟨5, .data⟩ (by simp) rfl 30 rfl
        clear ht hdep
        go_simp
        exact ⟨Below.refl _ _, rfl⟩
    · refine .inr ⟨fun _ => ?_, stage_no (by kernel_rfl)⟩
      intro ρ w' hbw ht hcs hfn hgl hdep
      refine ⟨fun _ => ?_, fun h => by cases h⟩
      clear ht hdep
      go_simp
      exact ⟨below_alloc _ _, _, rfl, hbw.size, heap_alloc_new _ _⟩
    · exact .inl rfl
    · refine .inr ⟨stage_no (by kernel_rfl), fun _ => ?_⟩
      intro ρ w' hbw ht hcs hfn hgl hdep
      refine ⟨fun _ => ?_, fun h => by cases h⟩
      have s37 : ρ (.tmp 37) = .bool (oneB x0 x1) := hdep ⟨7, .data⟩ (by simp) rfl 37 rfl
      clear ht hdep
      go_simp
      exact ⟨Below.refl _ _, rfl⟩
    · refine .inr ⟨stage_no (by kernel_rfl), fun _ => ?_⟩
      intro ρ w' hbw ht hcs hfn hgl hdep
      refine ⟨fun _ => ?_, fun h => by cases h⟩
      have s38 : ρ (.tmp 38) = .int .i64 (oneC x0 x1) := hdep ⟨8, .data⟩ (by simp) rfl 38 rfl
      clear ht hdep
      go_simp
      exact ⟨Below.refl _ _, rfl⟩
  · intro o ho
    obtain rfl := Option.some.inj ho
    refine ⟨rfl, fun ρ w' hbw ht hcs hdep => ?_⟩
    obtain ⟨pp, s6, hpl, hpc⟩ := hdep ⟨9, .data⟩ (by simp) rfl 6 rfl
    have ho := hdep ⟨6, .data⟩ (by simp) rfl 36 rfl
    clear hdep ht
    obtain ⟨sa, sc, hsh⟩ := shapePerceptron (rPerceptron.own_at ho)
    have hcell0 : w'.cell? ⟨pp, 0, none⟩ = some (.slice none 0 0) := by rw [cell_of_row w' pp 0 _ _ _ hpc]; rfl
    have hcell1 : w'.cell? ⟨pp, 1, none⟩ = some (.slice none 0 0) := by rw [cell_of_row w' pp 1 _ _ _ hpc]; rfl
    have hfree : ∀ j, w'.frozen? ⟨pp, j, none⟩ = false := fun j => frozen_of_row w' pp j _ _ hpc
    refine ⟨((w'.setCell ⟨pp, 0, none⟩ (.slice sa.1 (oneX x0 x1).1.length sc.1)).setCell ⟨pp, 1, none⟩ (.slice sa.2 (oneX x0 x1).2.length sc.2)), ?_, ?_, trivial, ?_⟩
    · clear ho
      go_simp
    · exact ((hbw.setCell (by simpa using hpl) _).setCell (by simpa using hpl) _)
    · intro j v hj hv hrho
      match j, hj, hv, hrho with
      | 0, _, h, _ => exact h
      | 1, _, _, _ => exact trivial
      | 2, _, h, _ => exact h
      | 3, _, _, _ => exact trivial
      | 4, _, ⟨u, hu, _⟩, _ => exact ⟨u, hu, trivial⟩
      | 5, _, ⟨u, hu, _⟩, _ => exact ⟨u, hu, trivial⟩
      | 6, _, _, _ => exact trivial
      | 7, _, h, _ => exact h
      | 8, _, h, _ => exact h
      | 9, _, _, hr =>
        rw [hsh] at ho
        exact ⟨pp, sa, sc, (hr 6 rfl).trans s6, hpl, by simp [go_sem, hcell0], by simp [go_sem, hcell1], (BoxT.set (BoxT.set ⟨_, _, hpc⟩)), rPerceptron.own_mono (rPerceptron.own_set (rPerceptron.own_set ho hpc rfl) (heap_setCell_same _ pp 0 _ _ (.slice sa.1 (oneX x0 x1).1.length sc.1) hpc) rfl) (Nat.le_refl _) (by simp)⟩
      | 10, _, _, _ => exact trivial
      | 11, _, h, _ => exact h
      | 12, _, h, _ => exact h
      | (m + 13), hj, _, _ => exact absurd hj (by simp)
  · intro x w3 hb hx
    have hx0 : x 0 = .agg #[.slice sa0.1 x0.1.length sc0.1, .slice sa0.2 x0.2.length sc0.2] := hx 0 (by simp)
    have hx2 : x 2 = .agg #[.string x1.1, .slice sa1 x1.2.length sc1] := hx 2 (by simp)
    have hx7 : x 7 = .bool (oneB x0 x1) := hx 7 (by simp)
    have hx8 : x 8 = .int .i64 (oneC x0 x1) := hx 8 (by simp)
    have hx11 : x 11 = .bool (oneB x0 x1) := hx 11 (by simp)
    have hx12 : x 12 = .int .i64 (oneC x0 x1) := hx 12 (by simp)
    obtain ⟨pp8, sb1, sd1, hx9, hppl, hpc0, hpc1, hppk, hppo⟩ := hx 9 (by simp)
    clear hx
    have z3 : w2.heap.size + 0 ≤ w3.heap.size := by have := hb.size; (try simp at this); omega
    replace a0 := rPerceptron.at_below a0 hb
    replace a1 := rSample.at_below a1 hb
    replace q1 := cell_later hb q1
    replace q2 := cell_later hb q2
    replace q3 := cell_later hb q3
    replace q4 := cell_later hb q4
    replace yq1 := cell_lt q1
    replace yq3 := cell_lt q3
    replace hbase := baseB0 hbase hb
    clear hb
    simp only [putAll, Act.put, List.setIfInBounds_toArray, List.set_cons_succ, List.set_cons_zero, Nat.zero_add, Nat.reduceAdd, hx0, hx2, hx7, hx8, hx11, hx12, hx9]
    generalize x 1 = k8_1 at *
    generalize x 3 = k8_3 at *
    generalize x 4 = k8_4 at *
    generalize x 5 = k8_5 at *
    generalize x 6 = k8_6 at *
    clear hx0 hx2 hx7 hx8 hx11 hx12 hx9
    have o1 := hppo
    clear hppo
    have r8 := hppl
    clear hppl
    have rr8 : pp8 < w3.heap.size := cell_lt hpc0
    have kt8 := hppk
    clear hppk
    have q5 := hpc0
    clear hpc0
    have q6 := hpc1
    clear hpc1
    have yq5 := cell_lt q5
    go_wp2_with fail
    refine (toPerceptron_any _ x0 _ a0 ok_x0).mono ?_
    rintro e w4 ⟨u2, rfl, o2, hb⟩
    obtain ⟨sb2, sd2, rfl⟩ := shapePerceptron (rPerceptron.own_at o2)
    have z4 : w3.heap.size + 0 ≤ w4.heap.size := by have := hb.size; (try simp at this); omega
    replace a0 := rPerceptron.at_below a0 hb
    replace a1 := rSample.at_below a1 hb
    replace o1 := rPerceptron.own_below o1 hb
    replace q1 := cell_later hb q1
    replace q2 := cell_later hb q2
    replace q3 := cell_later hb q3
    replace q4 := cell_later hb q4
    replace q5 := cell_later hb q5
    replace q6 := cell_later hb q6
    replace kt8 := kt8.below hb
    replace yq1 := cell_lt q1
    replace yq3 := cell_lt q3
    replace yq5 := cell_lt q5
    replace hbase := baseB0 hbase hb
    clear hb
    go_wp2_with fail
    refine (toSample_any _ x1 _ (rSample.at_alloc a1 _) ok_x1).mono ?_
    rintro e w5 ⟨u3, rfl, o3, hb⟩
    obtain ⟨sb3, sd3, rfl⟩ := shapeSample (rSample.own_at o3)
    replace o3 : rSample.own (w4.heap.size + 1) w5.heap.size w5 _ _ := rSample.own_mono o3 (by simp <;> omega) (Nat.le_refl _)
    have z5 : w4.heap.size + 1 ≤ w5.heap.size := by have := hb.size; (try simp at this); omega
    replace a0 := rPerceptron.at_below (rPerceptron.at_alloc a0 _) hb
    replace a1 := rSample.at_below (rSample.at_alloc a1 _) hb
    replace o1 := rPerceptron.own_below (rPerceptron.own_alloc o1 _) hb
    replace o2 := rPerceptron.own_below (rPerceptron.own_alloc o2 _) hb
    replace q1 := cell_later hb (cell_alloc q1 _)
    replace q2 := cell_later hb (cell_alloc q2 _)
    replace q3 := cell_later hb (cell_alloc q3 _)
    replace q4 := cell_later hb (cell_alloc q4 _)
    replace q5 := cell_later hb (cell_alloc q5 _)
    replace q6 := cell_later hb (cell_alloc q6 _)
    replace kt8 := (kt8.below (below_alloc _ _)).below hb
    have q7 : w5.cell? ⟨w4.heap.size, 0, none⟩ = some (.slice sb2.1 x0.1.length sd2.1) := cell_later hb (by simp)
    have q8 : w5.cell? ⟨w4.heap.size, 1, none⟩ = some (.slice sb2.2 x0.2.length sd2.2) := cell_later hb (by simp)
    replace yq1 := cell_lt q1
    replace yq3 := cell_lt q3
    replace yq5 := cell_lt q5
    have yq7 := cell_lt q7
    replace hbase := baseB1 hbase hb
    clear hb
    go_wp2_with fail
    refine (implTrainOne_any _ x0 _ x1 _ (rPerceptron.own_at (rPerceptron.own_alloc o2 _)) (rSample.own_at (rSample.own_alloc o3 _)) ok_x0 ok_x1 g0 g1).mono ?_
    rintro e w6 ⟨u4, rfl, o4, hb⟩
    obtain ⟨sb4, sd4, rfl⟩ := shapePerceptron (rPerceptron.own_at o4)
    replace o4 : rPerceptron.own (w5.heap.size + 1) w6.heap.size w6 _ _ := rPerceptron.own_mono o4 (by simp <;> omega) (Nat.le_refl _)
    have z6 : w5.heap.size + 1 ≤ w6.heap.size := by have := hb.size; (try simp at this); omega
    replace a0 := rPerceptron.at_below (rPerceptron.at_alloc a0 _) hb
    replace a1 := rSample.at_below (rSample.at_alloc a1 _) hb
    replace o1 := rPerceptron.own_below (rPerceptron.own_alloc o1 _) hb
    replace o2 := rPerceptron.own_below (rPerceptron.own_alloc o2 _) hb
    replace o3 := rSample.own_below (rSample.own_alloc o3 _) hb
    replace q1 := cell_later hb (cell_alloc q1 _)
    replace q2 := cell_later hb (cell_alloc q2 _)
    replace q3 := cell_later hb (cell_alloc q3 _)
    replace q4 := cell_later hb (cell_alloc q4 _)
    replace q5 := cell_later hb (cell_alloc q5 _)
    replace q6 := cell_later hb (cell_alloc q6 _)
    replace q7 := cell_later hb (cell_alloc q7 _)
    replace q8 := cell_later hb (cell_alloc q8 _)
    replace kt8 := (kt8.below (below_alloc _ _)).below hb
    have q9 : w6.cell? ⟨w5.heap.size, 0, none⟩ = some (.string x1.1) := cell_later hb (by simp)
    have q10 : w6.cell? ⟨w5.heap.size, 1, none⟩ = some (.slice sb3 x1.2.length sd3) := cell_later hb (by simp)
    replace yq1 := cell_lt q1
    replace yq3 := cell_lt q3
    replace yq5 := cell_lt q5
    replace yq7 := cell_lt q7
    have yq9 := cell_lt q9
    replace hbase := baseB1 hbase hb
    clear hb
    go_wp2_with fail
    refine (eqPerceptron_any _ _ (oneX x0 x1) _ (rPerceptron.own_at (rPerceptron.own_alloc o4 _)) (rPerceptron.own_at (rPerceptron.own_alloc o1 _))).mono ?_
    rintro e w7 ⟨rfl, hb⟩
    have z7 : w6.heap.size + 1 ≤ w7.heap.size := by have := hb.size; (try simp at this); omega
    replace a0 := rPerceptron.at_below (rPerceptron.at_alloc a0 _) hb
    replace a1 := rSample.at_below (rSample.at_alloc a1 _) hb
    replace o1 := rPerceptron.own_below (rPerceptron.own_alloc o1 _) hb
    replace o2 := rPerceptron.own_below (rPerceptron.own_alloc o2 _) hb
    replace o3 := rSample.own_below (rSample.own_alloc o3 _) hb
    replace o4 := rPerceptron.own_below (rPerceptron.own_alloc o4 _) hb
    replace q1 := cell_later hb (cell_alloc q1 _)
    replace q2 := cell_later hb (cell_alloc q2 _)
    replace q3 := cell_later hb (cell_alloc q3 _)
    replace q4 := cell_later hb (cell_alloc q4 _)
    replace q5 := cell_later hb (cell_alloc q5 _)
    replace q6 := cell_later hb (cell_alloc q6 _)
    replace q7 := cell_later hb (cell_alloc q7 _)
    replace q8 := cell_later hb (cell_alloc q8 _)
    replace q9 := cell_later hb (cell_alloc q9 _)
    replace q10 := cell_later hb (cell_alloc q10 _)
    replace kt8 := (kt8.below (below_alloc _ _)).below hb
    have q11 : w7.cell? ⟨w6.heap.size, 0, none⟩ = some (.slice sb4.1 (oneX x0 x1).1.length sd4.1) := cell_later hb (by simp)
    have q12 : w7.cell? ⟨w6.heap.size, 1, none⟩ = some (.slice sb4.2 (oneX x0 x1).2.length sd4.2) := cell_later hb (by simp)
    replace yq1 := cell_lt q1
    replace yq3 := cell_lt q3
    replace yq5 := cell_lt q5
    replace yq7 := cell_lt q7
    replace yq9 := cell_lt q9
    have yq11 := cell_lt q11
    replace hbase := baseB1 hbase hb
    clear hb
    go_wp2_with fail
    refine wp_region_rel (fun i v w' => match i with
        | 0 => v = .agg #[.slice sb2.1 x0.1.length sd2.1, .slice sb2.2 x0.2.length sd2.2]
        | 1 => v = .agg #[.slice sa0.1 x0.1.length sc0.1, .slice sa0.2 x0.2.length sc0.2]
        | 2 => rPerceptron.own w7.heap.size w'.heap.size w' v x0
        | 3 => v = .bool true
        | _ => v = .bool false) (by kernel_rfl) (by kernel_rfl) (by kernel_rfl) (by kernel_rfl) ?_ ?_ ?_
    · intro i v w w' h hb
      match i, h with
      | 0, h => exact h
      | 1, h => exact h
      | 2, h => exact rPerceptron.own_now h hb
      | 3, h => exact h
      | (m + 4), h => exact h
    · refine ⟨?_, ?_, ?_, ?_, ?_, trivial⟩
      · intro ρ w' hbw ht hcs hfn hgl hdep
        refine ⟨fun _ => ?_, fun h => by cases h⟩
        have s9 : ρ (.tmp 9) = .pointer (some ⟨w4.heap.size, 0, none⟩) := ht 9 rfl
        have c0 := cell_later hbw q7
        have c1 := cell_later hbw q8
        clear ht hdep
        go_simp
        exact ⟨Below.refl _ _, rfl⟩
      · intro ρ w' hbw ht hcs hfn hgl hdep
        refine ⟨fun _ => ?_, fun h => by cases h⟩
        have s2 : ρ (.tmp 2) = .pointer (some ⟨w.heap.size, 0, none⟩) := ht 2 rfl
        have c0 := cell_later hbw q1
        have c1 := cell_later hbw q2
        clear ht hdep
        go_simp
        exact ⟨Below.refl _ _, rfl⟩
      · intro ρ w' hbw ht hcs hfn hgl hdep
        refine ⟨fun _ => ?_, fun h => by cases h⟩
        have s65 : ρ (.tmp 65) = .agg #[.slice sa0.1 x0.1.length sc0.1, .slice sa0.2 x0.2.length sc0.2] := hdep ⟨1, .data⟩ (by simp) rfl 65 rfl
        clear ht hdep
        go_simp
        exact (toPerceptron_any _ x0 w' (rPerceptron.at_below a0 hbw) ok_x0).mono fun e w'' ⟨u, he, ho, hb⟩ => ⟨_, he, hb, rPerceptron.own_mono ho hbw.size (Nat.le_refl _)⟩
      · intro ρ w' hbw ht hcs hfn hgl hdep
        refine ⟨fun _ => ?_, fun h => by cases h⟩
        have s64 : ρ (.tmp 64) = .agg #[.slice sb2.1 x0.1.length sd2.1, .slice sb2.2 x0.2.length sd2.2] := hdep ⟨0, .data⟩ (by simp) rfl 64 rfl
        have o66 := hdep ⟨2, .data⟩ (by simp) rfl 66 rfl
        clear ht hdep
        go_simp
        exact (eqPerceptron_any _ _ x0 w' (rPerceptron.own_at (rPerceptron.own_below o2 hbw)) (rPerceptron.own_at o66)).mono fun e w'' ⟨he, hb⟩ => ⟨_, he, hb, rfl⟩
      · intro ρ w' hbw ht hcs hfn hgl hdep
        refine ⟨fun _ => ?_, fun h => by cases h⟩
        have s67 : ρ (.tmp 67) = .bool true := hdep ⟨3, .data⟩ (by simp) rfl 67 rfl
        clear ht hdep
        go_simp
        exact ⟨Below.refl _ _, rfl⟩
    · intro x w8 hb hx
      have hx0 : x 0 = .agg #[.slice sb2.1 x0.1.length sd2.1, .slice sb2.2 x0.2.length sd2.2] := hx 0 (by simp)
      have hx1 : x 1 = .agg #[.slice sa0.1 x0.1.length sc0.1, .slice sa0.2 x0.2.length sc0.2] := hx 1 (by simp)
      have hx2 := hx 2 (by simp)
      have hx3 : x 3 = .bool true := hx 3 (by simp)
      have hx4 : x 4 = .bool false := hx 4 (by simp)
      clear hx
      have z8 : w7.heap.size + 0 ≤ w8.heap.size := by have := hb.size; (try simp at this); omega
      replace a0 := rPerceptron.at_below a0 hb
      replace a1 := rSample.at_below a1 hb
      replace o1 := rPerceptron.own_below o1 hb
      replace o2 := rPerceptron.own_below o2 hb
      replace o3 := rSample.own_below o3 hb
      replace o4 := rPerceptron.own_below o4 hb
      replace q1 := cell_later hb q1
      replace q2 := cell_later hb q2
      replace q3 := cell_later hb q3
      replace q4 := cell_later hb q4
      replace q5 := cell_later hb q5
      replace q6 := cell_later hb q6
      replace q7 := cell_later hb q7
      replace q8 := cell_later hb q8
      replace q9 := cell_later hb q9
      replace q10 := cell_later hb q10
      replace q11 := cell_later hb q11
      replace q12 := cell_later hb q12
      replace kt8 := kt8.below hb
      replace yq1 := cell_lt q1
      replace yq3 := cell_lt q3
      replace yq5 := cell_lt q5
      replace yq7 := cell_lt q7
      replace yq9 := cell_lt q9
      replace yq11 := cell_lt q11
      replace hbase := baseB0 hbase hb
      clear hb
      simp only [putAll, Act.put, List.setIfInBounds_toArray, List.set_cons_succ, List.set_cons_zero, Nat.zero_add, Nat.reduceAdd, hx0, hx1, hx3, hx4]
      generalize x 2 = k14_2 at *
      clear hx0 hx1 hx3 hx4
      have o5 := hx2
      clear hx2
      obtain ⟨sb5, sd5, hsh5⟩ := shapePerceptron (rPerceptron.own_at o5)
      subst hsh5
      go_wp2_with fail
      refine wp_region_rel (fun i v w' => match i with
          | 0 => v = .agg #[.string x1.1, .slice sb3 x1.2.length sd3]
          | 1 => v = .agg #[.string x1.1, .slice sa1 x1.2.length sc1]
          | 2 => rSample.own w8.heap.size w'.heap.size w' v x1
          | 3 => v = .bool true
          | _ => v = .bool false) (by kernel_rfl) (by kernel_rfl) (by kernel_rfl) (by kernel_rfl) ?_ ?_ ?_
      · intro i v w w' h hb
        match i, h with
        | 0, h => exact h
        | 1, h => exact h
        | 2, h => exact rSample.own_now h hb
        | 3, h => exact h
        | (m + 4), h => exact h
      · refine ⟨?_, ?_, ?_, ?_, ?_, trivial⟩
        · intro ρ w' hbw ht hcs hfn hgl hdep
          refine ⟨fun _ => ?_, fun h => by cases h⟩
          have s10 : ρ (.tmp 10) = .pointer (some ⟨w5.heap.size, 0, none⟩) := ht 10 rfl
          have c0 := cell_later hbw q9
          have c1 := cell_later hbw q10
          clear ht hdep
          go_simp
          exact ⟨Below.refl _ _, rfl⟩
        · intro ρ w' hbw ht hcs hfn hgl hdep
          refine ⟨fun _ => ?_, fun h => by cases h⟩
          have s3 : ρ (.tmp 3) = .pointer (some ⟨w.heap.size + 1, 0, none⟩) := ht 3 rfl
          have c0 := cell_later hbw q3
          have c1 := cell_later hbw q4
          clear ht hdep
          go_simp
          exact ⟨Below.refl _ _, rfl⟩
        · intro ρ w' hbw ht hcs hfn hgl hdep
          refine ⟨fun _ => ?_, fun h => by cases h⟩
          have s70 : ρ (.tmp 70) = .agg #[.string x1.1, .slice sa1 x1.2.length sc1] := hdep ⟨1, .data⟩ (by simp) rfl 70 rfl
          clear ht hdep
          go_simp
          exact (toSample_any _ x1 w' (rSample.at_below a1 hbw) ok_x1).mono fun e w'' ⟨u, he, ho, hb⟩ => ⟨_, he, hb, rSample.own_mono ho hbw.size (Nat.le_refl _)⟩
        · intro ρ w' hbw ht hcs hfn hgl hdep
          refine ⟨fun _ => ?_, fun h => by cases h⟩
          have s69 : ρ (.tmp 69) = .agg #[.string x1.1, .slice sb3 x1.2.length sd3] := hdep ⟨0, .data⟩ (by simp) rfl 69 rfl
          have o71 := hdep ⟨2, .data⟩ (by simp) rfl 71 rfl
          clear ht hdep
          go_simp
          exact (eqSample_any _ _ x1 w' (rSample.own_at (rSample.own_below o3 hbw)) (rSample.own_at o71)).mono fun e w'' ⟨he, hb⟩ => ⟨_, he, hb, rfl⟩
        · intro ρ w' hbw ht hcs hfn hgl hdep
          refine ⟨fun _ => ?_, fun h => by cases h⟩
          have s72 : ρ (.tmp 72) = .bool true := hdep ⟨3, .data⟩ (by simp) rfl 72 rfl
          clear ht hdep
          go_simp
          exact ⟨Below.refl _ _, rfl⟩
      · intro x w9 hb hx
        have hx0 : x 0 = .agg #[.string x1.1, .slice sb3 x1.2.length sd3] := hx 0 (by simp)
        have hx1 : x 1 = .agg #[.string x1.1, .slice sa1 x1.2.length sc1] := hx 1 (by simp)
        have hx2 := hx 2 (by simp)
        have hx3 : x 3 = .bool true := hx 3 (by simp)
        have hx4 : x 4 = .bool false := hx 4 (by simp)
        clear hx
        have z9 : w8.heap.size + 0 ≤ w9.heap.size := by have := hb.size; (try simp at this); omega
        replace a0 := rPerceptron.at_below a0 hb
        replace a1 := rSample.at_below a1 hb
        replace o1 := rPerceptron.own_below o1 hb
        replace o2 := rPerceptron.own_below o2 hb
        replace o3 := rSample.own_below o3 hb
        replace o4 := rPerceptron.own_below o4 hb
        replace o5 := rPerceptron.own_below o5 hb
        replace q1 := cell_later hb q1
        replace q2 := cell_later hb q2
        replace q3 := cell_later hb q3
        replace q4 := cell_later hb q4
        replace q5 := cell_later hb q5
        replace q6 := cell_later hb q6
        replace q7 := cell_later hb q7
        replace q8 := cell_later hb q8
        replace q9 := cell_later hb q9
        replace q10 := cell_later hb q10
        replace q11 := cell_later hb q11
        replace q12 := cell_later hb q12
        replace kt8 := kt8.below hb
        replace yq1 := cell_lt q1
        replace yq3 := cell_lt q3
        replace yq5 := cell_lt q5
        replace yq7 := cell_lt q7
        replace yq9 := cell_lt q9
        replace yq11 := cell_lt q11
        replace hbase := baseB0 hbase hb
        clear hb
        simp only [putAll, Act.put, List.setIfInBounds_toArray, List.set_cons_succ, List.set_cons_zero, Nat.zero_add, Nat.reduceAdd, hx0, hx1, hx3, hx4]
        generalize x 2 = k16_2 at *
        clear hx0 hx1 hx3 hx4
        have o6 := hx2
        clear hx2
        obtain ⟨sb6, sd6, hsh6⟩ := shapeSample (rSample.own_at o6)
        subst hsh6
        go_wp2_with fail
        refine (markPerceptron_any _ x0 _ _ (1) _ o2 ok_x0 (by omega) (by omega)).mono ?_
        rintro e w10 ⟨rfl, o2n, hc, hty⟩
        have z10 : w9.heap.size + 0 ≤ w10.heap.size := by have := hc.size; (try simp at this); omega
        replace a0 := rPerceptron.at_chg a0 hc (by first | (left; omega) | (right; omega))
        replace a1 := rSample.at_chg a1 hc (by first | (left; omega) | (right; omega))
        replace o1 := rPerceptron.own_chg o1 hc (by first | (left; omega) | (right; omega))
        replace o3 := rSample.own_chg o3 hc (by first | (left; omega) | (right; omega))
        replace o4 := rPerceptron.own_chg o4 hc (by first | (left; omega) | (right; omega))
        replace o5 := rPerceptron.own_chg o5 hc (by first | (left; omega) | (right; omega))
        replace o6 := rSample.own_chg o6 hc (by first | (left; omega) | (right; omega))
        replace q1 := chg_cell hc q1 (by first | (left; omega) | (right; omega))
        replace q2 := chg_cell hc q2 (by first | (left; omega) | (right; omega))
        replace q3 := chg_cell hc q3 (by first | (left; omega) | (right; omega))
        replace q4 := chg_cell hc q4 (by first | (left; omega) | (right; omega))
        replace q5 := typed_cell hty kt8 rfl q5
        replace q6 := typed_cell hty kt8 rfl q6
        replace q7 := chg_cell hc q7 (by first | (left; omega) | (right; omega))
        replace q8 := chg_cell hc q8 (by first | (left; omega) | (right; omega))
        replace q9 := chg_cell hc q9 (by first | (left; omega) | (right; omega))
        replace q10 := chg_cell hc q10 (by first | (left; omega) | (right; omega))
        replace q11 := chg_cell hc q11 (by first | (left; omega) | (right; omega))
        replace q12 := chg_cell hc q12 (by first | (left; omega) | (right; omega))
        replace kt8 := kt8.typed hty rfl
        replace yq1 := cell_lt q1
        replace yq3 := cell_lt q3
        replace yq5 := cell_lt q5
        replace yq7 := cell_lt q7
        replace yq9 := cell_lt q9
        replace yq11 := cell_lt q11
        replace hbase := below_chg hbase hc (by omega)
        clear hc
        clear hty
        clear o2
        have o2 := o2n
        clear o2n
        have cn10 : 0 ≤ cntPerceptron x0 ∧ cntPerceptron x0 ≤ 2200000 := cntPerceptron_bd2 ok_x0
        go_wp2_with fail
        refine (markSample_any _ x1 _ _ (1 + cntPerceptron x0) _ o3 ok_x1 (by omega) (by omega)).mono ?_
        rintro e w11 ⟨rfl, o3n, hc, hty⟩
        have z11 : w10.heap.size + 0 ≤ w11.heap.size := by have := hc.size; (try simp at this); omega
        replace a0 := rPerceptron.at_chg a0 hc (by first | (left; omega) | (right; omega))
        replace a1 := rSample.at_chg a1 hc (by first | (left; omega) | (right; omega))
        replace o1 := rPerceptron.own_chg o1 hc (by first | (left; omega) | (right; omega))
        replace o2 := rPerceptron.own_chg o2 hc (by first | (left; omega) | (right; omega))
        replace o4 := rPerceptron.own_chg o4 hc (by first | (left; omega) | (right; omega))
        replace o5 := rPerceptron.own_chg o5 hc (by first | (left; omega) | (right; omega))
        replace o6 := rSample.own_chg o6 hc (by first | (left; omega) | (right; omega))
        replace q1 := chg_cell hc q1 (by first | (left; omega) | (right; omega))
        replace q2 := chg_cell hc q2 (by first | (left; omega) | (right; omega))
        replace q3 := chg_cell hc q3 (by first | (left; omega) | (right; omega))
        replace q4 := chg_cell hc q4 (by first | (left; omega) | (right; omega))
        replace q5 := typed_cell hty kt8 rfl q5
        replace q6 := typed_cell hty kt8 rfl q6
        replace q7 := chg_cell hc q7 (by first | (left; omega) | (right; omega))
        replace q8 := chg_cell hc q8 (by first | (left; omega) | (right; omega))
        replace q9 := chg_cell hc q9 (by first | (left; omega) | (right; omega))
        replace q10 := chg_cell hc q10 (by first | (left; omega) | (right; omega))
        replace q11 := chg_cell hc q11 (by first | (left; omega) | (right; omega))
        replace q12 := chg_cell hc q12 (by first | (left; omega) | (right; omega))
        replace kt8 := kt8.typed hty rfl
        replace yq1 := cell_lt q1
        replace yq3 := cell_lt q3
        replace yq5 := cell_lt q5
        replace yq7 := cell_lt q7
        replace yq9 := cell_lt q9
        replace yq11 := cell_lt q11
        replace hbase := below_chg hbase hc (by omega)
        clear hc
        clear hty
        clear o3
        have o3 := o3n
        clear o3n
        have cn11 : 0 ≤ cntSample x1 ∧ cntSample x1 ≤ 3200000 := cntSample_bd2 ok_x1
        go_wp2_with fail
        refine (eqPerceptron_any _ _ (oneX x0 x1) _ (rPerceptron.own_at o4) (rPerceptron.own_at o1)).mono ?_
        rintro e w12 ⟨rfl, hb⟩
        have z12 : w11.heap.size + 0 ≤ w12.heap.size := by have := hb.size; (try simp at this); omega
        replace a0 := rPerceptron.at_below a0 hb
        replace a1 := rSample.at_below a1 hb
        replace o1 := rPerceptron.own_below o1 hb
        replace o2 := rPerceptron.own_below o2 hb
        replace o3 := rSample.own_below o3 hb
        replace o4 := rPerceptron.own_below o4 hb
        replace o5 := rPerceptron.own_below o5 hb
        replace o6 := rSample.own_below o6 hb
        replace q1 := cell_later hb q1
        replace q2 := cell_later hb q2
        replace q3 := cell_later hb q3
        replace q4 := cell_later hb q4
        replace q5 := cell_later hb q5
        replace q6 := cell_later hb q6
        replace q7 := cell_later hb q7
        replace q8 := cell_later hb q8
        replace q9 := cell_later hb q9
        replace q10 := cell_later hb q10
        replace q11 := cell_later hb q11
        replace q12 := cell_later hb q12
        replace kt8 := kt8.below hb
        replace yq1 := cell_lt q1
        replace yq3 := cell_lt q3
        replace yq5 := cell_lt q5
        replace yq7 := cell_lt q7
        replace yq9 := cell_lt q9
        replace yq11 := cell_lt q11
        replace hbase := baseB0 hbase hb
        clear hb
        go_wp2_with fail
        refine (markPerceptron_any _ (oneX x0 x1) _ _ (1) _ o4 (okOne x0 x1) (by omega) (by omega)).mono ?_
        rintro e w13 ⟨rfl, o4n, hc, hty⟩
        have z13 : w12.heap.size + 0 ≤ w13.heap.size := by have := hc.size; (try simp at this); omega
        replace a0 := rPerceptron.at_chg a0 hc (by first | (left; omega) | (right; omega))
        replace a1 := rSample.at_chg a1 hc (by first | (left; omega) | (right; omega))
        replace o1 := rPerceptron.own_chg o1 hc (by first | (left; omega) | (right; omega))
        replace o2 := rPerceptron.own_chg o2 hc (by first | (left; omega) | (right; omega))
        replace o3 := rSample.own_chg o3 hc (by first | (left; omega) | (right; omega))
        replace o5 := rPerceptron.own_chg o5 hc (by first | (left; omega) | (right; omega))
        replace o6 := rSample.own_chg o6 hc (by first | (left; omega) | (right; omega))
        replace q1 := chg_cell hc q1 (by first | (left; omega) | (right; omega))
        replace q2 := chg_cell hc q2 (by first | (left; omega) | (right; omega))
        replace q3 := chg_cell hc q3 (by first | (left; omega) | (right; omega))
        replace q4 := chg_cell hc q4 (by first | (left; omega) | (right; omega))
        replace q5 := typed_cell hty kt8 rfl q5
        replace q6 := typed_cell hty kt8 rfl q6
        replace q7 := chg_cell hc q7 (by first | (left; omega) | (right; omega))
        replace q8 := chg_cell hc q8 (by first | (left; omega) | (right; omega))
        replace q9 := chg_cell hc q9 (by first | (left; omega) | (right; omega))
        replace q10 := chg_cell hc q10 (by first | (left; omega) | (right; omega))
        replace q11 := chg_cell hc q11 (by first | (left; omega) | (right; omega))
        replace q12 := chg_cell hc q12 (by first | (left; omega) | (right; omega))
        replace kt8 := kt8.typed hty rfl
        replace yq1 := cell_lt q1
        replace yq3 := cell_lt q3
        replace yq5 := cell_lt q5
        replace yq7 := cell_lt q7
        replace yq9 := cell_lt q9
        replace yq11 := cell_lt q11
        replace hbase := below_chg hbase hc (by omega)
        clear hc
        clear hty
        clear o4
        have o4 := o4n
        clear o4n
        have cn13 : 0 ≤ cntPerceptron (oneX x0 x1) ∧ cntPerceptron (oneX x0 x1) ≤ 2200000 := cntPerceptron_bd2 (okOne x0 x1)
        go_wp2_with fail
        refine (heldPerceptron_any _ (oneX x0 x1) (1) _ (rPerceptron.own_at o4) (okOne x0 x1) (by omega) (by omega)).mono ?_
        rintro e w14 ⟨rfl, hb⟩
        have z14 : w13.heap.size + 0 ≤ w14.heap.size := by have := hb.size; (try simp at this); omega
        replace a0 := rPerceptron.at_below a0 hb
        replace a1 := rSample.at_below a1 hb
        replace o1 := rPerceptron.own_below o1 hb
        replace o2 := rPerceptron.own_below o2 hb
        replace o3 := rSample.own_below o3 hb
        replace o4 := rPerceptron.own_below o4 hb
        replace o5 := rPerceptron.own_below o5 hb
        replace o6 := rSample.own_below o6 hb
        replace q1 := cell_later hb q1
        replace q2 := cell_later hb q2
        replace q3 := cell_later hb q3
        replace q4 := cell_later hb q4
        replace q5 := cell_later hb q5
        replace q6 := cell_later hb q6
        replace q7 := cell_later hb q7
        replace q8 := cell_later hb q8
        replace q9 := cell_later hb q9
        replace q10 := cell_later hb q10
        replace q11 := cell_later hb q11
        replace q12 := cell_later hb q12
        replace kt8 := kt8.below hb
        replace yq1 := cell_lt q1
        replace yq3 := cell_lt q3
        replace yq5 := cell_lt q5
        replace yq7 := cell_lt q7
        replace yq9 := cell_lt q9
        replace yq11 := cell_lt q11
        replace hbase := baseB0 hbase hb
        clear hb
        go_wp2_with fail
        refine wp_region_rel2 10 (fun i v w' => match i with
            | 0 => v = .agg #[.slice sa0.1 x0.1.length sc0.1, .slice sa0.2 x0.2.length sc0.2]
            | 1 => rPerceptron.own w14.heap.size w'.heap.size w' v x0
            | 2 => v = .agg #[.string x1.1, .slice sa1 x1.2.length sc1]
            | 3 => rSample.own w14.heap.size w'.heap.size w' v x1
            | 4 => ∃ u, v = .tuple #[u, .bool (oneB x0 x1), .int .i64 (oneC x0 x1)] ∧ rPerceptron.own w14.heap.size w'.heap.size w' u (oneX x0 x1)
            | 5 => ∃ u, v = .tuple #[u, .bool (oneB x0 x1), .int .i64 (oneC x0 x1)] ∧ rPerceptron.own w14.heap.size w'.heap.size w' u (oneX x0 x1)
            | 6 => rPerceptron.own w14.heap.size w'.heap.size w' v (oneX x0 x1)
            | 7 => v = .bool (oneB x0 x1)
            | 8 => v = .int .i64 (oneC x0 x1)
            | 9 => ∃ p, v = .pointer (some ⟨p, 0, none⟩) ∧ w14.heap.size ≤ p ∧ w'.heap[p]? = some (.cells #[.slice none 0 0, .slice none 0 0] 28 (0, 0))
            | 10 => True
            | 11 => v = .bool (oneB x0 x1)
            | _ => v = .int .i64 (oneC x0 x1))
          (fun i v w' => match i with
            | 0 => v = .agg #[.slice sa0.1 x0.1.length sc0.1, .slice sa0.2 x0.2.length sc0.2]
            | 1 => True
            | 2 => v = .agg #[.string x1.1, .slice sa1 x1.2.length sc1]
            | 3 => True
            | 4 => ∃ u, v = .tuple #[u, .bool (oneB x0 x1), .int .i64 (oneC x0 x1)] ∧ True
            | 5 => ∃ u, v = .tuple #[u, .bool (oneB x0 x1), .int .i64 (oneC x0 x1)] ∧ True
            | 6 => True
            | 7 => v = .bool (oneB x0 x1)
            | 8 => v = .int .i64 (oneC x0 x1)
            | 9 => ∃ (p : Nat) (sa : Option Addr × Option Addr) (sc : Nat × Nat), v = .pointer (some ⟨p, 0, none⟩) ∧ w14.heap.size ≤ p ∧ w'.cell? ⟨p, 0, none⟩ = some (.slice sa.1 (oneX x0 x1).1.length sc.1) ∧ w'.cell? ⟨p, 1, none⟩ = some (.slice sa.2 (oneX x0 x1).2.length sc.2) ∧ BoxT w' p 28 ∧ rPerceptron.own w14.heap.size w'.heap.size w' (.agg #[.slice sa.1 (oneX x0 x1).1.length sc.1, .slice sa.2 (oneX x0 x1).2.length sc.2]) (oneX x0 x1)
            | 10 => True
            | 11 => v = .bool (oneB x0 x1)
            | _ => v = .int .i64 (oneC x0 x1)) (by kernel_rfl) (by kernel_rfl) (by kernel_rfl) (by kernel_rfl) ?_ ?_ ?_ ?_ (by decide) ?_
        · intro i v w w' h hb
          match i, h with
          | 0, h => exact h
          | 1, h => exact rPerceptron.own_now h hb
          | 2, h => exact h
          | 3, h => exact rSample.own_now h hb
          | 4, ⟨u, hu, ho⟩ => exact ⟨u, hu, rPerceptron.own_now ho hb⟩
          | 5, ⟨u, hu, ho⟩ => exact ⟨u, hu, rPerceptron.own_now ho hb⟩
          | 6, h => exact rPerceptron.own_now h hb
          | 7, h => exact h
          | 8, h => exact h
          | 9, ⟨p, hp, hl, hc⟩ => exact ⟨p, hp, hl, (hb.block p (Array.getElem?_eq_some_iff.1 hc).1).trans hc⟩
          | 10, h => exact h
          | 11, h => exact h
          | (m + 12), h => exact h
        · intro i v w w' h hb
          match i, h with
          | 0, h => exact h
          | 1, h => exact h
          | 2, h => exact h
          | 3, h => exact h
          | 4, ⟨u, hu, ho⟩ => exact ⟨u, hu, ho⟩
          | 5, ⟨u, hu, ho⟩ => exact ⟨u, hu, ho⟩
          | 6, h => exact h
          | 7, h => exact h
          | 8, h => exact h
          | 9, ⟨p, sa, sc, hp, hl, hc0, hc1, hk, ho⟩ => exact ⟨p, sa, sc, hp, hl, cell_later hb hc0, cell_later hb hc1, hk.below hb, rPerceptron.own_now ho hb⟩
          | 10, h => exact h
          | 11, h => exact h
          | (m + 12), h => exact h
        · refine ⟨?_, ?_, ?_, ?_, ?_, ?_, ?_, ?_, ?_, ?_, ?_, ?_, ?_, trivial⟩
          · refine .inr ⟨fun _ => ?_, stage_no (by kernel_rfl)⟩
            intro ρ w' hbw ht hcs hfn hgl hdep
            refine ⟨fun _ => ?_, fun h => by cases h⟩
            have s2 : ρ (.tmp 2) = .pointer (some ⟨w.heap.size, 0, none⟩) := ht 2 rfl
            have c0 := cell_later hbw q1
            have c1 := cell_later hbw q2
            clear ht hdep
            go_simp
            exact ⟨Below.refl _ _, rfl⟩
          · refine .inr ⟨fun _ => ?_, stage_no (by kernel_rfl)⟩
            intro ρ w' hbw ht hcs hfn hgl hdep
            refine ⟨fun _ => ?_, fun h => by cases h⟩
            have s110 : ρ (.tmp 110) = .agg #[.slice sa0.1 x0.1.length sc0.1, .slice sa0.2 x0.2.length sc0.2] := hdep ⟨0, .data⟩ (by simp) rfl 110 rfl
            clear ht hdep
            go_simp
            exact (toPerceptron_any _ x0 w' (rPerceptron.at_below a0 hbw) ok_x0).mono fun e w'' ⟨u, he, ho, hb⟩ => ⟨_, he, hb, rPerceptron.own_mono ho hbw.size (Nat.le_refl _)⟩
          · refine .inr ⟨fun _ => ?_, stage_no (by kernel_rfl)⟩
            intro ρ w' hbw ht hcs hfn hgl hdep
            refine ⟨fun _ => ?_, fun h => by cases h⟩
            have s3 : ρ (.tmp 3) = .pointer (some ⟨w.heap.size + 1, 0, none⟩) := ht 3 rfl
            have c0 := cell_later hbw q3
            have c1 := cell_later hbw q4
            clear ht hdep
            go_simp
            exact ⟨Below.refl _ _, rfl⟩
          · refine .inr ⟨fun _ => ?_, stage_no (by kernel_rfl)⟩
            intro ρ w' hbw ht hcs hfn hgl hdep
            refine ⟨fun _ => ?_, fun h => by cases h⟩
            have s112 : ρ (.tmp 112) = .agg #[.string x1.1, .slice sa1 x1.2.length sc1] := hdep ⟨2, .data⟩ (by simp) rfl 112 rfl
            clear ht hdep
            go_simp
            exact (toSample_any _ x1 w' (rSample.at_below a1 hbw) ok_x1).mono fun e w'' ⟨u, he, ho, hb⟩ => ⟨_, he, hb, rSample.own_mono ho hbw.size (Nat.le_refl _)⟩
          · refine .inr ⟨fun _ => ?_, stage_no (by kernel_rfl)⟩
            intro ρ w' hbw ht hcs hfn hgl hdep
            refine ⟨fun _ => ?_, fun h => by cases h⟩
            have o111 := hdep ⟨1, .data⟩ (by simp) rfl 111 rfl
            have o113 := hdep ⟨3, .data⟩ (by simp) rfl 113 rfl
            clear ht hdep
            go_simp
            exact (implTrainOne_any _ x0 _ x1 w' (rPerceptron.own_at o111) (rSample.own_at o113) ok_x0 ok_x1 g0 g1).mono fun e w'' ⟨u, he, ho, hb⟩ => ⟨_, he, hb, u, rfl, rPerceptron.own_mono ho hbw.size (Nat.le_refl _)⟩
          · refine .inr ⟨fun _ => ?_, stage_no (by kernel_rfl)⟩
            intro ρ w' hbw ht hcs hfn hgl hdep
            refine ⟨fun _ => ?_, fun h => by cases h⟩
            obtain ⟨u114, s114, o114⟩ := hdep ⟨4, .data⟩ (by simp) rfl 114 rfl
            clear ht hdep
            go_simp
            exact ⟨Below.refl _ _, _, rfl, o114⟩
          · refine .inr ⟨fun _ => ?_, stage_no (by kernel_rfl)⟩
            intro ρ w' hbw ht hcs hfn hgl hdep
            refine ⟨fun _ => ?_, fun h => by cases h⟩
            obtain ⟨u109, s109, o109⟩ := hdep ⟨5, .data⟩ (by simp) rfl 109 rfl
            clear ht hdep
            go_simp
            exact ⟨Below.refl _ _, o109⟩
          · refine .inr ⟨fun _ => ?_, fun _ => ?_⟩
            · intro ρ w' hbw ht hcs hfn hgl hdep
              refine ⟨fun _ => ?_, fun h => by cases h⟩
              obtain ⟨u109, s109, o109⟩ := hdep ⟨5, .data⟩ (by simp) rfl 109 rfl
              clear ht hdep
              go_simp
              exact ⟨Below.refl _ _, rfl⟩
            · intro ρ w' hbw ht hcs hfn hgl hdep
              refine ⟨fun _ => ?_, fun h => by cases h⟩
              obtain ⟨u109, s109, o109⟩ := hdep ⟨5, .data⟩ (by simp) rfl 109 rfl
              clear ht hdep
              go_simp
              exact ⟨Below.refl _ _, rfl⟩
          · refine .inr ⟨fun _ => ?_, fun _ => ?_⟩
            · intro ρ w' hbw ht hcs hfn hgl hdep
              refine ⟨fun _ => ?_, fun h => by cases h⟩
              obtain ⟨u109, s109, o109⟩ := hdep ⟨5, .data⟩ (by simp) rfl 109 rfl
              clear ht hdep
              go_simp
              exact ⟨Below.refl _ _, rfl⟩
            · intro ρ w' hbw ht hcs hfn hgl hdep
              refine ⟨fun _ => ?_, fun h => by cases h⟩
              obtain ⟨u109, s109, o109⟩ := hdep ⟨5, .data⟩ (by simp) rfl 109 rfl
              clear ht hdep
              go_simp
              exact ⟨Below.refl _ _, rfl⟩
          · refine .inr ⟨fun _ => ?_, stage_no (by kernel_rfl)⟩
            intro ρ w' hbw ht hcs hfn hgl hdep
            refine ⟨fun _ => ?_, fun h => by cases h⟩
            clear ht hdep
            go_simp
            exact ⟨below_alloc _ _, _, rfl, hbw.size, heap_alloc_new _ _⟩
          · exact .inl rfl
          · refine .inr ⟨stage_no (by kernel_rfl), fun _ => ?_⟩
            intro ρ w' hbw ht hcs hfn hgl hdep
            refine ⟨fun _ => ?_, fun h => by cases h⟩
            have s116 : ρ (.tmp 116) = .bool (oneB x0 x1) := hdep ⟨7, .data⟩ (by simp) rfl 116 rfl
            clear ht hdep
            go_simp
            exact ⟨Below.refl _ _, rfl⟩
          · refine .inr ⟨stage_no (by kernel_rfl), fun _ => ?_⟩
            intro ρ w' hbw ht hcs hfn hgl hdep
            refine ⟨fun _ => ?_, fun h => by cases h⟩
            have s117 : ρ (.tmp 117) = .int .i64 (oneC x0 x1) := hdep ⟨8, .data⟩ (by simp) rfl 117 rfl
            clear ht hdep
            go_simp
            exact ⟨Below.refl _ _, rfl⟩
        · intro o ho
          obtain rfl := Option.some.inj ho
          refine ⟨rfl, fun ρ w' hbw ht hcs hdep => ?_⟩
          obtain ⟨pp, s17, hpl, hpc⟩ := hdep ⟨9, .data⟩ (by simp) rfl 17 rfl
          have ho := hdep ⟨6, .data⟩ (by simp) rfl 115 rfl
          clear hdep ht
          obtain ⟨sa, sc, hsh⟩ := shapePerceptron (rPerceptron.own_at ho)
          have hcell0 : w'.cell? ⟨pp, 0, none⟩ = some (.slice none 0 0) := by rw [cell_of_row w' pp 0 _ _ _ hpc]; rfl
          have hcell1 : w'.cell? ⟨pp, 1, none⟩ = some (.slice none 0 0) := by rw [cell_of_row w' pp 1 _ _ _ hpc]; rfl
          have hfree : ∀ j, w'.frozen? ⟨pp, j, none⟩ = false := fun j => frozen_of_row w' pp j _ _ hpc
          refine ⟨((w'.setCell ⟨pp, 0, none⟩ (.slice sa.1 (oneX x0 x1).1.length sc.1)).setCell ⟨pp, 1, none⟩ (.slice sa.2 (oneX x0 x1).2.length sc.2)), ?_, ?_, trivial, ?_⟩
          · clear ho
            go_simp
          · exact ((hbw.setCell (by simpa using hpl) _).setCell (by simpa using hpl) _)
          · intro j v hj hv hrho
            match j, hj, hv, hrho with
            | 0, _, h, _ => exact h
            | 1, _, _, _ => exact trivial
            | 2, _, h, _ => exact h
            | 3, _, _, _ => exact trivial
            | 4, _, ⟨u, hu, _⟩, _ => exact ⟨u, hu, trivial⟩
            | 5, _, ⟨u, hu, _⟩, _ => exact ⟨u, hu, trivial⟩
            | 6, _, _, _ => exact trivial
            | 7, _, h, _ => exact h
            | 8, _, h, _ => exact h
            | 9, _, _, hr =>
              rw [hsh] at ho
              exact ⟨pp, sa, sc, (hr 17 rfl).trans s17, hpl, by simp [go_sem, hcell0], by simp [go_sem, hcell1], (BoxT.set (BoxT.set ⟨_, _, hpc⟩)), rPerceptron.own_mono (rPerceptron.own_set (rPerceptron.own_set ho hpc rfl) (heap_setCell_same _ pp 0 _ _ (.slice sa.1 (oneX x0 x1).1.length sc.1) hpc) rfl) (Nat.le_refl _) (by simp)⟩
            | 10, _, _, _ => exact trivial
            | 11, _, h, _ => exact h
            | 12, _, h, _ => exact h
            | (m + 13), hj, _, _ => exact absurd hj (by simp)
        · intro x w15 hb hx
          have hx0 : x 0 = .agg #[.slice sa0.1 x0.1.length sc0.1, .slice sa0.2 x0.2.length sc0.2] := hx 0 (by simp)
          have hx2 : x 2 = .agg #[.string x1.1, .slice sa1 x1.2.length sc1] := hx 2 (by simp)
          have hx7 : x 7 = .bool (oneB x0 x1) := hx 7 (by simp)
          have hx8 : x 8 = .int .i64 (oneC x0 x1) := hx 8 (by simp)
          have hx11 : x 11 = .bool (oneB x0 x1) := hx 11 (by simp)
          have hx12 : x 12 = .int .i64 (oneC x0 x1) := hx 12 (by simp)
          obtain ⟨pp31, sb7, sd7, hx9, hppl, hpc0, hpc1, hppk, hppo⟩ := hx 9 (by simp)
          clear hx
          have z15 : w14.heap.size + 0 ≤ w15.heap.size := by have := hb.size; (try simp at this); omega
          replace a0 := rPerceptron.at_below a0 hb
          replace a1 := rSample.at_below a1 hb
          replace o1 := rPerceptron.own_below o1 hb
          replace o2 := rPerceptron.own_below o2 hb
          replace o3 := rSample.own_below o3 hb
          replace o4 := rPerceptron.own_below o4 hb
          replace o5 := rPerceptron.own_below o5 hb
          replace o6 := rSample.own_below o6 hb
          replace q1 := cell_later hb q1
          replace q2 := cell_later hb q2
          replace q3 := cell_later hb q3
          replace q4 := cell_later hb q4
          replace q5 := cell_later hb q5
          replace q6 := cell_later hb q6
          replace q7 := cell_later hb q7
          replace q8 := cell_later hb q8
          replace q9 := cell_later hb q9
          replace q10 := cell_later hb q10
          replace q11 := cell_later hb q11
          replace q12 := cell_later hb q12
          replace kt8 := kt8.below hb
          replace yq1 := cell_lt q1
          replace yq3 := cell_lt q3
          replace yq5 := cell_lt q5
          replace yq7 := cell_lt q7
          replace yq9 := cell_lt q9
          replace yq11 := cell_lt q11
          replace hbase := baseB0 hbase hb
          clear hb
          simp only [putAll, Act.put, List.setIfInBounds_toArray, List.set_cons_succ, List.set_cons_zero, Nat.zero_add, Nat.reduceAdd, hx0, hx2, hx7, hx8, hx11, hx12, hx9]
          generalize x 1 = k31_1 at *
          generalize x 3 = k31_3 at *
          generalize x 4 = k31_4 at *
          generalize x 5 = k31_5 at *
          generalize x 6 = k31_6 at *
          clear hx0 hx2 hx7 hx8 hx11 hx12 hx9
          have o7 := hppo
          clear hppo
          have r31 := hppl
          clear hppl
          have rr31 : pp31 < w15.heap.size := cell_lt hpc0
          have kt31 := hppk
          clear hppk
          have q13 := hpc0
          clear hpc0
          have q14 := hpc1
          clear hpc1
          have yq13 := cell_lt q13
          go_wp2_with fail
          refine (eqPerceptron_any _ _ (oneX x0 x1) _ (rPerceptron.own_at o7) (rPerceptron.own_at o1)).mono ?_
          rintro e w16 ⟨rfl, hb⟩
          have z16 : w15.heap.size + 0 ≤ w16.heap.size := by have := hb.size; (try simp at this); omega
          replace a0 := rPerceptron.at_below a0 hb
          replace a1 := rSample.at_below a1 hb
          replace o1 := rPerceptron.own_below o1 hb
          replace o2 := rPerceptron.own_below o2 hb
          replace o3 := rSample.own_below o3 hb
          replace o4 := rPerceptron.own_below o4 hb
          replace o5 := rPerceptron.own_below o5 hb
          replace o6 := rSample.own_below o6 hb
          replace o7 := rPerceptron.own_below o7 hb
          replace q1 := cell_later hb q1
          replace q2 := cell_later hb q2
          replace q3 := cell_later hb q3
          replace q4 := cell_later hb q4
          replace q5 := cell_later hb q5
          replace q6 := cell_later hb q6
          replace q7 := cell_later hb q7
          replace q8 := cell_later hb q8
          replace q9 := cell_later hb q9
          replace q10 := cell_later hb q10
          replace q11 := cell_later hb q11
          replace q12 := cell_later hb q12
          replace q13 := cell_later hb q13
          replace q14 := cell_later hb q14
          replace kt8 := kt8.below hb
          replace kt31 := kt31.below hb
          replace yq1 := cell_lt q1
          replace yq3 := cell_lt q3
          replace yq5 := cell_lt q5
          replace yq7 := cell_lt q7
          replace yq9 := cell_lt q9
          replace yq11 := cell_lt q11
          replace yq13 := cell_lt q13
          replace hbase := baseB0 hbase hb
          clear hb
          go_wp2_with fail
          refine (heldPerceptron_any _ (oneX x0 x1) (1) _ (rPerceptron.own_at o4) (okOne x0 x1) (by omega) (by omega)).mono ?_
          rintro e w17 ⟨rfl, hb⟩
          have z17 : w16.heap.size + 0 ≤ w17.heap.size := by have := hb.size; (try simp at this); omega
          replace a0 := rPerceptron.at_below a0 hb
          replace a1 := rSample.at_below a1 hb
          replace o1 := rPerceptron.own_below o1 hb
          replace o2 := rPerceptron.own_below o2 hb
          replace o3 := rSample.own_below o3 hb
          replace o4 := rPerceptron.own_below o4 hb
          replace o5 := rPerceptron.own_below o5 hb
          replace o6 := rSample.own_below o6 hb
          replace o7 := rPerceptron.own_below o7 hb
          replace q1 := cell_later hb q1
          replace q2 := cell_later hb q2
          replace q3 := cell_later hb q3
          replace q4 := cell_later hb q4
          replace q5 := cell_later hb q5
          replace q6 := cell_later hb q6
          replace q7 := cell_later hb q7
          replace q8 := cell_later hb q8
          replace q9 := cell_later hb q9
          replace q10 := cell_later hb q10
          replace q11 := cell_later hb q11
          replace q12 := cell_later hb q12
          replace q13 := cell_later hb q13
          replace q14 := cell_later hb q14
          replace kt8 := kt8.below hb
          replace kt31 := kt31.below hb
          replace yq1 := cell_lt q1
          replace yq3 := cell_lt q3
          replace yq5 := cell_lt q5
          replace yq7 := cell_lt q7
          replace yq9 := cell_lt q9
          replace yq11 := cell_lt q11
          replace yq13 := cell_lt q13
          replace hbase := baseB0 hbase hb
          clear hb
          go_wp2_with fail
          go_ret
          exact ret_bool rfl hbase
end Go.Proofs.Ytdifhnckhocmdaa
