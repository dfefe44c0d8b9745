/- The walk of the law FnExactLatticeOf: for every argument it returns true and leaves what was there. -/
import Derived.Test.YtlnoelbeaolikaaGreatK01
import Derived.Test.YtlnoelbeaolikaaGreatK02
import Derived.Test.YtlnoelbeaolikaaGreatK04
import Derived.Test.YtlnoelbeaolikaaGreatK05
import Derived.Test.YtlnoelbeaolikaaGreatK24
namespace Go.Proofs.YtlnoelbeaolikaaGreat
open Go.RowKit
set_option maxHeartbeats 4000000 in
theorem lawLatticeOf (v0 : Value) (x0 : XStore) (v1 : Value) (x1 : XInk) (x2 : DSetting) (w : World) (a0 : rStore.at_ 0 w.heap.size w v0 x0) (g0 : goodStore x0) (a1 : rInk.at_ 0 w.heap.size w v1 x1) (g1 : goodInk x1) :
  Calls Tryz.prog 4 #[v0, v1, .agg #[.int .i64 x2.points, .int .i64 x2.most, .int .i64 x2.pen]] w (Ret (.bool true) w) := by
 obtain ⟨sa0, sc0, rfl⟩ := shapeStore a0
 obtain ⟨sa1, sc1, rfl⟩ := shapeInk a1
 have hbase : Below w.heap.size w w := Below.refl _ _
 go_enter Tryz.func4, Tryz.ntmps4
 go_wp2_with fail
 refine (szStore_any _ x0 (1048576) _ (rStore.at_alloc (rStore.at_alloc (rStore.at_alloc a0 _) _) _) g0 (by omega) (by omega)).mono ?_
 rintro e w1 ⟨rfl, hb⟩
 have z1 : w.heap.size + 3 ≤ w1.heap.size := by have := hb.size; (try simp at this); omega
 replace a0 := rStore.at_below (rStore.at_alloc (rStore.at_alloc (rStore.at_alloc a0 _) _) _) hb
 replace a1 := rInk.at_below (rInk.at_alloc (rInk.at_alloc (rInk.at_alloc a1 _) _) _) hb
 have q1 : w1.cell? ⟨w.heap.size, 0, none⟩ = some (.int .i64 x0.1) := cell_later hb (by first | simp | exact cell_alloc (by simp) _ | (rw [cell3c]; rfl))
 have q2 : w1.cell? ⟨w.heap.size, 1, none⟩ = some (.slice sa0 x0.2.length sc0) := cell_later hb (by first | simp | exact cell_alloc (by simp) _ | (rw [cell3c]; rfl))
 have q3 : w1.cell? ⟨w.heap.size + 1, 0, none⟩ = some (.slice sa1 x1.length sc1) := cell_later hb (by first | simp | exact cell_alloc (by simp) _ | (rw [cell3c]; rfl))
 have q4 : w1.cell? ⟨w.heap.size + 1 + 1, 0, none⟩ = some (.int .i64 x2.points) := cell_later hb (by first | simp | exact cell_alloc (by simp) _ | (rw [cell3c]; rfl))
 have q5 : w1.cell? ⟨w.heap.size + 1 + 1, 1, none⟩ = some (.int .i64 x2.most) := cell_later hb (by first | simp | exact cell_alloc (by simp) _ | (rw [cell3c]; rfl))
 have q6 : w1.cell? ⟨w.heap.size + 1 + 1, 2, none⟩ = some (.int .i64 x2.pen) := cell_later hb (by first | simp | exact cell_alloc (by simp) _ | (rw [cell3c]; rfl))
 have yq1 := cell_lt q1
 have yq3 := cell_lt q3
 have yq4 := cell_lt q4
 replace hbase := baseB3 hbase hb
 clear hb
 by_cases hszx0 : (1048576 : Int) < (sizeStore x0 : Nat)
 ·rw [szOf_neg hszx0]
  go_wp2_with fail
  go_ret
  exact ret_bool rfl hbase
 rw [szOf_pos (by omega)]
 have ok_x0 : okStore x0 := okStore_of (by omega)
 go_wp2_with fail
 refine (szInk_any _ x1 (1048576 - (sizeStore x0 : Nat)) _ a1 g1 (by omega) (by omega)).mono ?_
 rintro e w2 ⟨rfl, hb⟩
 have z2 : w1.heap.size + 0 ≤ w2.heap.size := by have := hb.size; (try simp at this); omega
 replace a0 := rStore.at_below a0 hb
 replace a1 := rInk.at_below a1 hb
 replace q1 := cell_later hb q1
 replace q2 := cell_later hb q2
 replace q3 := cell_later hb q3
 replace q4 := cell_later hb q4
 replace q5 := cell_later hb q5
 replace q6 := cell_later hb q6
 replace yq1 := cell_lt q1
 replace yq3 := cell_lt q3
 replace yq4 := cell_lt q4
 replace hbase := baseB0 hbase hb
 clear hb
 by_cases hszx1 : (1048576 - (sizeStore x0 : Nat) : Int) < (sizeInk x1 : Nat)
 ·rw [szOf_neg hszx1]
  go_wp2_with fail
  go_ret
  exact ret_bool rfl hbase
 rw [szOf_pos (by omega)]
 have ok_x1 : okInk x1 := okInk_of (by omega)
 go_wp2_with fail
 refine wp_region_rel2 11 (fun i v w' => match i with
   | 0 => v = .agg #[.int .i64 x0.1, .slice sa0 x0.2.length sc0]
   | 1 => rStore.own w2.heap.size w'.heap.size w' v x0
   | 2 => v = .agg #[.slice sa1 x1.length sc1]
   | 3 => rInk.own w2.heap.size w'.heap.size w' v x1
   | 4 => v = .agg #[.int .i64 x2.points, .int .i64 x2.most, .int .i64 x2.pen]
   | 5 => v = .agg #[.int .i64 x2.points, .int .i64 x2.most, .int .i64 x2.pen]
   | 6 => ∃ u, v = .tuple #[u, .int .i64 (latOfC x0 x1 x2)] ∧ rLattice.own w2.heap.size w'.heap.size w' u (latOfX x0 x1 x2)
   | 7 => ∃ u, v = .tuple #[u, .int .i64 (latOfC x0 x1 x2)] ∧ rLattice.own w2.heap.size w'.heap.size w' u (latOfX x0 x1 x2)
   | 8 => rLattice.own w2.heap.size w'.heap.size w' v (latOfX x0 x1 x2)
   | 9 => v = .int .i64 (latOfC x0 x1 x2)
   | 10 => ∃ p, v = .pointer (some ⟨p, 0, none⟩) ∧ w2.heap.size ≤ p ∧ w'.heap[p]? = some (.cells #[.int .i64 0, .slice none 0 0] 54 (0, 0))
   | 11 => True
   | _ => v = .int .i64 (latOfC x0 x1 x2))
  (fun i v w' => match i with
   | 0 => v = .agg #[.int .i64 x0.1, .slice sa0 x0.2.length sc0]
   | 1 => True
   | 2 => v = .agg #[.slice sa1 x1.length sc1]
   | 3 => True
   | 4 => v = .agg #[.int .i64 x2.points, .int .i64 x2.most, .int .i64 x2.pen]
   | 5 => v = .agg #[.int .i64 x2.points, .int .i64 x2.most, .int .i64 x2.pen]
   | 6 => ∃ u, v = .tuple #[u, .int .i64 (latOfC x0 x1 x2)] ∧ True
   | 7 => ∃ u, v = .tuple #[u, .int .i64 (latOfC x0 x1 x2)] ∧ True
   | 8 => True
   | 9 => v = .int .i64 (latOfC x0 x1 x2)
   | 10 => ∃ (p : Nat) (sa : Option Addr) (sc : Nat), v = .pointer (some ⟨p, 0, none⟩) ∧ w2.heap.size ≤ p ∧ w'.cell? ⟨p, 0, none⟩ = some (.int .i64 (latOfX x0 x1 x2).1) ∧ w'.cell? ⟨p, 1, none⟩ = some (.slice sa (latOfX x0 x1 x2).2.length sc) ∧ BoxT w' p 54 ∧ rLattice.own w2.heap.size w'.heap.size w' (.agg #[.int .i64 (latOfX x0 x1 x2).1, .slice sa (latOfX x0 x1 x2).2.length sc]) (latOfX x0 x1 x2)
   | 11 => True
   | _ => v = .int .i64 (latOfC x0 x1 x2)) (by kernel_rfl) (by kernel_rfl) (by kernel_rfl) (by kernel_rfl) ?_ ?_ ?_ ?_ (by decide) ?_
 ·intro i v w w' h hb
  match i, h with
  | 0, h => exact h
  | 1, h => exact rStore.own_now h hb
  | 2, h => exact h
  | 3, h => exact rInk.own_now h hb
  | 4, h => exact h
  | 5, h => exact h
  | 6, ⟨u, hu, ho⟩ => exact ⟨u, hu, rLattice.own_now ho hb⟩
  | 7, ⟨u, hu, ho⟩ => exact ⟨u, hu, rLattice.own_now ho hb⟩
  | 8, h => exact rLattice.own_now h hb
  | 9, h => exact h
  | 10, ⟨p, hp, hl, hc⟩ => exact ⟨p, hp, hl, (hb.block p (Array.getElem?_eq_some_iff.1 hc).1).trans hc⟩
  | 11, h => exact h
  | (m + 12), h => exact h
 ·intro i v w w' h hb
  match i, h with
  | 0, h => exact h
  | 1, h => exact h
  | 2, h => exact h
  | 3, h => exact h
  | 4, h => exact h
  | 5, h => exact h
  | 6, ⟨u, hu, ho⟩ => exact ⟨u, hu, ho⟩
  | 7, ⟨u, hu, ho⟩ => exact ⟨u, hu, ho⟩
  | 8, h => exact h
  | 9, h => exact h
  | 10, ⟨p, sa, sc, hp, hl, hc0, hc1, hk, ho⟩ => exact ⟨p, sa, sc, hp, hl, cell_later hb hc0, cell_later hb hc1, hk.below hb, rLattice.own_now ho hb⟩
  | 11, h => exact h
  | (m + 12), h => exact h
 ·refine ⟨?_, ?_, ?_, ?_, ?_, ?_, ?_, ?_, ?_, ?_, ?_, ?_, ?_, trivial⟩
  ·refine .inr ⟨fun _ => ?_, stage_no (by kernel_rfl)⟩
   intro ρ w' hbw ht hcs hfn hgl hdep
   refine ⟨fun _ => ?_, fun h => by cases h⟩
   have s3 : ρ (.tmp 3) = .pointer (some ⟨w.heap.size, 0, none⟩) := ht 3 rfl
   have c0 := cell_later hbw q1
   have c1 := cell_later hbw q2
   clear ht hdep
   go_simp
   exact ⟨Below.refl _ _, rfl⟩
  ·refine .inr ⟨fun _ => ?_, stage_no (by kernel_rfl)⟩
   intro ρ w' hbw ht hcs hfn hgl hdep
   refine ⟨fun _ => ?_, fun h => by cases h⟩
   have s30 : ρ (.tmp 30) = .agg #[.int .i64 x0.1, .slice sa0 x0.2.length sc0] := hdep ⟨0, .data⟩ (by simp) rfl 30 rfl
   clear ht hdep
   go_simp
   exact (toStore_any _ x0 w' (rStore.at_below a0 hbw) ok_x0).mono fun e w'' ⟨u, he, ho, hb⟩ => ⟨_, he, hb, rStore.own_mono ho hbw.size (Nat.le_refl _)⟩
  ·refine .inr ⟨fun _ => ?_, stage_no (by kernel_rfl)⟩
   intro ρ w' hbw ht hcs hfn hgl hdep
   refine ⟨fun _ => ?_, fun h => by cases h⟩
   have s4 : ρ (.tmp 4) = .pointer (some ⟨w.heap.size + 1, 0, none⟩) := ht 4 rfl
   have c0 := cell_later hbw q3
   clear ht hdep
   go_simp
   exact ⟨Below.refl _ _, rfl⟩
  ·refine .inr ⟨fun _ => ?_, stage_no (by kernel_rfl)⟩
   intro ρ w' hbw ht hcs hfn hgl hdep
   refine ⟨fun _ => ?_, fun h => by cases h⟩
   have s32 : ρ (.tmp 32) = .agg #[.slice sa1 x1.length sc1] := hdep ⟨2, .data⟩ (by simp) rfl 32 rfl
   clear ht hdep
   go_simp
   exact (toInk_any _ x1 w' (rInk.at_below a1 hbw) ok_x1).mono fun e w'' ⟨u, he, ho, hb⟩ => ⟨_, he, hb, rInk.own_mono ho hbw.size (Nat.le_refl _)⟩
  ·refine .inr ⟨fun _ => ?_, stage_no (by kernel_rfl)⟩
   intro ρ w' hbw ht hcs hfn hgl hdep
   refine ⟨fun _ => ?_, fun h => by cases h⟩
   have s5 : ρ (.tmp 5) = .pointer (some ⟨w.heap.size + 1 + 1, 0, none⟩) := ht 5 rfl
   have c0 := cell_later hbw q4
   have c1 := cell_later hbw q5
   have c2 := cell_later hbw q6
   clear ht hdep
   go_simp
   exact ⟨Below.refl _ _, rfl⟩
  ·refine .inr ⟨fun _ => ?_, stage_no (by kernel_rfl)⟩
   intro ρ w' hbw ht hcs hfn hgl hdep
   refine ⟨fun _ => ?_, fun h => by cases h⟩
   have s34 : ρ (.tmp 34) = .agg #[.int .i64 x2.points, .int .i64 x2.most, .int .i64 x2.pen] := hdep ⟨4, .data⟩ (by simp) rfl 34 rfl
   clear ht hdep
   go_simp
   exact (toSetting_any x2 w').mono fun e w'' ⟨he, hb⟩ => ⟨_, he, hb, rfl⟩
  ·refine .inr ⟨fun _ => ?_, stage_no (by kernel_rfl)⟩
   intro ρ w' hbw ht hcs hfn hgl hdep
   refine ⟨fun _ => ?_, fun h => by cases h⟩
   have o31 := hdep ⟨1, .data⟩ (by simp) rfl 31 rfl
   have o33 := hdep ⟨3, .data⟩ (by simp) rfl 33 rfl
   have s35 : ρ (.tmp 35) = .agg #[.int .i64 x2.points, .int .i64 x2.most, .int .i64 x2.pen] := hdep ⟨5, .data⟩ (by simp) rfl 35 rfl
   clear ht hdep
   go_simp
   exact (specLatticeOf_any _ x0 _ x1 x2 w' (rStore.own_at o31) (rInk.own_at o33) ok_x0 ok_x1 g0 g1).mono fun e w'' ⟨u, he, ho, hb⟩ => ⟨_, he, hb, u, rfl, rLattice.own_mono ho hbw.size (Nat.le_refl _)⟩
  ·refine .inr ⟨fun _ => ?_, stage_no (by kernel_rfl)⟩
   intro ρ w' hbw ht hcs hfn hgl hdep
   refine ⟨fun _ => ?_, fun h => by cases h⟩
   obtain ⟨u36, s36, o36⟩ := hdep ⟨6, .data⟩ (by simp) rfl 36 rfl
   clear ht hdep
   go_simp
   exact ⟨Below.refl _ _, _, rfl, o36⟩
  ·refine .inr ⟨fun _ => ?_, stage_no (by kernel_rfl)⟩
   intro ρ w' hbw ht hcs hfn hgl hdep
   refine ⟨fun _ => ?_, fun h => by cases h⟩
   obtain ⟨u29, s29, o29⟩ := hdep ⟨7, .data⟩ (by simp) rfl 29 rfl
   clear ht hdep
   go_simp
   exact ⟨Below.refl _ _, o29⟩
  ·refine .inr ⟨fun _ => ?_, fun _ => ?_⟩
   ·intro ρ w' hbw ht hcs hfn hgl hdep
    refine ⟨fun _ => ?_, fun h => by cases h⟩
    obtain ⟨u29, s29, o29⟩ := hdep ⟨7, .data⟩ (by simp) rfl 29 rfl
    clear ht hdep
    go_simp
    exact ⟨Below.refl _ _, rfl⟩
   ·intro ρ w' hbw ht hcs hfn hgl hdep
    refine ⟨fun _ => ?_, fun h => by cases h⟩
    obtain ⟨u29, s29, o29⟩ := hdep ⟨7, .data⟩ (by simp) rfl 29 rfl
    clear ht hdep
    go_simp
    exact ⟨Below.refl _ _, rfl⟩
  ·refine .inr ⟨fun _ => ?_, stage_no (by kernel_rfl)⟩
   intro ρ w' hbw ht hcs hfn hgl hdep
   refine ⟨fun _ => ?_, fun h => by cases h⟩
   clear ht hdep
   go_simp
   exact ⟨below_alloc _ _, _, rfl, hbw.size, heap_alloc_new _ _⟩
  ·exact .inl rfl
  ·refine .inr ⟨stage_no (by kernel_rfl), fun _ => ?_⟩
   intro ρ w' hbw ht hcs hfn hgl hdep
   refine ⟨fun _ => ?_, fun h => by cases h⟩
   have s38 : ρ (.tmp 38) = .int .i64 (latOfC x0 x1 x2) := hdep ⟨9, .data⟩ (by simp) rfl 38 rfl
   clear ht hdep
   go_simp
   exact ⟨Below.refl _ _, rfl⟩
 ·intro o ho
  obtain rfl := Option.some.inj ho
  refine ⟨rfl, fun ρ w' hbw ht hcs hdep => ?_⟩
  obtain ⟨pp, s8, hpl, hpc⟩ := hdep ⟨10, .data⟩ (by simp) rfl 8 rfl
  have ho := hdep ⟨8, .data⟩ (by simp) rfl 37 rfl
  clear hdep ht
  obtain ⟨sa, sc, hsh⟩ := shapeLattice (rLattice.own_at ho)
  have hcell0 : w'.cell? ⟨pp, 0, none⟩ = some (.int .i64 0) := by rw [cell_of_row w' pp 0 _ _ _ hpc]; rfl
  have hcell1 : w'.cell? ⟨pp, 1, none⟩ = some (.slice none 0 0) := by rw [cell_of_row w' pp 1 _ _ _ hpc]; rfl
  have hfree : ∀ j, w'.frozen? ⟨pp, j, none⟩ = false := fun j => frozen_of_row w' pp j _ _ hpc
  refine ⟨((w'.setCell ⟨pp, 0, none⟩ (.int .i64 (latOfX x0 x1 x2).1)).setCell ⟨pp, 1, none⟩ (.slice sa (latOfX x0 x1 x2).2.length sc)), ?_, ?_, trivial, ?_⟩
  ·clear ho
   go_simp
  ·exact ((hbw.setCell (by simpa using hpl) _).setCell (by simpa using hpl) _)
  ·intro j v hj hv hrho
   match j, hj, hv, hrho with
   | 0, _, h, _ => exact h
   | 1, _, _, _ => exact trivial
   | 2, _, h, _ => exact h
   | 3, _, _, _ => exact trivial
   | 4, _, h, _ => exact h
   | 5, _, h, _ => exact h
   | 6, _, ⟨u, hu, _⟩, _ => exact ⟨u, hu, trivial⟩
   | 7, _, ⟨u, hu, _⟩, _ => exact ⟨u, hu, trivial⟩
   | 8, _, _, _ => exact trivial
   | 9, _, h, _ => exact h
   | 10, _, _, hr =>
    rw [hsh] at ho
    exact ⟨pp, sa, sc, (hr 8 rfl).trans s8, hpl, by simp [go_sem, hcell0], by simp [go_sem, hcell1], (BoxT.set (BoxT.set ⟨_, _, hpc⟩)), rLattice.own_mono (rLattice.own_set (rLattice.own_set ho hpc rfl) (heap_setCell_same _ pp 0 _ _ (.int .i64 (latOfX x0 x1 x2).1) hpc) rfl) (Nat.le_refl _) (by simp)⟩
   | 11, _, _, _ => exact trivial
   | 12, _, h, _ => exact h
   | (m + 13), hj, _, _ => exact absurd hj (by simp)
 ·intro x w3 hb hx
  have hx0 : x 0 = .agg #[.int .i64 x0.1, .slice sa0 x0.2.length sc0] := hx 0 (by simp)
  have hx2 : x 2 = .agg #[.slice sa1 x1.length sc1] := hx 2 (by simp)
  have hx4 : x 4 = .agg #[.int .i64 x2.points, .int .i64 x2.most, .int .i64 x2.pen] := hx 4 (by simp)
  have hx5 : x 5 = .agg #[.int .i64 x2.points, .int .i64 x2.most, .int .i64 x2.pen] := hx 5 (by simp)
  have hx9 : x 9 = .int .i64 (latOfC x0 x1 x2) := hx 9 (by simp)
  have hx12 : x 12 = .int .i64 (latOfC x0 x1 x2) := hx 12 (by simp)
  obtain ⟨pp8, sb1, sd1, hx10, hppl, hpc0, hpc1, hppk, hppo⟩ := hx 10 (by simp)
  clear hx
  have z3 : w2.heap.size + 0 ≤ w3.heap.size := by have := hb.size; (try simp at this); omega
  replace a0 := rStore.at_below a0 hb
  replace a1 := rInk.at_below a1 hb
  replace q1 := cell_later hb q1
  replace q2 := cell_later hb q2
  replace q3 := cell_later hb q3
  replace q4 := cell_later hb q4
  replace q5 := cell_later hb q5
  replace q6 := cell_later hb q6
  replace yq1 := cell_lt q1
  replace yq3 := cell_lt q3
  replace yq4 := cell_lt q4
  replace hbase := baseB0 hbase hb
  clear hb
  simp only [putAll, Act.put, List.setIfInBounds_toArray, List.set_cons_succ, List.set_cons_zero, Nat.zero_add, Nat.reduceAdd, hx0, hx2, hx4, hx5, hx9, hx12, hx10]
  generalize x 1 = k8_1 at *
  generalize x 3 = k8_3 at *
  generalize x 6 = k8_6 at *
  generalize x 7 = k8_7 at *
  generalize x 8 = k8_8 at *
  clear hx0 hx2 hx4 hx5 hx9 hx12 hx10
  have o1 := hppo
  clear hppo
  have r8 := hppl
  clear hppl
  have rr8 : pp8 < w3.heap.size := cell_lt hpc0
  have kt8 := hppk
  clear hppk
  have q7 := hpc0
  clear hpc0
  have q8 := hpc1
  clear hpc1
  have yq7 := cell_lt q7
  go_wp2_with fail
  refine (toStore_any _ x0 _ a0 ok_x0).mono ?_
  rintro e w4 ⟨u2, rfl, o2, hb⟩
  obtain ⟨sb2, sd2, rfl⟩ := shapeStore (rStore.own_at o2)
  have z4 : w3.heap.size + 0 ≤ w4.heap.size := by have := hb.size; (try simp at this); omega
  replace a0 := rStore.at_below a0 hb
  replace a1 := rInk.at_below a1 hb
  replace o1 := rLattice.own_below o1 hb
  replace q1 := cell_later hb q1
  replace q2 := cell_later hb q2
  replace q3 := cell_later hb q3
  replace q4 := cell_later hb q4
  replace q5 := cell_later hb q5
  replace q6 := cell_later hb q6
  replace q7 := cell_later hb q7
  replace q8 := cell_later hb q8
  replace kt8 := kt8.below hb
  replace yq1 := cell_lt q1
  replace yq3 := cell_lt q3
  replace yq4 := cell_lt q4
  replace yq7 := cell_lt q7
  replace hbase := baseB0 hbase hb
  clear hb
  go_wp2_with fail
  refine (toInk_any _ x1 _ (rInk.at_alloc a1 _) ok_x1).mono ?_
  rintro e w5 ⟨u3, rfl, o3, hb⟩
  obtain ⟨sb3, sd3, rfl⟩ := shapeInk (rInk.own_at o3)
  replace o3 : rInk.own (w4.heap.size + 1) w5.heap.size w5 _ _ := rInk.own_mono o3 (by simp <;> omega) (Nat.le_refl _)
  have z5 : w4.heap.size + 1 ≤ w5.heap.size := by have := hb.size; (try simp at this); omega
  replace a0 := rStore.at_below (rStore.at_alloc a0 _) hb
  replace a1 := rInk.at_below (rInk.at_alloc a1 _) hb
  replace o1 := rLattice.own_below (rLattice.own_alloc o1 _) hb
  replace o2 := rStore.own_below (rStore.own_alloc o2 _) hb
  replace q1 := cell_later hb (cell_alloc q1 _)
  replace q2 := cell_later hb (cell_alloc q2 _)
  replace q3 := cell_later hb (cell_alloc q3 _)
  replace q4 := cell_later hb (cell_alloc q4 _)
  replace q5 := cell_later hb (cell_alloc q5 _)
  replace q6 := cell_later hb (cell_alloc q6 _)
  replace q7 := cell_later hb (cell_alloc q7 _)
  replace q8 := cell_later hb (cell_alloc q8 _)
  replace kt8 := (kt8.below (below_alloc _ _)).below hb
  have q9 : w5.cell? ⟨w4.heap.size, 0, none⟩ = some (.int .i64 x0.1) := cell_later hb (by first | simp | exact cell_alloc (by simp) _ | (rw [cell3c]; rfl))
  have q10 : w5.cell? ⟨w4.heap.size, 1, none⟩ = some (.slice sb2 x0.2.length sd2) := cell_later hb (by first | simp | exact cell_alloc (by simp) _ | (rw [cell3c]; rfl))
  replace yq1 := cell_lt q1
  replace yq3 := cell_lt q3
  replace yq4 := cell_lt q4
  replace yq7 := cell_lt q7
  have yq9 := cell_lt q9
  replace hbase := baseB1 hbase hb
  clear hb
  go_wp2_with fail
  obtain ⟨w6, hww6⟩ : ∃ u : World, u = (w5.alloc (.cells #[.slice sb3 x1.length sd3] 41)) := ⟨_, rfl⟩
  rw [← hww6]
  have hb : Below w5.heap.size w5 w6 := by rw [hww6]; exact belowA1 _ _
  have zzw6 : w5.heap.size + 1 ≤ w6.heap.size := by rw [hww6]; simp <;> omega
  have z6 : w5.heap.size + 0 ≤ w6.heap.size := by have := hb.size; (try simp at this); omega
  replace a0 := rStore.at_below a0 hb
  replace a1 := rInk.at_below a1 hb
  replace o1 := rLattice.own_below o1 hb
  replace o2 := rStore.own_below o2 hb
  replace o3 := rInk.own_below o3 hb
  replace q1 := cell_later hb q1
  replace q2 := cell_later hb q2
  replace q3 := cell_later hb q3
  replace q4 := cell_later hb q4
  replace q5 := cell_later hb q5
  replace q6 := cell_later hb q6
  replace q7 := cell_later hb q7
  replace q8 := cell_later hb q8
  replace q9 := cell_later hb q9
  replace q10 := cell_later hb q10
  replace kt8 := kt8.below hb
  replace yq1 := cell_lt q1
  replace yq3 := cell_lt q3
  replace yq4 := cell_lt q4
  replace yq7 := cell_lt q7
  replace yq9 := cell_lt q9
  replace hbase := baseB0 hbase hb
  clear hb
  have q11 : w6.cell? ⟨w5.heap.size, 0, none⟩ = some (.slice sb3 x1.length sd3) := by rw [hww6]; simp
  have yq11 := cell_lt q11
  clear hww6
  refine wp_region_rel2 9 (fun i v w' => match i with
    | 0 => v = .agg #[.int .i64 x0.1, .slice sb2 x0.2.length sd2]
    | 1 => v = .agg #[.slice sb3 x1.length sd3]
    | 2 => v = .agg #[.int .i64 x2.points, .int .i64 x2.most, .int .i64 x2.pen]
    | 3 => v = .agg #[.int .i64 x2.points, .int .i64 x2.most, .int .i64 x2.pen]
    | 4 => ∃ u, v = .tuple #[u, .int .i64 (latOfC x0 x1 x2)] ∧ rLattice.own w6.heap.size w'.heap.size w' u (latOfX x0 x1 x2)
    | 5 => ∃ u, v = .tuple #[u, .int .i64 (latOfC x0 x1 x2)] ∧ rLattice.own w6.heap.size w'.heap.size w' u (latOfX x0 x1 x2)
    | 6 => rLattice.own w6.heap.size w'.heap.size w' v (latOfX x0 x1 x2)
    | 7 => v = .int .i64 (latOfC x0 x1 x2)
    | 8 => ∃ p, v = .pointer (some ⟨p, 0, none⟩) ∧ w6.heap.size ≤ p ∧ w'.heap[p]? = some (.cells #[.int .i64 0, .slice none 0 0] 54 (0, 0))
    | 9 => True
    | _ => v = .int .i64 (latOfC x0 x1 x2))
   (fun i v w' => match i with
    | 0 => v = .agg #[.int .i64 x0.1, .slice sb2 x0.2.length sd2]
    | 1 => v = .agg #[.slice sb3 x1.length sd3]
    | 2 => v = .agg #[.int .i64 x2.points, .int .i64 x2.most, .int .i64 x2.pen]
    | 3 => v = .agg #[.int .i64 x2.points, .int .i64 x2.most, .int .i64 x2.pen]
    | 4 => ∃ u, v = .tuple #[u, .int .i64 (latOfC x0 x1 x2)] ∧ True
    | 5 => ∃ u, v = .tuple #[u, .int .i64 (latOfC x0 x1 x2)] ∧ True
    | 6 => True
    | 7 => v = .int .i64 (latOfC x0 x1 x2)
    | 8 => ∃ (p : Nat) (sa : Option Addr) (sc : Nat), v = .pointer (some ⟨p, 0, none⟩) ∧ w6.heap.size ≤ p ∧ w'.cell? ⟨p, 0, none⟩ = some (.int .i64 (latOfX x0 x1 x2).1) ∧ w'.cell? ⟨p, 1, none⟩ = some (.slice sa (latOfX x0 x1 x2).2.length sc) ∧ BoxT w' p 54 ∧ rLattice.own w6.heap.size w'.heap.size w' (.agg #[.int .i64 (latOfX x0 x1 x2).1, .slice sa (latOfX x0 x1 x2).2.length sc]) (latOfX x0 x1 x2)
    | 9 => True
    | _ => v = .int .i64 (latOfC x0 x1 x2)) (by kernel_rfl) (by kernel_rfl) (by kernel_rfl) (by kernel_rfl) ?_ ?_ ?_ ?_ (by decide) ?_
  ·intro i v w w' h hb
   match i, h with
   | 0, h => exact h
   | 1, h => exact h
   | 2, h => exact h
   | 3, h => exact h
   | 4, ⟨u, hu, ho⟩ => exact ⟨u, hu, rLattice.own_now ho hb⟩
   | 5, ⟨u, hu, ho⟩ => exact ⟨u, hu, rLattice.own_now ho hb⟩
   | 6, h => exact rLattice.own_now h hb
   | 7, h => exact h
   | 8, ⟨p, hp, hl, hc⟩ => exact ⟨p, hp, hl, (hb.block p (Array.getElem?_eq_some_iff.1 hc).1).trans hc⟩
   | 9, h => exact h
   | (m + 10), h => exact h
  ·intro i v w w' h hb
   match i, h with
   | 0, h => exact h
   | 1, h => exact h
   | 2, h => exact h
   | 3, h => exact h
   | 4, ⟨u, hu, ho⟩ => exact ⟨u, hu, ho⟩
   | 5, ⟨u, hu, ho⟩ => exact ⟨u, hu, ho⟩
   | 6, h => exact h
   | 7, h => exact h
   | 8, ⟨p, sa, sc, hp, hl, hc0, hc1, hk, ho⟩ => exact ⟨p, sa, sc, hp, hl, cell_later hb hc0, cell_later hb hc1, hk.below hb, rLattice.own_now ho hb⟩
   | 9, h => exact h
   | (m + 10), h => exact h
  ·refine ⟨?_, ?_, ?_, ?_, ?_, ?_, ?_, ?_, ?_, ?_, ?_, trivial⟩
   ·refine .inr ⟨fun _ => ?_, stage_no (by kernel_rfl)⟩
    intro ρ w' hbw ht hcs hfn hgl hdep
    refine ⟨fun _ => ?_, fun h => by cases h⟩
    have s10 : ρ (.tmp 10) = .pointer (some ⟨w4.heap.size, 0, none⟩) := ht 10 rfl
    have c0 := cell_later hbw q9
    have c1 := cell_later hbw q10
    clear ht hdep
    go_simp
    exact ⟨Below.refl _ _, rfl⟩
   ·refine .inr ⟨fun _ => ?_, stage_no (by kernel_rfl)⟩
    intro ρ w' hbw ht hcs hfn hgl hdep
    refine ⟨fun _ => ?_, fun h => by cases h⟩
    have s11 : ρ (.tmp 11) = .pointer (some ⟨w5.heap.size, 0, none⟩) := ht 11 rfl
    have c0 := cell_later hbw q11
    clear ht hdep
    go_simp
    exact ⟨Below.refl _ _, rfl⟩
   ·refine .inr ⟨fun _ => ?_, stage_no (by kernel_rfl)⟩
    intro ρ w' hbw ht hcs hfn hgl hdep
    refine ⟨fun _ => ?_, fun h => by cases h⟩
    have s5 : ρ (.tmp 5) = .pointer (some ⟨w.heap.size + 1 + 1, 0, none⟩) := ht 5 rfl
    have c0 := cell_later hbw q4
    have c1 := cell_later hbw q5
    have c2 := cell_later hbw q6
    clear ht hdep
    go_simp
    exact ⟨Below.refl _ _, rfl⟩
   ·refine .inr ⟨fun _ => ?_, stage_no (by kernel_rfl)⟩
    intro ρ w' hbw ht hcs hfn hgl hdep
    refine ⟨fun _ => ?_, fun h => by cases h⟩
    have s46 : ρ (.tmp 46) = .agg #[.int .i64 x2.points, .int .i64 x2.most, .int .i64 x2.pen] := hdep ⟨2, .data⟩ (by simp) rfl 46 rfl
    clear ht hdep
    go_simp
    exact (toSetting_any x2 w').mono fun e w'' ⟨he, hb⟩ => ⟨_, he, hb, rfl⟩
   ·refine .inr ⟨fun _ => ?_, stage_no (by kernel_rfl)⟩
    intro ρ w' hbw ht hcs hfn hgl hdep
    refine ⟨fun _ => ?_, fun h => by cases h⟩
    have s44 : ρ (.tmp 44) = .agg #[.int .i64 x0.1, .slice sb2 x0.2.length sd2] := hdep ⟨0, .data⟩ (by simp) rfl 44 rfl
    have s45 : ρ (.tmp 45) = .agg #[.slice sb3 x1.length sd3] := hdep ⟨1, .data⟩ (by simp) rfl 45 rfl
    have s47 : ρ (.tmp 47) = .agg #[.int .i64 x2.points, .int .i64 x2.most, .int .i64 x2.pen] := hdep ⟨3, .data⟩ (by simp) rfl 47 rfl
    clear ht hdep
    go_simp
    exact (implLatticeOf_any _ x0 _ x1 x2 w' (rStore.own_at (rStore.own_below o2 hbw)) (rInk.own_at (rInk.own_below o3 hbw)) ok_x0 ok_x1 g0 g1).mono fun e w'' ⟨u, he, ho, hb⟩ => ⟨_, he, hb, u, rfl, rLattice.own_mono ho hbw.size (Nat.le_refl _)⟩
   ·refine .inr ⟨fun _ => ?_, stage_no (by kernel_rfl)⟩
    intro ρ w' hbw ht hcs hfn hgl hdep
    refine ⟨fun _ => ?_, fun h => by cases h⟩
    obtain ⟨u48, s48, o48⟩ := hdep ⟨4, .data⟩ (by simp) rfl 48 rfl
    clear ht hdep
    go_simp
    exact ⟨Below.refl _ _, _, rfl, o48⟩
   ·refine .inr ⟨fun _ => ?_, stage_no (by kernel_rfl)⟩
    intro ρ w' hbw ht hcs hfn hgl hdep
    refine ⟨fun _ => ?_, fun h => by cases h⟩
    obtain ⟨u43, s43, o43⟩ := hdep ⟨5, .data⟩ (by simp) rfl 43 rfl
    clear ht hdep
    go_simp
    exact ⟨Below.refl _ _, o43⟩
   ·refine .inr ⟨fun _ => ?_, fun _ => ?_⟩
    ·intro ρ w' hbw ht hcs hfn hgl hdep
     refine ⟨fun _ => ?_, fun h => by cases h⟩
     obtain ⟨u43, s43, o43⟩ := hdep ⟨5, .data⟩ (by simp) rfl 43 rfl
     clear ht hdep
     go_simp
     exact ⟨Below.refl _ _, rfl⟩
    ·intro ρ w' hbw ht hcs hfn hgl hdep
     refine ⟨fun _ => ?_, fun h => by cases h⟩
     obtain ⟨u43, s43, o43⟩ := hdep ⟨5, .data⟩ (by simp) rfl 43 rfl
     clear ht hdep
     go_simp
     exact ⟨Below.refl _ _, rfl⟩
   ·refine .inr ⟨fun _ => ?_, stage_no (by kernel_rfl)⟩
    intro ρ w' hbw ht hcs hfn hgl hdep
    refine ⟨fun _ => ?_, fun h => by cases h⟩
    clear ht hdep
    go_simp
    exact ⟨below_alloc _ _, _, rfl, hbw.size, heap_alloc_new _ _⟩
   ·exact .inl rfl
   ·refine .inr ⟨stage_no (by kernel_rfl), fun _ => ?_⟩
    intro ρ w' hbw ht hcs hfn hgl hdep
    refine ⟨fun _ => ?_, fun h => by cases h⟩
    have s50 : ρ (.tmp 50) = .int .i64 (latOfC x0 x1 x2) := hdep ⟨7, .data⟩ (by simp) rfl 50 rfl
    clear ht hdep
    go_simp
    exact ⟨Below.refl _ _, rfl⟩
  ·intro o ho
   obtain rfl := Option.some.inj ho
   refine ⟨rfl, fun ρ w' hbw ht hcs hdep => ?_⟩
   obtain ⟨pp, s12, hpl, hpc⟩ := hdep ⟨8, .data⟩ (by simp) rfl 12 rfl
   have ho := hdep ⟨6, .data⟩ (by simp) rfl 49 rfl
   clear hdep ht
   obtain ⟨sa, sc, hsh⟩ := shapeLattice (rLattice.own_at ho)
   have hcell0 : w'.cell? ⟨pp, 0, none⟩ = some (.int .i64 0) := by rw [cell_of_row w' pp 0 _ _ _ hpc]; rfl
   have hcell1 : w'.cell? ⟨pp, 1, none⟩ = some (.slice none 0 0) := by rw [cell_of_row w' pp 1 _ _ _ hpc]; rfl
   have hfree : ∀ j, w'.frozen? ⟨pp, j, none⟩ = false := fun j => frozen_of_row w' pp j _ _ hpc
   refine ⟨((w'.setCell ⟨pp, 0, none⟩ (.int .i64 (latOfX x0 x1 x2).1)).setCell ⟨pp, 1, none⟩ (.slice sa (latOfX x0 x1 x2).2.length sc)), ?_, ?_, trivial, ?_⟩
   ·clear ho
    go_simp
   ·exact ((hbw.setCell (by simpa using hpl) _).setCell (by simpa using hpl) _)
   ·intro j v hj hv hrho
    match j, hj, hv, hrho with
    | 0, _, h, _ => exact h
    | 1, _, h, _ => exact h
    | 2, _, h, _ => exact h
    | 3, _, h, _ => exact h
    | 4, _, ⟨u, hu, _⟩, _ => exact ⟨u, hu, trivial⟩
    | 5, _, ⟨u, hu, _⟩, _ => exact ⟨u, hu, trivial⟩
    | 6, _, _, _ => exact trivial
    | 7, _, h, _ => exact h
    | 8, _, _, hr =>
     rw [hsh] at ho
     exact ⟨pp, sa, sc, (hr 12 rfl).trans s12, hpl, by simp [go_sem, hcell0], by simp [go_sem, hcell1], (BoxT.set (BoxT.set ⟨_, _, hpc⟩)), rLattice.own_mono (rLattice.own_set (rLattice.own_set ho hpc rfl) (heap_setCell_same _ pp 0 _ _ (.int .i64 (latOfX x0 x1 x2).1) hpc) rfl) (Nat.le_refl _) (by simp)⟩
    | 9, _, _, _ => exact trivial
    | 10, _, h, _ => exact h
    | (m + 11), hj, _, _ => exact absurd hj (by simp)
  ·intro x w7 hb hx
   have hx0 : x 0 = .agg #[.int .i64 x0.1, .slice sb2 x0.2.length sd2] := hx 0 (by simp)
   have hx1 : x 1 = .agg #[.slice sb3 x1.length sd3] := hx 1 (by simp)
   have hx2 : x 2 = .agg #[.int .i64 x2.points, .int .i64 x2.most, .int .i64 x2.pen] := hx 2 (by simp)
   have hx3 : x 3 = .agg #[.int .i64 x2.points, .int .i64 x2.most, .int .i64 x2.pen] := hx 3 (by simp)
   have hx7 : x 7 = .int .i64 (latOfC x0 x1 x2) := hx 7 (by simp)
   have hx10 : x 10 = .int .i64 (latOfC x0 x1 x2) := hx 10 (by simp)
   obtain ⟨pp11, sb4, sd4, hx8, hppl, hpc0, hpc1, hppk, hppo⟩ := hx 8 (by simp)
   clear hx
   have z7 : w6.heap.size + 0 ≤ w7.heap.size := by have := hb.size; (try simp at this); omega
   replace a0 := rStore.at_below a0 hb
   replace a1 := rInk.at_below a1 hb
   replace o1 := rLattice.own_below o1 hb
   replace o2 := rStore.own_below o2 hb
   replace o3 := rInk.own_below o3 hb
   replace q1 := cell_later hb q1
   replace q2 := cell_later hb q2
   replace q3 := cell_later hb q3
   replace q4 := cell_later hb q4
   replace q5 := cell_later hb q5
   replace q6 := cell_later hb q6
   replace q7 := cell_later hb q7
   replace q8 := cell_later hb q8
   replace q9 := cell_later hb q9
   replace q10 := cell_later hb q10
   replace q11 := cell_later hb q11
   replace kt8 := kt8.below hb
   replace yq1 := cell_lt q1
   replace yq3 := cell_lt q3
   replace yq4 := cell_lt q4
   replace yq7 := cell_lt q7
   replace yq9 := cell_lt q9
   replace yq11 := cell_lt q11
   replace hbase := baseB0 hbase hb
   clear hb
   simp only [putAll, Act.put, List.setIfInBounds_toArray, List.set_cons_succ, List.set_cons_zero, Nat.zero_add, Nat.reduceAdd, hx0, hx1, hx2, hx3, hx7, hx10, hx8]
   generalize x 4 = k11_4 at *
   generalize x 5 = k11_5 at *
   generalize x 6 = k11_6 at *
   clear hx0 hx1 hx2 hx3 hx7 hx10 hx8
   have o4 := hppo
   clear hppo
   have r11 := hppl
   clear hppl
   have rr11 : pp11 < w7.heap.size := cell_lt hpc0
   have kt11 := hppk
   clear hppk
   have q12 := hpc0
   clear hpc0
   have q13 := hpc1
   clear hpc1
   have yq12 := cell_lt q12
   go_wp2_with fail
   refine (eqLattice_any _ _ (latOfX x0 x1 x2) _ (rLattice.own_at o4) (rLattice.own_at o1)).mono ?_
   rintro e w8 ⟨rfl, hb⟩
   have z8 : w7.heap.size + 0 ≤ w8.heap.size := by have := hb.size; (try simp at this); omega
   replace a0 := rStore.at_below a0 hb
   replace a1 := rInk.at_below a1 hb
   replace o1 := rLattice.own_below o1 hb
   replace o2 := rStore.own_below o2 hb
   replace o3 := rInk.own_below o3 hb
   replace o4 := rLattice.own_below o4 hb
   replace q1 := cell_later hb q1
   replace q2 := cell_later hb q2
   replace q3 := cell_later hb q3
   replace q4 := cell_later hb q4
   replace q5 := cell_later hb q5
   replace q6 := cell_later hb q6
   replace q7 := cell_later hb q7
   replace q8 := cell_later hb q8
   replace q9 := cell_later hb q9
   replace q10 := cell_later hb q10
   replace q11 := cell_later hb q11
   replace q12 := cell_later hb q12
   replace q13 := cell_later hb q13
   replace kt8 := kt8.below hb
   replace kt11 := kt11.below hb
   replace yq1 := cell_lt q1
   replace yq3 := cell_lt q3
   replace yq4 := cell_lt q4
   replace yq7 := cell_lt q7
   replace yq9 := cell_lt q9
   replace yq11 := cell_lt q11
   replace yq12 := cell_lt q12
   replace hbase := baseB0 hbase hb
   clear hb
   go_wp2_with fail
   refine wp_region_rel (fun i v w' => match i with
     | 0 => v = .agg #[.int .i64 x0.1, .slice sb2 x0.2.length sd2]
     | 1 => v = .agg #[.int .i64 x0.1, .slice sa0 x0.2.length sc0]
     | 2 => rStore.own w8.heap.size w'.heap.size w' v x0
     | 3 => v = .bool true
     | _ => v = .bool false) (by kernel_rfl) (by kernel_rfl) (by kernel_rfl) (by kernel_rfl) ?_ ?_ ?_
   ·intro i v w w' h hb
    match i, h with
    | 0, h => exact h
    | 1, h => exact h
    | 2, h => exact rStore.own_now h hb
    | 3, h => exact h
    | (m + 4), h => exact h
   ·refine ⟨?_, ?_, ?_, ?_, ?_, trivial⟩
    ·intro ρ w' hbw ht hcs hfn hgl hdep
     refine ⟨fun _ => ?_, fun h => by cases h⟩
     have s10 : ρ (.tmp 10) = .pointer (some ⟨w4.heap.size, 0, none⟩) := ht 10 rfl
     have c0 := cell_later hbw q9
     have c1 := cell_later hbw q10
     clear ht hdep
     go_simp
     exact ⟨Below.refl _ _, rfl⟩
    ·intro ρ w' hbw ht hcs hfn hgl hdep
     refine ⟨fun _ => ?_, fun h => by cases h⟩
     have s3 : ρ (.tmp 3) = .pointer (some ⟨w.heap.size, 0, none⟩) := ht 3 rfl
     have c0 := cell_later hbw q1
     have c1 := cell_later hbw q2
     clear ht hdep
     go_simp
     exact ⟨Below.refl _ _, rfl⟩
    ·intro ρ w' hbw ht hcs hfn hgl hdep
     refine ⟨fun _ => ?_, fun h => by cases h⟩
     have s61 : ρ (.tmp 61) = .agg #[.int .i64 x0.1, .slice sa0 x0.2.length sc0] := hdep ⟨1, .data⟩ (by simp) rfl 61 rfl
     clear ht hdep
     go_simp
     exact (toStore_any _ x0 w' (rStore.at_below a0 hbw) ok_x0).mono fun e w'' ⟨u, he, ho, hb⟩ => ⟨_, he, hb, rStore.own_mono ho hbw.size (Nat.le_refl _)⟩
    ·intro ρ w' hbw ht hcs hfn hgl hdep
     refine ⟨fun _ => ?_, fun h => by cases h⟩
     have s60 : ρ (.tmp 60) = .agg #[.int .i64 x0.1, .slice sb2 x0.2.length sd2] := hdep ⟨0, .data⟩ (by simp) rfl 60 rfl
     have o62 := hdep ⟨2, .data⟩ (by simp) rfl 62 rfl
     clear ht hdep
     go_simp
     exact (eqStore_any _ _ x0 w' (rStore.own_at (rStore.own_below o2 hbw)) (rStore.own_at o62)).mono fun e w'' ⟨he, hb⟩ => ⟨_, he, hb, rfl⟩
    ·intro ρ w' hbw ht hcs hfn hgl hdep
     refine ⟨fun _ => ?_, fun h => by cases h⟩
     have s63 : ρ (.tmp 63) = .bool true := hdep ⟨3, .data⟩ (by simp) rfl 63 rfl
     clear ht hdep
     go_simp
     exact ⟨Below.refl _ _, rfl⟩
   ·intro x w9 hb hx
    have hx0 : x 0 = .agg #[.int .i64 x0.1, .slice sb2 x0.2.length sd2] := hx 0 (by simp)
    have hx1 : x 1 = .agg #[.int .i64 x0.1, .slice sa0 x0.2.length sc0] := hx 1 (by simp)
    have hx2 := hx 2 (by simp)
    have hx3 : x 3 = .bool true := hx 3 (by simp)
    have hx4 : x 4 = .bool false := hx 4 (by simp)
    clear hx
    have z9 : w8.heap.size + 0 ≤ w9.heap.size := by have := hb.size; (try simp at this); omega
    replace a0 := rStore.at_below a0 hb
    replace a1 := rInk.at_below a1 hb
    replace o1 := rLattice.own_below o1 hb
    replace o2 := rStore.own_below o2 hb
    replace o3 := rInk.own_below o3 hb
    replace o4 := rLattice.own_below o4 hb
    replace q1 := cell_later hb q1
    replace q2 := cell_later hb q2
    replace q3 := cell_later hb q3
    replace q4 := cell_later hb q4
    replace q5 := cell_later hb q5
    replace q6 := cell_later hb q6
    replace q7 := cell_later hb q7
    replace q8 := cell_later hb q8
    replace q9 := cell_later hb q9
    replace q10 := cell_later hb q10
    replace q11 := cell_later hb q11
    replace q12 := cell_later hb q12
    replace q13 := cell_later hb q13
    replace kt8 := kt8.below hb
    replace kt11 := kt11.below hb
    replace yq1 := cell_lt q1
    replace yq3 := cell_lt q3
    replace yq4 := cell_lt q4
    replace yq7 := cell_lt q7
    replace yq9 := cell_lt q9
    replace yq11 := cell_lt q11
    replace yq12 := cell_lt q12
    replace hbase := baseB0 hbase hb
    clear hb
    simp only [putAll, Act.put, List.setIfInBounds_toArray, List.set_cons_succ, List.set_cons_zero, Nat.zero_add, Nat.reduceAdd, hx0, hx1, hx3, hx4]
    generalize x 2 = k14_2 at *
    clear hx0 hx1 hx3 hx4
    have o5 := hx2
    clear hx2
    obtain ⟨sb5, sd5, hsh5⟩ := shapeStore (rStore.own_at o5)
    subst hsh5
    go_wp2_with fail
    refine wp_region_rel (fun i v w' => match i with
      | 0 => v = .agg #[.slice sb3 x1.length sd3]
      | 1 => v = .agg #[.slice sa1 x1.length sc1]
      | 2 => rInk.own w9.heap.size w'.heap.size w' v x1
      | 3 => v = .bool true
      | _ => v = .bool false) (by kernel_rfl) (by kernel_rfl) (by kernel_rfl) (by kernel_rfl) ?_ ?_ ?_
    ·intro i v w w' h hb
     match i, h with
     | 0, h => exact h
     | 1, h => exact h
     | 2, h => exact rInk.own_now h hb
     | 3, h => exact h
     | (m + 4), h => exact h
    ·refine ⟨?_, ?_, ?_, ?_, ?_, trivial⟩
     ·intro ρ w' hbw ht hcs hfn hgl hdep
      refine ⟨fun _ => ?_, fun h => by cases h⟩
      have s11 : ρ (.tmp 11) = .pointer (some ⟨w5.heap.size, 0, none⟩) := ht 11 rfl
      have c0 := cell_later hbw q11
      clear ht hdep
      go_simp
      exact ⟨Below.refl _ _, rfl⟩
     ·intro ρ w' hbw ht hcs hfn hgl hdep
      refine ⟨fun _ => ?_, fun h => by cases h⟩
      have s4 : ρ (.tmp 4) = .pointer (some ⟨w.heap.size + 1, 0, none⟩) := ht 4 rfl
      have c0 := cell_later hbw q3
      clear ht hdep
      go_simp
      exact ⟨Below.refl _ _, rfl⟩
     ·intro ρ w' hbw ht hcs hfn hgl hdep
      refine ⟨fun _ => ?_, fun h => by cases h⟩
      have s66 : ρ (.tmp 66) = .agg #[.slice sa1 x1.length sc1] := hdep ⟨1, .data⟩ (by simp) rfl 66 rfl
      clear ht hdep
      go_simp
      exact (toInk_any _ x1 w' (rInk.at_below a1 hbw) ok_x1).mono fun e w'' ⟨u, he, ho, hb⟩ => ⟨_, he, hb, rInk.own_mono ho hbw.size (Nat.le_refl _)⟩
     ·intro ρ w' hbw ht hcs hfn hgl hdep
      refine ⟨fun _ => ?_, fun h => by cases h⟩
      have s65 : ρ (.tmp 65) = .agg #[.slice sb3 x1.length sd3] := hdep ⟨0, .data⟩ (by simp) rfl 65 rfl
      have o67 := hdep ⟨2, .data⟩ (by simp) rfl 67 rfl
      clear ht hdep
      go_simp
      exact (eqInk_any _ _ x1 w' (rInk.own_at (rInk.own_below o3 hbw)) (rInk.own_at o67)).mono fun e w'' ⟨he, hb⟩ => ⟨_, he, hb, rfl⟩
     ·intro ρ w' hbw ht hcs hfn hgl hdep
      refine ⟨fun _ => ?_, fun h => by cases h⟩
      have s68 : ρ (.tmp 68) = .bool true := hdep ⟨3, .data⟩ (by simp) rfl 68 rfl
      clear ht hdep
      go_simp
      exact ⟨Below.refl _ _, rfl⟩
    ·intro x w10 hb hx
     have hx0 : x 0 = .agg #[.slice sb3 x1.length sd3] := hx 0 (by simp)
     have hx1 : x 1 = .agg #[.slice sa1 x1.length sc1] := hx 1 (by simp)
     have hx2 := hx 2 (by simp)
     have hx3 : x 3 = .bool true := hx 3 (by simp)
     have hx4 : x 4 = .bool false := hx 4 (by simp)
     clear hx
     have z10 : w9.heap.size + 0 ≤ w10.heap.size := by have := hb.size; (try simp at this); omega
     replace a0 := rStore.at_below a0 hb
     replace a1 := rInk.at_below a1 hb
     replace o1 := rLattice.own_below o1 hb
     replace o2 := rStore.own_below o2 hb
     replace o3 := rInk.own_below o3 hb
     replace o4 := rLattice.own_below o4 hb
     replace o5 := rStore.own_below o5 hb
     replace q1 := cell_later hb q1
     replace q2 := cell_later hb q2
     replace q3 := cell_later hb q3
     replace q4 := cell_later hb q4
     replace q5 := cell_later hb q5
     replace q6 := cell_later hb q6
     replace q7 := cell_later hb q7
     replace q8 := cell_later hb q8
     replace q9 := cell_later hb q9
     replace q10 := cell_later hb q10
     replace q11 := cell_later hb q11
     replace q12 := cell_later hb q12
     replace q13 := cell_later hb q13
     replace kt8 := kt8.below hb
     replace kt11 := kt11.below hb
     replace yq1 := cell_lt q1
     replace yq3 := cell_lt q3
     replace yq4 := cell_lt q4
     replace yq7 := cell_lt q7
     replace yq9 := cell_lt q9
     replace yq11 := cell_lt q11
     replace yq12 := cell_lt q12
     replace hbase := baseB0 hbase hb
     clear hb
     simp only [putAll, Act.put, List.setIfInBounds_toArray, List.set_cons_succ, List.set_cons_zero, Nat.zero_add, Nat.reduceAdd, hx0, hx1, hx3, hx4]
     generalize x 2 = k16_2 at *
     clear hx0 hx1 hx3 hx4
     have o6 := hx2
     clear hx2
     obtain ⟨sb6, sd6, hsh6⟩ := shapeInk (rInk.own_at o6)
     subst hsh6
     go_wp2_with fail
     refine (markStore_any _ x0 _ _ (1) _ o2 ok_x0 (by omega) (by omega)).mono ?_
     rintro e w11 ⟨rfl, o2n, hc, hty⟩
     have z11 : w10.heap.size + 0 ≤ w11.heap.size := by have := hc.size; (try simp at this); omega
     replace a0 := rStore.at_chg a0 hc (by first | (left; omega) | (right; omega))
     replace a1 := rInk.at_chg a1 hc (by first | (left; omega) | (right; omega))
     replace o1 := rLattice.own_chg o1 hc (by first | (left; omega) | (right; omega))
     replace o3 := rInk.own_chg o3 hc (by first | (left; omega) | (right; omega))
     replace o4 := rLattice.own_chg o4 hc (by first | (left; omega) | (right; omega))
     replace o5 := rStore.own_chg o5 hc (by first | (left; omega) | (right; omega))
     replace o6 := rInk.own_chg o6 hc (by first | (left; omega) | (right; omega))
     replace q1 := chg_cell hc q1 (by first | (left; omega) | (right; omega))
     replace q2 := chg_cell hc q2 (by first | (left; omega) | (right; omega))
     replace q3 := chg_cell hc q3 (by first | (left; omega) | (right; omega))
     replace q4 := chg_cell hc q4 (by first | (left; omega) | (right; omega))
     replace q5 := chg_cell hc q5 (by first | (left; omega) | (right; omega))
     replace q6 := chg_cell hc q6 (by first | (left; omega) | (right; omega))
     replace q7 := typed_cell hty kt8 rfl q7
     replace q8 := typed_cell hty kt8 rfl q8
     replace q9 := chg_cell hc q9 (by first | (left; omega) | (right; omega))
     replace q10 := chg_cell hc q10 (by first | (left; omega) | (right; omega))
     replace q11 := chg_cell hc q11 (by first | (left; omega) | (right; omega))
     replace q12 := typed_cell hty kt11 rfl q12
     replace q13 := typed_cell hty kt11 rfl q13
     replace kt8 := kt8.typed hty rfl
     replace kt11 := kt11.typed hty rfl
     replace yq1 := cell_lt q1
     replace yq3 := cell_lt q3
     replace yq4 := cell_lt q4
     replace yq7 := cell_lt q7
     replace yq9 := cell_lt q9
     replace yq11 := cell_lt q11
     replace yq12 := cell_lt q12
     replace hbase := below_chg hbase hc (by omega)
     clear hc
     clear hty
     clear o2
     have o2 := o2n
     clear o2n
     have cn11 : 0 ≤ cntStore x0 ∧ cntStore x0 ≤ 3200000 := cntStore_bd2 ok_x0
     go_wp2_with fail
     refine (markInk_any _ x1 _ _ (1 + cntStore x0) _ o3 ok_x1 (by omega) (by omega)).mono ?_
     rintro e w12 ⟨rfl, o3n, hc, hty⟩
     have z12 : w11.heap.size + 0 ≤ w12.heap.size := by have := hc.size; (try simp at this); omega
     replace a0 := rStore.at_chg a0 hc (by first | (left; omega) | (right; omega))
     replace a1 := rInk.at_chg a1 hc (by first | (left; omega) | (right; omega))
     replace o1 := rLattice.own_chg o1 hc (by first | (left; omega) | (right; omega))
     replace o2 := rStore.own_chg o2 hc (by first | (left; omega) | (right; omega))
     replace o4 := rLattice.own_chg o4 hc (by first | (left; omega) | (right; omega))
     replace o5 := rStore.own_chg o5 hc (by first | (left; omega) | (right; omega))
     replace o6 := rInk.own_chg o6 hc (by first | (left; omega) | (right; omega))
     replace q1 := chg_cell hc q1 (by first | (left; omega) | (right; omega))
     replace q2 := chg_cell hc q2 (by first | (left; omega) | (right; omega))
     replace q3 := chg_cell hc q3 (by first | (left; omega) | (right; omega))
     replace q4 := chg_cell hc q4 (by first | (left; omega) | (right; omega))
     replace q5 := chg_cell hc q5 (by first | (left; omega) | (right; omega))
     replace q6 := chg_cell hc q6 (by first | (left; omega) | (right; omega))
     replace q7 := typed_cell hty kt8 rfl q7
     replace q8 := typed_cell hty kt8 rfl q8
     replace q9 := chg_cell hc q9 (by first | (left; omega) | (right; omega))
     replace q10 := chg_cell hc q10 (by first | (left; omega) | (right; omega))
     replace q11 := chg_cell hc q11 (by first | (left; omega) | (right; omega))
     replace q12 := typed_cell hty kt11 rfl q12
     replace q13 := typed_cell hty kt11 rfl q13
     replace kt8 := kt8.typed hty rfl
     replace kt11 := kt11.typed hty rfl
     replace yq1 := cell_lt q1
     replace yq3 := cell_lt q3
     replace yq4 := cell_lt q4
     replace yq7 := cell_lt q7
     replace yq9 := cell_lt q9
     replace yq11 := cell_lt q11
     replace yq12 := cell_lt q12
     replace hbase := below_chg hbase hc (by omega)
     clear hc
     clear hty
     clear o3
     have o3 := o3n
     clear o3n
     have cn12 : 0 ≤ cntInk x1 ∧ cntInk x1 ≤ 10000000 := cntInk_bd ok_x1
     go_wp2_with fail
     refine (eqLattice_any _ _ (latOfX x0 x1 x2) _ (rLattice.own_at o4) (rLattice.own_at o1)).mono ?_
     rintro e w13 ⟨rfl, hb⟩
     have z13 : w12.heap.size + 0 ≤ w13.heap.size := by have := hb.size; (try simp at this); omega
     replace a0 := rStore.at_below a0 hb
     replace a1 := rInk.at_below a1 hb
     replace o1 := rLattice.own_below o1 hb
     replace o2 := rStore.own_below o2 hb
     replace o3 := rInk.own_below o3 hb
     replace o4 := rLattice.own_below o4 hb
     replace o5 := rStore.own_below o5 hb
     replace o6 := rInk.own_below o6 hb
     replace q1 := cell_later hb q1
     replace q2 := cell_later hb q2
     replace q3 := cell_later hb q3
     replace q4 := cell_later hb q4
     replace q5 := cell_later hb q5
     replace q6 := cell_later hb q6
     replace q7 := cell_later hb q7
     replace q8 := cell_later hb q8
     replace q9 := cell_later hb q9
     replace q10 := cell_later hb q10
     replace q11 := cell_later hb q11
     replace q12 := cell_later hb q12
     replace q13 := cell_later hb q13
     replace kt8 := kt8.below hb
     replace kt11 := kt11.below hb
     replace yq1 := cell_lt q1
     replace yq3 := cell_lt q3
     replace yq4 := cell_lt q4
     replace yq7 := cell_lt q7
     replace yq9 := cell_lt q9
     replace yq11 := cell_lt q11
     replace yq12 := cell_lt q12
     replace hbase := baseB0 hbase hb
     clear hb
     go_wp2_with fail
     refine (markLattice_any _ (latOfX x0 x1 x2) _ _ (1) _ o4 (okLatOf) (by omega) (by omega)).mono ?_
     rintro e w14 ⟨rfl, o4n, hc, hty⟩
     have z14 : w13.heap.size + 0 ≤ w14.heap.size := by have := hc.size; (try simp at this); omega
     replace a0 := rStore.at_chg a0 hc (by first | (left; omega) | (right; omega))
     replace a1 := rInk.at_chg a1 hc (by first | (left; omega) | (right; omega))
     replace o1 := rLattice.own_chg o1 hc (by first | (left; omega) | (right; omega))
     replace o2 := rStore.own_chg o2 hc (by first | (left; omega) | (right; omega))
     replace o3 := rInk.own_chg o3 hc (by first | (left; omega) | (right; omega))
     replace o5 := rStore.own_chg o5 hc (by first | (left; omega) | (right; omega))
     replace o6 := rInk.own_chg o6 hc (by first | (left; omega) | (right; omega))
     replace q1 := chg_cell hc q1 (by first | (left; omega) | (right; omega))
     replace q2 := chg_cell hc q2 (by first | (left; omega) | (right; omega))
     replace q3 := chg_cell hc q3 (by first | (left; omega) | (right; omega))
     replace q4 := chg_cell hc q4 (by first | (left; omega) | (right; omega))
     replace q5 := chg_cell hc q5 (by first | (left; omega) | (right; omega))
     replace q6 := chg_cell hc q6 (by first | (left; omega) | (right; omega))
     replace q7 := typed_cell hty kt8 rfl q7
     replace q8 := typed_cell hty kt8 rfl q8
     replace q9 := chg_cell hc q9 (by first | (left; omega) | (right; omega))
     replace q10 := chg_cell hc q10 (by first | (left; omega) | (right; omega))
     replace q11 := chg_cell hc q11 (by first | (left; omega) | (right; omega))
     replace q12 := typed_cell hty kt11 rfl q12
     replace q13 := typed_cell hty kt11 rfl q13
     replace kt8 := kt8.typed hty rfl
     replace kt11 := kt11.typed hty rfl
     replace yq1 := cell_lt q1
     replace yq3 := cell_lt q3
     replace yq4 := cell_lt q4
     replace yq7 := cell_lt q7
     replace yq9 := cell_lt q9
     replace yq11 := cell_lt q11
     replace yq12 := cell_lt q12
     replace hbase := below_chg hbase hc (by omega)
     clear hc
     clear hty
     clear o4
     have o4 := o4n
     clear o4n
     have cn14 : 0 ≤ cntLattice (latOfX x0 x1 x2) ∧ cntLattice (latOfX x0 x1 x2) ≤ 10000000 := cntLattice_bd (okLatOf)
     go_wp2_with fail
     refine (heldLattice_any _ (latOfX x0 x1 x2) (1) _ (rLattice.own_at o4) (okLatOf) (by omega) (by omega)).mono ?_
     rintro e w15 ⟨rfl, hb⟩
     have z15 : w14.heap.size + 0 ≤ w15.heap.size := by have := hb.size; (try simp at this); omega
     replace a0 := rStore.at_below a0 hb
     replace a1 := rInk.at_below a1 hb
     replace o1 := rLattice.own_below o1 hb
     replace o2 := rStore.own_below o2 hb
     replace o3 := rInk.own_below o3 hb
     replace o4 := rLattice.own_below o4 hb
     replace o5 := rStore.own_below o5 hb
     replace o6 := rInk.own_below o6 hb
     replace q1 := cell_later hb q1
     replace q2 := cell_later hb q2
     replace q3 := cell_later hb q3
     replace q4 := cell_later hb q4
     replace q5 := cell_later hb q5
     replace q6 := cell_later hb q6
     replace q7 := cell_later hb q7
     replace q8 := cell_later hb q8
     replace q9 := cell_later hb q9
     replace q10 := cell_later hb q10
     replace q11 := cell_later hb q11
     replace q12 := cell_later hb q12
     replace q13 := cell_later hb q13
     replace kt8 := kt8.below hb
     replace kt11 := kt11.below hb
     replace yq1 := cell_lt q1
     replace yq3 := cell_lt q3
     replace yq4 := cell_lt q4
     replace yq7 := cell_lt q7
     replace yq9 := cell_lt q9
     replace yq11 := cell_lt q11
     replace yq12 := cell_lt q12
     replace hbase := baseB0 hbase hb
     clear hb
     go_wp2_with fail
     refine wp_region_rel2 11 (fun i v w' => match i with
       | 0 => v = .agg #[.int .i64 x0.1, .slice sa0 x0.2.length sc0]
       | 1 => rStore.own w15.heap.size w'.heap.size w' v x0
       | 2 => v = .agg #[.slice sa1 x1.length sc1]
       | 3 => rInk.own w15.heap.size w'.heap.size w' v x1
       | 4 => v = .agg #[.int .i64 x2.points, .int .i64 x2.most, .int .i64 x2.pen]
       | 5 => v = .agg #[.int .i64 x2.points, .int .i64 x2.most, .int .i64 x2.pen]
       | 6 => ∃ u, v = .tuple #[u, .int .i64 (latOfC x0 x1 x2)] ∧ rLattice.own w15.heap.size w'.heap.size w' u (latOfX x0 x1 x2)
       | 7 => ∃ u, v = .tuple #[u, .int .i64 (latOfC x0 x1 x2)] ∧ rLattice.own w15.heap.size w'.heap.size w' u (latOfX x0 x1 x2)
       | 8 => rLattice.own w15.heap.size w'.heap.size w' v (latOfX x0 x1 x2)
       | 9 => v = .int .i64 (latOfC x0 x1 x2)
       | 10 => ∃ p, v = .pointer (some ⟨p, 0, none⟩) ∧ w15.heap.size ≤ p ∧ w'.heap[p]? = some (.cells #[.int .i64 0, .slice none 0 0] 54 (0, 0))
       | 11 => True
       | _ => v = .int .i64 (latOfC x0 x1 x2))
      (fun i v w' => match i with
       | 0 => v = .agg #[.int .i64 x0.1, .slice sa0 x0.2.length sc0]
       | 1 => True
       | 2 => v = .agg #[.slice sa1 x1.length sc1]
       | 3 => True
       | 4 => v = .agg #[.int .i64 x2.points, .int .i64 x2.most, .int .i64 x2.pen]
       | 5 => v = .agg #[.int .i64 x2.points, .int .i64 x2.most, .int .i64 x2.pen]
       | 6 => ∃ u, v = .tuple #[u, .int .i64 (latOfC x0 x1 x2)] ∧ True
       | 7 => ∃ u, v = .tuple #[u, .int .i64 (latOfC x0 x1 x2)] ∧ True
       | 8 => True
       | 9 => v = .int .i64 (latOfC x0 x1 x2)
       | 10 => ∃ (p : Nat) (sa : Option Addr) (sc : Nat), v = .pointer (some ⟨p, 0, none⟩) ∧ w15.heap.size ≤ p ∧ w'.cell? ⟨p, 0, none⟩ = some (.int .i64 (latOfX x0 x1 x2).1) ∧ w'.cell? ⟨p, 1, none⟩ = some (.slice sa (latOfX x0 x1 x2).2.length sc) ∧ BoxT w' p 54 ∧ rLattice.own w15.heap.size w'.heap.size w' (.agg #[.int .i64 (latOfX x0 x1 x2).1, .slice sa (latOfX x0 x1 x2).2.length sc]) (latOfX x0 x1 x2)
       | 11 => True
       | _ => v = .int .i64 (latOfC x0 x1 x2)) (by kernel_rfl) (by kernel_rfl) (by kernel_rfl) (by kernel_rfl) ?_ ?_ ?_ ?_ (by decide) ?_
     ·intro i v w w' h hb
      match i, h with
      | 0, h => exact h
      | 1, h => exact rStore.own_now h hb
      | 2, h => exact h
      | 3, h => exact rInk.own_now h hb
      | 4, h => exact h
      | 5, h => exact h
      | 6, ⟨u, hu, ho⟩ => exact ⟨u, hu, rLattice.own_now ho hb⟩
      | 7, ⟨u, hu, ho⟩ => exact ⟨u, hu, rLattice.own_now ho hb⟩
      | 8, h => exact rLattice.own_now h hb
      | 9, h => exact h
      | 10, ⟨p, hp, hl, hc⟩ => exact ⟨p, hp, hl, (hb.block p (Array.getElem?_eq_some_iff.1 hc).1).trans hc⟩
      | 11, h => exact h
      | (m + 12), h => exact h
     ·intro i v w w' h hb
      match i, h with
      | 0, h => exact h
      | 1, h => exact h
      | 2, h => exact h
      | 3, h => exact h
      | 4, h => exact h
      | 5, h => exact h
      | 6, ⟨u, hu, ho⟩ => exact ⟨u, hu, ho⟩
      | 7, ⟨u, hu, ho⟩ => exact ⟨u, hu, ho⟩
      | 8, h => exact h
      | 9, h => exact h
      | 10, ⟨p, sa, sc, hp, hl, hc0, hc1, hk, ho⟩ => exact ⟨p, sa, sc, hp, hl, cell_later hb hc0, cell_later hb hc1, hk.below hb, rLattice.own_now ho hb⟩
      | 11, h => exact h
      | (m + 12), h => exact h
     ·refine ⟨?_, ?_, ?_, ?_, ?_, ?_, ?_, ?_, ?_, ?_, ?_, ?_, ?_, trivial⟩
      ·refine .inr ⟨fun _ => ?_, stage_no (by kernel_rfl)⟩
       intro ρ w' hbw ht hcs hfn hgl hdep
       refine ⟨fun _ => ?_, fun h => by cases h⟩
       have s3 : ρ (.tmp 3) = .pointer (some ⟨w.heap.size, 0, none⟩) := ht 3 rfl
       have c0 := cell_later hbw q1
       have c1 := cell_later hbw q2
       clear ht hdep
       go_simp
       exact ⟨Below.refl _ _, rfl⟩
      ·refine .inr ⟨fun _ => ?_, stage_no (by kernel_rfl)⟩
       intro ρ w' hbw ht hcs hfn hgl hdep
       refine ⟨fun _ => ?_, fun h => by cases h⟩
       have s101 : ρ (.tmp 101) = .agg #[.int .i64 x0.1, .slice sa0 x0.2.length sc0] := hdep ⟨0, .data⟩ (by simp) rfl 101 rfl
       clear ht hdep
       go_simp
       exact (toStore_any _ x0 w' (rStore.at_below a0 hbw) ok_x0).mono fun e w'' ⟨u, he, ho, hb⟩ => ⟨_, he, hb, rStore.own_mono ho hbw.size (Nat.le_refl _)⟩
      ·refine .inr ⟨fun _ => ?_, stage_no (by kernel_rfl)⟩
       intro ρ w' hbw ht hcs hfn hgl hdep
       refine ⟨fun _ => ?_, fun h => by cases h⟩
       have s4 : ρ (.tmp 4) = .pointer (some ⟨w.heap.size + 1, 0, none⟩) := ht 4 rfl
       have c0 := cell_later hbw q3
       clear ht hdep
       go_simp
       exact ⟨Below.refl _ _, rfl⟩
      ·refine .inr ⟨fun _ => ?_, stage_no (by kernel_rfl)⟩
       intro ρ w' hbw ht hcs hfn hgl hdep
       refine ⟨fun _ => ?_, fun h => by cases h⟩
       have s103 : ρ (.tmp 103) = .agg #[.slice sa1 x1.length sc1] := hdep ⟨2, .data⟩ (by simp) rfl 103 rfl
       clear ht hdep
       go_simp
       exact (toInk_any _ x1 w' (rInk.at_below a1 hbw) ok_x1).mono fun e w'' ⟨u, he, ho, hb⟩ => ⟨_, he, hb, rInk.own_mono ho hbw.size (Nat.le_refl _)⟩
      ·refine .inr ⟨fun _ => ?_, stage_no (by kernel_rfl)⟩
       intro ρ w' hbw ht hcs hfn hgl hdep
       refine ⟨fun _ => ?_, fun h => by cases h⟩
       have s5 : ρ (.tmp 5) = .pointer (some ⟨w.heap.size + 1 + 1, 0, none⟩) := ht 5 rfl
       have c0 := cell_later hbw q4
       have c1 := cell_later hbw q5
       have c2 := cell_later hbw q6
       clear ht hdep
       go_simp
       exact ⟨Below.refl _ _, rfl⟩
      ·refine .inr ⟨fun _ => ?_, stage_no (by kernel_rfl)⟩
       intro ρ w' hbw ht hcs hfn hgl hdep
       refine ⟨fun _ => ?_, fun h => by cases h⟩
       have s105 : ρ (.tmp 105) = .agg #[.int .i64 x2.points, .int .i64 x2.most, .int .i64 x2.pen] := hdep ⟨4, .data⟩ (by simp) rfl 105 rfl
       clear ht hdep
       go_simp
       exact (toSetting_any x2 w').mono fun e w'' ⟨he, hb⟩ => ⟨_, he, hb, rfl⟩
      ·refine .inr ⟨fun _ => ?_, stage_no (by kernel_rfl)⟩
       intro ρ w' hbw ht hcs hfn hgl hdep
       refine ⟨fun _ => ?_, fun h => by cases h⟩
       have o102 := hdep ⟨1, .data⟩ (by simp) rfl 102 rfl
       have o104 := hdep ⟨3, .data⟩ (by simp) rfl 104 rfl
       have s106 : ρ (.tmp 106) = .agg #[.int .i64 x2.points, .int .i64 x2.most, .int .i64 x2.pen] := hdep ⟨5, .data⟩ (by simp) rfl 106 rfl
       clear ht hdep
       go_simp
       exact (implLatticeOf_any _ x0 _ x1 x2 w' (rStore.own_at o102) (rInk.own_at o104) ok_x0 ok_x1 g0 g1).mono fun e w'' ⟨u, he, ho, hb⟩ => ⟨_, he, hb, u, rfl, rLattice.own_mono ho hbw.size (Nat.le_refl _)⟩
      ·refine .inr ⟨fun _ => ?_, stage_no (by kernel_rfl)⟩
       intro ρ w' hbw ht hcs hfn hgl hdep
       refine ⟨fun _ => ?_, fun h => by cases h⟩
       obtain ⟨u107, s107, o107⟩ := hdep ⟨6, .data⟩ (by simp) rfl 107 rfl
       clear ht hdep
       go_simp
       exact ⟨Below.refl _ _, _, rfl, o107⟩
      ·refine .inr ⟨fun _ => ?_, stage_no (by kernel_rfl)⟩
       intro ρ w' hbw ht hcs hfn hgl hdep
       refine ⟨fun _ => ?_, fun h => by cases h⟩
       obtain ⟨u100, s100, o100⟩ := hdep ⟨7, .data⟩ (by simp) rfl 100 rfl
       clear ht hdep
       go_simp
       exact ⟨Below.refl _ _, o100⟩
      ·refine .inr ⟨fun _ => ?_, fun _ => ?_⟩
       ·intro ρ w' hbw ht hcs hfn hgl hdep
        refine ⟨fun _ => ?_, fun h => by cases h⟩
        obtain ⟨u100, s100, o100⟩ := hdep ⟨7, .data⟩ (by simp) rfl 100 rfl
        clear ht hdep
        go_simp
        exact ⟨Below.refl _ _, rfl⟩
       ·intro ρ w' hbw ht hcs hfn hgl hdep
        refine ⟨fun _ => ?_, fun h => by cases h⟩
        obtain ⟨u100, s100, o100⟩ := hdep ⟨7, .data⟩ (by simp) rfl 100 rfl
        clear ht hdep
        go_simp
        exact ⟨Below.refl _ _, rfl⟩
      ·refine .inr ⟨fun _ => ?_, stage_no (by kernel_rfl)⟩
       intro ρ w' hbw ht hcs hfn hgl hdep
       refine ⟨fun _ => ?_, fun h => by cases h⟩
       clear ht hdep
       go_simp
       exact ⟨below_alloc _ _, _, rfl, hbw.size, heap_alloc_new _ _⟩
      ·exact .inl rfl
      ·refine .inr ⟨stage_no (by kernel_rfl), fun _ => ?_⟩
       intro ρ w' hbw ht hcs hfn hgl hdep
       refine ⟨fun _ => ?_, fun h => by cases h⟩
       have s109 : ρ (.tmp 109) = .int .i64 (latOfC x0 x1 x2) := hdep ⟨9, .data⟩ (by simp) rfl 109 rfl
       clear ht hdep
       go_simp
       exact ⟨Below.refl _ _, rfl⟩
     ·intro o ho
      obtain rfl := Option.some.inj ho
      refine ⟨rfl, fun ρ w' hbw ht hcs hdep => ?_⟩
      obtain ⟨pp, s17, hpl, hpc⟩ := hdep ⟨10, .data⟩ (by simp) rfl 17 rfl
      have ho := hdep ⟨8, .data⟩ (by simp) rfl 108 rfl
      clear hdep ht
      obtain ⟨sa, sc, hsh⟩ := shapeLattice (rLattice.own_at ho)
      have hcell0 : w'.cell? ⟨pp, 0, none⟩ = some (.int .i64 0) := by rw [cell_of_row w' pp 0 _ _ _ hpc]; rfl
      have hcell1 : w'.cell? ⟨pp, 1, none⟩ = some (.slice none 0 0) := by rw [cell_of_row w' pp 1 _ _ _ hpc]; rfl
      have hfree : ∀ j, w'.frozen? ⟨pp, j, none⟩ = false := fun j => frozen_of_row w' pp j _ _ hpc
      refine ⟨((w'.setCell ⟨pp, 0, none⟩ (.int .i64 (latOfX x0 x1 x2).1)).setCell ⟨pp, 1, none⟩ (.slice sa (latOfX x0 x1 x2).2.length sc)), ?_, ?_, trivial, ?_⟩
      ·clear ho
       go_simp
      ·exact ((hbw.setCell (by simpa using hpl) _).setCell (by simpa using hpl) _)
      ·intro j v hj hv hrho
       match j, hj, hv, hrho with
       | 0, _, h, _ => exact h
       | 1, _, _, _ => exact trivial
       | 2, _, h, _ => exact h
       | 3, _, _, _ => exact trivial
       | 4, _, h, _ => exact h
       | 5, _, h, _ => exact h
       | 6, _, ⟨u, hu, _⟩, _ => exact ⟨u, hu, trivial⟩
       | 7, _, ⟨u, hu, _⟩, _ => exact ⟨u, hu, trivial⟩
       | 8, _, _, _ => exact trivial
       | 9, _, h, _ => exact h
       | 10, _, _, hr =>
        rw [hsh] at ho
        exact ⟨pp, sa, sc, (hr 17 rfl).trans s17, hpl, by simp [go_sem, hcell0], by simp [go_sem, hcell1], (BoxT.set (BoxT.set ⟨_, _, hpc⟩)), rLattice.own_mono (rLattice.own_set (rLattice.own_set ho hpc rfl) (heap_setCell_same _ pp 0 _ _ (.int .i64 (latOfX x0 x1 x2).1) hpc) rfl) (Nat.le_refl _) (by simp)⟩
       | 11, _, _, _ => exact trivial
       | 12, _, h, _ => exact h
       | (m + 13), hj, _, _ => exact absurd hj (by simp)
     ·intro x w16 hb hx
      have hx0 : x 0 = .agg #[.int .i64 x0.1, .slice sa0 x0.2.length sc0] := hx 0 (by simp)
      have hx2 : x 2 = .agg #[.slice sa1 x1.length sc1] := hx 2 (by simp)
      have hx4 : x 4 = .agg #[.int .i64 x2.points, .int .i64 x2.most, .int .i64 x2.pen] := hx 4 (by simp)
      have hx5 : x 5 = .agg #[.int .i64 x2.points, .int .i64 x2.most, .int .i64 x2.pen] := hx 5 (by simp)
      have hx9 : x 9 = .int .i64 (latOfC x0 x1 x2) := hx 9 (by simp)
      have hx12 : x 12 = .int .i64 (latOfC x0 x1 x2) := hx 12 (by simp)
      obtain ⟨pp31, sb7, sd7, hx10, hppl, hpc0, hpc1, hppk, hppo⟩ := hx 10 (by simp)
      clear hx
      have z16 : w15.heap.size + 0 ≤ w16.heap.size := by have := hb.size; (try simp at this); omega
      replace a0 := rStore.at_below a0 hb
      replace a1 := rInk.at_below a1 hb
      replace o1 := rLattice.own_below o1 hb
      replace o2 := rStore.own_below o2 hb
      replace o3 := rInk.own_below o3 hb
      replace o4 := rLattice.own_below o4 hb
      replace o5 := rStore.own_below o5 hb
      replace o6 := rInk.own_below o6 hb
      replace q1 := cell_later hb q1
      replace q2 := cell_later hb q2
      replace q3 := cell_later hb q3
      replace q4 := cell_later hb q4
      replace q5 := cell_later hb q5
      replace q6 := cell_later hb q6
      replace q7 := cell_later hb q7
      replace q8 := cell_later hb q8
      replace q9 := cell_later hb q9
      replace q10 := cell_later hb q10
      replace q11 := cell_later hb q11
      replace q12 := cell_later hb q12
      replace q13 := cell_later hb q13
      replace kt8 := kt8.below hb
      replace kt11 := kt11.below hb
      replace yq1 := cell_lt q1
      replace yq3 := cell_lt q3
      replace yq4 := cell_lt q4
      replace yq7 := cell_lt q7
      replace yq9 := cell_lt q9
      replace yq11 := cell_lt q11
      replace yq12 := cell_lt q12
      replace hbase := baseB0 hbase hb
      clear hb
      simp only [putAll, Act.put, List.setIfInBounds_toArray, List.set_cons_succ, List.set_cons_zero, Nat.zero_add, Nat.reduceAdd, hx0, hx2, hx4, hx5, hx9, hx12, hx10]
      generalize x 1 = k31_1 at *
      generalize x 3 = k31_3 at *
      generalize x 6 = k31_6 at *
      generalize x 7 = k31_7 at *
      generalize x 8 = k31_8 at *
      clear hx0 hx2 hx4 hx5 hx9 hx12 hx10
      have o7 := hppo
      clear hppo
      have r31 := hppl
      clear hppl
      have rr31 : pp31 < w16.heap.size := cell_lt hpc0
      have kt31 := hppk
      clear hppk
      have q14 := hpc0
      clear hpc0
      have q15 := hpc1
      clear hpc1
      have yq14 := cell_lt q14
      go_wp2_with fail
      refine (eqLattice_any _ _ (latOfX x0 x1 x2) _ (rLattice.own_at o7) (rLattice.own_at o1)).mono ?_
      rintro e w17 ⟨rfl, hb⟩
      have z17 : w16.heap.size + 0 ≤ w17.heap.size := by have := hb.size; (try simp at this); omega
      replace a0 := rStore.at_below a0 hb
      replace a1 := rInk.at_below a1 hb
      replace o1 := rLattice.own_below o1 hb
      replace o2 := rStore.own_below o2 hb
      replace o3 := rInk.own_below o3 hb
      replace o4 := rLattice.own_below o4 hb
      replace o5 := rStore.own_below o5 hb
      replace o6 := rInk.own_below o6 hb
      replace o7 := rLattice.own_below o7 hb
      replace q1 := cell_later hb q1
      replace q2 := cell_later hb q2
      replace q3 := cell_later hb q3
      replace q4 := cell_later hb q4
      replace q5 := cell_later hb q5
      replace q6 := cell_later hb q6
      replace q7 := cell_later hb q7
      replace q8 := cell_later hb q8
      replace q9 := cell_later hb q9
      replace q10 := cell_later hb q10
      replace q11 := cell_later hb q11
      replace q12 := cell_later hb q12
      replace q13 := cell_later hb q13
      replace q14 := cell_later hb q14
      replace q15 := cell_later hb q15
      replace kt8 := kt8.below hb
      replace kt11 := kt11.below hb
      replace kt31 := kt31.below hb
      replace yq1 := cell_lt q1
      replace yq3 := cell_lt q3
      replace yq4 := cell_lt q4
      replace yq7 := cell_lt q7
      replace yq9 := cell_lt q9
      replace yq11 := cell_lt q11
      replace yq12 := cell_lt q12
      replace yq14 := cell_lt q14
      replace hbase := baseB0 hbase hb
      clear hb
      go_wp2_with fail
      refine (heldLattice_any _ (latOfX x0 x1 x2) (1) _ (rLattice.own_at o4) (okLatOf) (by omega) (by omega)).mono ?_
      rintro e w18 ⟨rfl, hb⟩
      have z18 : w17.heap.size + 0 ≤ w18.heap.size := by have := hb.size; (try simp at this); omega
      replace a0 := rStore.at_below a0 hb
      replace a1 := rInk.at_below a1 hb
      replace o1 := rLattice.own_below o1 hb
      replace o2 := rStore.own_below o2 hb
      replace o3 := rInk.own_below o3 hb
      replace o4 := rLattice.own_below o4 hb
      replace o5 := rStore.own_below o5 hb
      replace o6 := rInk.own_below o6 hb
      replace o7 := rLattice.own_below o7 hb
      replace q1 := cell_later hb q1
      replace q2 := cell_later hb q2
      replace q3 := cell_later hb q3
      replace q4 := cell_later hb q4
      replace q5 := cell_later hb q5
      replace q6 := cell_later hb q6
      replace q7 := cell_later hb q7
      replace q8 := cell_later hb q8
      replace q9 := cell_later hb q9
      replace q10 := cell_later hb q10
      replace q11 := cell_later hb q11
      replace q12 := cell_later hb q12
      replace q13 := cell_later hb q13
      replace q14 := cell_later hb q14
      replace q15 := cell_later hb q15
      replace kt8 := kt8.below hb
      replace kt11 := kt11.below hb
      replace kt31 := kt31.below hb
      replace yq1 := cell_lt q1
      replace yq3 := cell_lt q3
      replace yq4 := cell_lt q4
      replace yq7 := cell_lt q7
      replace yq9 := cell_lt q9
      replace yq11 := cell_lt q11
      replace yq12 := cell_lt q12
      replace yq14 := cell_lt q14
      replace hbase := baseB0 hbase hb
      clear hb
      go_wp2_with fail
      go_ret
      exact ret_bool rfl hbase
end Go.Proofs.YtlnoelbeaolikaaGreat
