/- The walk of the law FnExactPrefixesAt: for every argument it returns true and leaves what was there. -/
import Derived.Test.YtnhmailnnggmjaaReg
import Derived.Test.YtnhmailnnggmjaaRep
import Derived.Test.YtnhmailnnggmjaaWrLattice
import Derived.Test.YtnhmailnnggmjaaWrLexicon
import Derived.Test.YtnhmailnnggmjaaWrReadingS
import Derived.Test.YtnhmailnnggmjaaRdPre
namespace Go.Proofs.Ytnhmailnnggmjaa
open Go.RowKit

set_option maxHeartbeats 4000000 in
theorem lawPrefixesAt (v0 : Value) (x0 : XLattice) (v1 : Value) (x1 : XLexicon) (n2 : Int) (w : World) (a0 : rLattice.at_ 0 w.heap.size w v0 x0) (g0 : goodLattice x0) (a1 : rLexicon.at_ 0 w.heap.size w v1 x1) (g1 : goodLexicon x1) :
    Calls Try.prog 5 #[v0, v1, .int .i64 n2] w (Ret (.bool true) w) := by
  obtain ⟨sa0, sc0, rfl⟩ := shapeLattice a0
  obtain ⟨sa1, sc1, rfl⟩ := shapeLexicon a1
  have hbase : Below w.heap.size w w := Below.refl _ _
  go_enter Try.func5, Try.ntmps5
  go_wp2_with fail
  refine (szLattice_any _ x0 (1048576) _ (rLattice.at_alloc (rLattice.at_alloc a0 _) _) g0 (by omega) (by omega)).mono ?_
  rintro e w1 ⟨rfl, hb⟩
  have z1 : w.heap.size + 2 ≤ w1.heap.size := by have := hb.size; (try simp at this); omega
  replace a0 := rLattice.at_below (rLattice.at_alloc (rLattice.at_alloc a0 _) _) hb
  replace a1 := rLexicon.at_below (rLexicon.at_alloc (rLexicon.at_alloc a1 _) _) hb
  have q1 : w1.cell? ⟨w.heap.size, 0, none⟩ = some (.int .i64 x0.1) := cell_later hb (by simp)
  have q2 : w1.cell? ⟨w.heap.size, 1, none⟩ = some (.slice sa0 x0.2.length sc0) := cell_later hb (by simp)
  have q3 : w1.cell? ⟨w.heap.size + 1, 0, none⟩ = some (.slice sa1 x1.length sc1) := cell_later hb (by simp)
  have yq1 := cell_lt q1
  have yq3 := cell_lt q3
  replace hbase := baseB2 hbase hb
  clear hb
  by_cases hszx0 : (1048576 : Int) < (sizeLattice x0 : Nat)
  · rw [szOf_neg hszx0]
    go_wp2_with fail
    go_ret
    exact ret_bool rfl hbase
  rw [szOf_pos (by omega)]
  have ok_x0 : okLattice x0 := okLattice_of (by omega)
  go_wp2_with fail
  refine (szLexicon_any _ x1 (1048576 - (sizeLattice x0 : Nat)) _ a1 g1 (by omega) (by omega)).mono ?_
  rintro e w2 ⟨rfl, hb⟩
  have z2 : w1.heap.size + 0 ≤ w2.heap.size := by have := hb.size; (try simp at this); omega
  replace a0 := rLattice.at_below a0 hb
  replace a1 := rLexicon.at_below a1 hb
  replace q1 := cell_later hb q1
  replace q2 := cell_later hb q2
  replace q3 := cell_later hb q3
  replace yq1 := cell_lt q1
  replace yq3 := cell_lt q3
  replace hbase := baseB0 hbase hb
  clear hb
  by_cases hszx1 : (1048576 - (sizeLattice x0 : Nat) : Int) < (sizeLexicon x1 : Nat)
  · rw [szOf_neg hszx1]
    go_wp2_with fail
    go_ret
    exact ret_bool rfl hbase
  rw [szOf_pos (by omega)]
  have ok_x1 : okLexicon x1 := okLexicon_of (by omega)
  go_wp2_with fail
  refine wp_region_rel (fun i v w' => match i with
      | 0 => v = .agg #[.int .i64 x0.1, .slice sa0 x0.2.length sc0]
      | 1 => rLattice.own w2.heap.size w'.heap.size w' v x0
      | 2 => v = .agg #[.slice sa1 x1.length sc1]
      | 3 => rLexicon.own w2.heap.size w'.heap.size w' v x1
      | 4 => v = .int .i64 n2
      | 5 => ∃ u, v = .tuple #[u, .int .i64 (pfC x0 x1 n2)] ∧ rReadingS.own w2.heap.size w'.heap.size w' u (pfL x0 x1 n2)
      | 6 => ∃ u, v = .tuple #[u, .int .i64 (pfC x0 x1 n2)] ∧ rReadingS.own w2.heap.size w'.heap.size w' u (pfL x0 x1 n2)
      | 7 => rReadingS.own w2.heap.size w'.heap.size w' v (pfL x0 x1 n2)
      | 8 => v = .int .i64 (pfC x0 x1 n2)
      | 9 => rReadingS.own w2.heap.size w'.heap.size w' v (pfL x0 x1 n2)
      | _ => v = .int .i64 (pfC x0 x1 n2)) (by kernel_rfl) (by kernel_rfl) (by kernel_rfl) (by kernel_rfl) ?_ ?_ ?_
  · intro i v w w' h hb
    match i, h with
    | 0, h => exact h
    | 1, h => exact rLattice.own_now h hb
    | 2, h => exact h
    | 3, h => exact rLexicon.own_now h hb
    | 4, h => exact h
    | 5, ⟨u, hu, ho⟩ => exact ⟨u, hu, rReadingS.own_now ho hb⟩
    | 6, ⟨u, hu, ho⟩ => exact ⟨u, hu, rReadingS.own_now ho hb⟩
    | 7, h => exact rReadingS.own_now h hb
    | 8, h => exact h
    | 9, h => exact rReadingS.own_now h hb
    | (m + 10), h => exact h
  · refine ⟨?_, ?_, ?_, ?_, ?_, ?_, ?_, ?_, ?_, ?_, ?_, trivial⟩
    · intro ρ w' hbw ht hcs hfn hgl hdep
      refine ⟨fun _ => ?_, fun h => by cases h⟩
      have s3 : ρ (.tmp 3) = .pointer (some ⟨w.heap.size, 0, none⟩) := ht 3 rfl
      have c0 := cell_later hbw q1
      have c1 := cell_later hbw q2
      clear ht hdep
      go_simp
      exact ⟨Below.refl _ _, rfl⟩
    · intro ρ w' hbw ht hcs hfn hgl hdep
      refine ⟨fun _ => ?_, fun h => by cases h⟩
      have s30 : ρ (.tmp 30) = .agg #[.int .i64 x0.1, .slice sa0 x0.2.length sc0] := hdep ⟨0, .data⟩ (by simp) rfl 30 rfl
      clear ht hdep
      go_simp
      exact (toLattice_any _ x0 w' (rLattice.at_below a0 hbw) ok_x0).mono fun e w'' ⟨u, he, ho, hb⟩ => ⟨_, he, hb, rLattice.own_mono ho hbw.size (Nat.le_refl _)⟩
    · intro ρ w' hbw ht hcs hfn hgl hdep
      refine ⟨fun _ => ?_, fun h => by cases h⟩
      have s4 : ρ (.tmp 4) = .pointer (some ⟨w.heap.size + 1, 0, none⟩) := ht 4 rfl
      have c0 := cell_later hbw q3
      clear ht hdep
      go_simp
      exact ⟨Below.refl _ _, rfl⟩
    · intro ρ w' hbw ht hcs hfn hgl hdep
      refine ⟨fun _ => ?_, fun h => by cases h⟩
      have s32 : ρ (.tmp 32) = .agg #[.slice sa1 x1.length sc1] := hdep ⟨2, .data⟩ (by simp) rfl 32 rfl
      clear ht hdep
      go_simp
      exact (toLexicon_any _ x1 w' (rLexicon.at_below a1 hbw) ok_x1).mono fun e w'' ⟨u, he, ho, hb⟩ => ⟨_, he, hb, rLexicon.own_mono ho hbw.size (Nat.le_refl _)⟩
    · intro ρ w' hbw ht hcs hfn hgl hdep
      refine ⟨fun _ => ?_, fun h => by cases h⟩
      have s2 : ρ (.tmp 2) = .int .i64 n2 := ht 2 rfl
      clear ht hdep
      go_simp
      exact ⟨Below.refl _ _, rfl⟩
    · intro ρ w' hbw ht hcs hfn hgl hdep
      refine ⟨fun _ => ?_, fun h => by cases h⟩
      have o31 := hdep ⟨1, .data⟩ (by simp) rfl 31 rfl
      have o33 := hdep ⟨3, .data⟩ (by simp) rfl 33 rfl
      have s34 : ρ (.tmp 34) = .int .i64 n2 := hdep ⟨4, .data⟩ (by simp) rfl 34 rfl
      clear ht hdep
      go_simp
      exact (specPrefixesAt_any _ x0 _ x1 n2 w' (rLattice.own_at o31) (rLexicon.own_at o33) ok_x0 ok_x1 g0 g1).mono fun e w'' ⟨u, he, ho, hb⟩ => ⟨_, he, hb, u, rfl, rReadingS.own_mono ho hbw.size (Nat.le_refl _)⟩
    · intro ρ w' hbw ht hcs hfn hgl hdep
      refine ⟨fun _ => ?_, fun h => by cases h⟩
      obtain ⟨u35, s35, o35⟩ := hdep ⟨5, .data⟩ (by simp) rfl 35 rfl
      clear ht hdep
      go_simp
      exact ⟨Below.refl _ _, _, rfl, o35⟩
    · intro ρ w' hbw ht hcs hfn hgl hdep
      refine ⟨fun _ => ?_, fun h => by cases h⟩
      obtain ⟨u29, s29, o29⟩ := hdep ⟨6, .data⟩ (by simp) rfl 29 rfl
      clear ht hdep
      go_simp
      exact ⟨Below.refl _ _, o29⟩
    · intro ρ w' hbw ht hcs hfn hgl hdep
      refine ⟨fun _ => ?_, fun h => by cases h⟩
      obtain ⟨u29, s29, o29⟩ := hdep ⟨6, .data⟩ (by simp) rfl 29 rfl
      clear ht hdep
      go_simp
      exact ⟨Below.refl _ _, rfl⟩
    · intro ρ w' hbw ht hcs hfn hgl hdep
      refine ⟨fun _ => ?_, fun h => by cases h⟩
      have o36 := hdep ⟨7, .data⟩ (by simp) rfl 36 rfl
      clear ht hdep
      go_simp
      exact ⟨Below.refl _ _, o36⟩
    · intro ρ w' hbw ht hcs hfn hgl hdep
      refine ⟨fun _ => ?_, fun h => by cases h⟩
      have s37 : ρ (.tmp 37) = .int .i64 (pfC x0 x1 n2) := hdep ⟨8, .data⟩ (by simp) rfl 37 rfl
      clear ht hdep
      go_simp
      exact ⟨Below.refl _ _, rfl⟩
  · intro x w3 hb hx
    have hx0 : x 0 = .agg #[.int .i64 x0.1, .slice sa0 x0.2.length sc0] := hx 0 (by simp)
    have hx1 := hx 1 (by simp)
    have hx2 : x 2 = .agg #[.slice sa1 x1.length sc1] := hx 2 (by simp)
    have hx3 := hx 3 (by simp)
    have hx4 : x 4 = .int .i64 n2 := hx 4 (by simp)
    have hx7 := hx 7 (by simp)
    have hx8 : x 8 = .int .i64 (pfC x0 x1 n2) := hx 8 (by simp)
    have hx9 := hx 9 (by simp)
    have hx10 : x 10 = .int .i64 (pfC x0 x1 n2) := hx 10 (by simp)
    clear hx
    have z3 : w2.heap.size + 0 ≤ w3.heap.size := by have := hb.size; (try simp at this); omega
    replace a0 := rLattice.at_below a0 hb
    replace a1 := rLexicon.at_below a1 hb
    replace q1 := cell_later hb q1
    replace q2 := cell_later hb q2
    replace q3 := cell_later hb q3
    replace yq1 := cell_lt q1
    replace yq3 := cell_lt q3
    replace hbase := baseB0 hbase hb
    clear hb
    simp only [putAll, Act.put, List.setIfInBounds_toArray, List.set_cons_succ, List.set_cons_zero, Nat.zero_add, Nat.reduceAdd, hx0, hx2, hx4, hx8, hx10]
    generalize x 1 = k8_1 at *
    generalize x 3 = k8_3 at *
    generalize x 5 = k8_5 at *
    generalize x 6 = k8_6 at *
    generalize x 7 = k8_7 at *
    generalize x 9 = k8_9 at *
    clear hx0 hx2 hx4 hx8 hx10
    have o1 := hx1
    clear hx1
    obtain ⟨sb1, sd1, hsh1⟩ := shapeLattice (rLattice.own_at o1)
    subst hsh1
    have o2 := hx3
    clear hx3
    obtain ⟨sb2, sd2, hsh2⟩ := shapeLexicon (rLexicon.own_at o2)
    subst hsh2
    have o3 := hx7
    clear hx7
    obtain ⟨sb3, sd3, hsh3⟩ := shapeReadingS (rReadingS.own_at o3)
    subst hsh3
    have o4 := hx9
    clear hx9
    obtain ⟨sb4, sd4, hsh4⟩ := shapeReadingS (rReadingS.own_at o4)
    subst hsh4
    go_wp2_with fail
    refine (toLattice_any _ x0 _ a0 ok_x0).mono ?_
    rintro e w4 ⟨u5, rfl, o5, hb⟩
    obtain ⟨sb5, sd5, rfl⟩ := shapeLattice (rLattice.own_at o5)
    have z4 : w3.heap.size + 0 ≤ w4.heap.size := by have := hb.size; (try simp at this); omega
    replace a0 := rLattice.at_below a0 hb
    replace a1 := rLexicon.at_below a1 hb
    replace o1 := rLattice.own_below o1 hb
    replace o2 := rLexicon.own_below o2 hb
    replace o3 := rReadingS.own_below o3 hb
    replace o4 := rReadingS.own_below o4 hb
    replace q1 := cell_later hb q1
    replace q2 := cell_later hb q2
    replace q3 := cell_later hb q3
    replace yq1 := cell_lt q1
    replace yq3 := cell_lt q3
    replace hbase := baseB0 hbase hb
    clear hb
    go_wp2_with fail
    refine (toLexicon_any _ x1 _ (rLexicon.at_alloc a1 _) ok_x1).mono ?_
    rintro e w5 ⟨u6, rfl, o6, hb⟩
    obtain ⟨sb6, sd6, rfl⟩ := shapeLexicon (rLexicon.own_at o6)
    replace o6 : rLexicon.own (w4.heap.size + 1) w5.heap.size w5 _ _ := rLexicon.own_mono o6 (by simp <;> omega) (Nat.le_refl _)
    have z5 : w4.heap.size + 1 ≤ w5.heap.size := by have := hb.size; (try simp at this); omega
    replace a0 := rLattice.at_below (rLattice.at_alloc a0 _) hb
    replace a1 := rLexicon.at_below (rLexicon.at_alloc a1 _) hb
    replace o1 := rLattice.own_below (rLattice.own_alloc o1 _) hb
    replace o2 := rLexicon.own_below (rLexicon.own_alloc o2 _) hb
    replace o3 := rReadingS.own_below (rReadingS.own_alloc o3 _) hb
    replace o4 := rReadingS.own_below (rReadingS.own_alloc o4 _) hb
    replace o5 := rLattice.own_below (rLattice.own_alloc o5 _) hb
    replace q1 := cell_later hb (cell_alloc q1 _)
    replace q2 := cell_later hb (cell_alloc q2 _)
    replace q3 := cell_later hb (cell_alloc q3 _)
    have q4 : w5.cell? ⟨w4.heap.size, 0, none⟩ = some (.int .i64 x0.1) := cell_later hb (by simp)
    have q5 : w5.cell? ⟨w4.heap.size, 1, none⟩ = some (.slice sb5 x0.2.length sd5) := cell_later hb (by simp)
    replace yq1 := cell_lt q1
    replace yq3 := cell_lt q3
    have yq4 := cell_lt q4
    replace hbase := baseB1 hbase hb
    clear hb
    go_wp2_with fail
    refine (implPrefixesAt_any _ x0 _ x1 n2 _ (rLattice.own_at (rLattice.own_alloc o5 _)) (rLexicon.own_at (rLexicon.own_alloc o6 _)) ok_x0 ok_x1 g0 g1).mono ?_
    rintro e w6 ⟨u7, rfl, o7, hb⟩
    obtain ⟨sb7, sd7, rfl⟩ := shapeReadingS (rReadingS.own_at o7)
    replace o7 : rReadingS.own (w5.heap.size + 1) w6.heap.size w6 _ _ := rReadingS.own_mono o7 (by simp <;> omega) (Nat.le_refl _)
    have z6 : w5.heap.size + 1 ≤ w6.heap.size := by have := hb.size; (try simp at this); omega
    replace a0 := rLattice.at_below (rLattice.at_alloc a0 _) hb
    replace a1 := rLexicon.at_below (rLexicon.at_alloc a1 _) hb
    replace o1 := rLattice.own_below (rLattice.own_alloc o1 _) hb
    replace o2 := rLexicon.own_below (rLexicon.own_alloc o2 _) hb
    replace o3 := rReadingS.own_below (rReadingS.own_alloc o3 _) hb
    replace o4 := rReadingS.own_below (rReadingS.own_alloc o4 _) hb
    replace o5 := rLattice.own_below (rLattice.own_alloc o5 _) hb
    replace o6 := rLexicon.own_below (rLexicon.own_alloc o6 _) hb
    replace q1 := cell_later hb (cell_alloc q1 _)
    replace q2 := cell_later hb (cell_alloc q2 _)
    replace q3 := cell_later hb (cell_alloc q3 _)
    replace q4 := cell_later hb (cell_alloc q4 _)
    replace q5 := cell_later hb (cell_alloc q5 _)
    have q6 : w6.cell? ⟨w5.heap.size, 0, none⟩ = some (.slice sb6 x1.length sd6) := cell_later hb (by simp)
    replace yq1 := cell_lt q1
    replace yq3 := cell_lt q3
    replace yq4 := cell_lt q4
    have yq6 := cell_lt q6
    replace hbase := baseB1 hbase hb
    clear hb
    go_wp2_with fail
    refine (eqReadingSR_any _ _ (pfL x0 x1 n2) _ (rReadingS.own_at o7) (rReadingS.own_at o4)).mono ?_
    rintro e w7 ⟨rfl, hb⟩
    have z7 : w6.heap.size + 0 ≤ w7.heap.size := by have := hb.size; (try simp at this); omega
    replace a0 := rLattice.at_below a0 hb
    replace a1 := rLexicon.at_below a1 hb
    replace o1 := rLattice.own_below o1 hb
    replace o2 := rLexicon.own_below o2 hb
    replace o3 := rReadingS.own_below o3 hb
    replace o4 := rReadingS.own_below o4 hb
    replace o5 := rLattice.own_below o5 hb
    replace o6 := rLexicon.own_below o6 hb
    replace o7 := rReadingS.own_below o7 hb
    replace q1 := cell_later hb q1
    replace q2 := cell_later hb q2
    replace q3 := cell_later hb q3
    replace q4 := cell_later hb q4
    replace q5 := cell_later hb q5
    replace q6 := cell_later hb q6
    replace yq1 := cell_lt q1
    replace yq3 := cell_lt q3
    replace yq4 := cell_lt q4
    replace yq6 := cell_lt q6
    replace hbase := baseB0 hbase hb
    clear hb
    go_wp2_with fail
    refine wp_region_rel (fun i v w' => match i with
        | 0 => v = .agg #[.int .i64 x0.1, .slice sb5 x0.2.length sd5]
        | 1 => v = .agg #[.int .i64 x0.1, .slice sa0 x0.2.length sc0]
        | 2 => rLattice.own w7.heap.size w'.heap.size w' v x0
        | 3 => v = .bool true
        | _ => v = .bool false) (by kernel_rfl) (by kernel_rfl) (by kernel_rfl) (by kernel_rfl) ?_ ?_ ?_
    · intro i v w w' h hb
      match i, h with
      | 0, h => exact h
      | 1, h => exact h
      | 2, h => exact rLattice.own_now h hb
      | 3, h => exact h
      | (m + 4), h => exact h
    · refine ⟨?_, ?_, ?_, ?_, ?_, trivial⟩
      · intro ρ w' hbw ht hcs hfn hgl hdep
        refine ⟨fun _ => ?_, fun h => by cases h⟩
        have s10 : ρ (.tmp 10) = .pointer (some ⟨w4.heap.size, 0, none⟩) := ht 10 rfl
        have c0 := cell_later hbw q4
        have c1 := cell_later hbw q5
        clear ht hdep
        go_simp
        exact ⟨Below.refl _ _, rfl⟩
      · intro ρ w' hbw ht hcs hfn hgl hdep
        refine ⟨fun _ => ?_, fun h => by cases h⟩
        have s3 : ρ (.tmp 3) = .pointer (some ⟨w.heap.size, 0, none⟩) := ht 3 rfl
        have c0 := cell_later hbw q1
        have c1 := cell_later hbw q2
        clear ht hdep
        go_simp
        exact ⟨Below.refl _ _, rfl⟩
      · intro ρ w' hbw ht hcs hfn hgl hdep
        refine ⟨fun _ => ?_, fun h => by cases h⟩
        have s59 : ρ (.tmp 59) = .agg #[.int .i64 x0.1, .slice sa0 x0.2.length sc0] := hdep ⟨1, .data⟩ (by simp) rfl 59 rfl
        clear ht hdep
        go_simp
        exact (toLattice_any _ x0 w' (rLattice.at_below a0 hbw) ok_x0).mono fun e w'' ⟨u, he, ho, hb⟩ => ⟨_, he, hb, rLattice.own_mono ho hbw.size (Nat.le_refl _)⟩
      · intro ρ w' hbw ht hcs hfn hgl hdep
        refine ⟨fun _ => ?_, fun h => by cases h⟩
        have s58 : ρ (.tmp 58) = .agg #[.int .i64 x0.1, .slice sb5 x0.2.length sd5] := hdep ⟨0, .data⟩ (by simp) rfl 58 rfl
        have o60 := hdep ⟨2, .data⟩ (by simp) rfl 60 rfl
        clear ht hdep
        go_simp
        exact (eqLattice_any _ _ x0 w' (rLattice.own_at (rLattice.own_below o5 hbw)) (rLattice.own_at o60)).mono fun e w'' ⟨he, hb⟩ => ⟨_, he, hb, rfl⟩
      · intro ρ w' hbw ht hcs hfn hgl hdep
        refine ⟨fun _ => ?_, fun h => by cases h⟩
        have s61 : ρ (.tmp 61) = .bool true := hdep ⟨3, .data⟩ (by simp) rfl 61 rfl
        clear ht hdep
        go_simp
        exact ⟨Below.refl _ _, rfl⟩
    · intro x w8 hb hx
      have hx0 : x 0 = .agg #[.int .i64 x0.1, .slice sb5 x0.2.length sd5] := hx 0 (by simp)
      have hx1 : x 1 = .agg #[.int .i64 x0.1, .slice sa0 x0.2.length sc0] := hx 1 (by simp)
      have hx2 := hx 2 (by simp)
      have hx3 : x 3 = .bool true := hx 3 (by simp)
      have hx4 : x 4 = .bool false := hx 4 (by simp)
      clear hx
      have z8 : w7.heap.size + 0 ≤ w8.heap.size := by have := hb.size; (try simp at this); omega
      replace a0 := rLattice.at_below a0 hb
      replace a1 := rLexicon.at_below a1 hb
      replace o1 := rLattice.own_below o1 hb
      replace o2 := rLexicon.own_below o2 hb
      replace o3 := rReadingS.own_below o3 hb
      replace o4 := rReadingS.own_below o4 hb
      replace o5 := rLattice.own_below o5 hb
      replace o6 := rLexicon.own_below o6 hb
      replace o7 := rReadingS.own_below o7 hb
      replace q1 := cell_later hb q1
      replace q2 := cell_later hb q2
      replace q3 := cell_later hb q3
      replace q4 := cell_later hb q4
      replace q5 := cell_later hb q5
      replace q6 := cell_later hb q6
      replace yq1 := cell_lt q1
      replace yq3 := cell_lt q3
      replace yq4 := cell_lt q4
      replace yq6 := cell_lt q6
      replace hbase := baseB0 hbase hb
      clear hb
      simp only [putAll, Act.put, List.setIfInBounds_toArray, List.set_cons_succ, List.set_cons_zero, Nat.zero_add, Nat.reduceAdd, hx0, hx1, hx3, hx4]
      generalize x 2 = k14_2 at *
      clear hx0 hx1 hx3 hx4
      have o8 := hx2
      clear hx2
      obtain ⟨sb8, sd8, hsh8⟩ := shapeLattice (rLattice.own_at o8)
      subst hsh8
      go_wp2_with fail
      refine wp_region_rel (fun i v w' => match i with
          | 0 => v = .agg #[.slice sb6 x1.length sd6]
          | 1 => v = .agg #[.slice sa1 x1.length sc1]
          | 2 => rLexicon.own w8.heap.size w'.heap.size w' v x1
          | 3 => v = .bool true
          | _ => v = .bool false) (by kernel_rfl) (by kernel_rfl) (by kernel_rfl) (by kernel_rfl) ?_ ?_ ?_
      · intro i v w w' h hb
        match i, h with
        | 0, h => exact h
        | 1, h => exact h
        | 2, h => exact rLexicon.own_now h hb
        | 3, h => exact h
        | (m + 4), h => exact h
      · refine ⟨?_, ?_, ?_, ?_, ?_, trivial⟩
        · intro ρ w' hbw ht hcs hfn hgl hdep
          refine ⟨fun _ => ?_, fun h => by cases h⟩
          have s11 : ρ (.tmp 11) = .pointer (some ⟨w5.heap.size, 0, none⟩) := ht 11 rfl
          have c0 := cell_later hbw q6
          clear ht hdep
          go_simp
          exact ⟨Below.refl _ _, rfl⟩
        · intro ρ w' hbw ht hcs hfn hgl hdep
          refine ⟨fun _ => ?_, fun h => by cases h⟩
          have s4 : ρ (.tmp 4) = .pointer (some ⟨w.heap.size + 1, 0, none⟩) := ht 4 rfl
          have c0 := cell_later hbw q3
          clear ht hdep
          go_simp
          exact ⟨Below.refl _ _, rfl⟩
        · intro ρ w' hbw ht hcs hfn hgl hdep
          refine ⟨fun _ => ?_, fun h => by cases h⟩
          have s64 : ρ (.tmp 64) = .agg #[.slice sa1 x1.length sc1] := hdep ⟨1, .data⟩ (by simp) rfl 64 rfl
          clear ht hdep
          go_simp
          exact (toLexicon_any _ x1 w' (rLexicon.at_below a1 hbw) ok_x1).mono fun e w'' ⟨u, he, ho, hb⟩ => ⟨_, he, hb, rLexicon.own_mono ho hbw.size (Nat.le_refl _)⟩
        · intro ρ w' hbw ht hcs hfn hgl hdep
          refine ⟨fun _ => ?_, fun h => by cases h⟩
          have s63 : ρ (.tmp 63) = .agg #[.slice sb6 x1.length sd6] := hdep ⟨0, .data⟩ (by simp) rfl 63 rfl
          have o65 := hdep ⟨2, .data⟩ (by simp) rfl 65 rfl
          clear ht hdep
          go_simp
          exact (eqLexicon_any _ _ x1 w' (rLexicon.own_at (rLexicon.own_below o6 hbw)) (rLexicon.own_at o65)).mono fun e w'' ⟨he, hb⟩ => ⟨_, he, hb, rfl⟩
        · intro ρ w' hbw ht hcs hfn hgl hdep
          refine ⟨fun _ => ?_, fun h => by cases h⟩
          have s66 : ρ (.tmp 66) = .bool true := hdep ⟨3, .data⟩ (by simp) rfl 66 rfl
          clear ht hdep
          go_simp
          exact ⟨Below.refl _ _, rfl⟩
      · intro x w9 hb hx
        have hx0 : x 0 = .agg #[.slice sb6 x1.length sd6] := hx 0 (by simp)
        have hx1 : x 1 = .agg #[.slice sa1 x1.length sc1] := hx 1 (by simp)
        have hx2 := hx 2 (by simp)
        have hx3 : x 3 = .bool true := hx 3 (by simp)
        have hx4 : x 4 = .bool false := hx 4 (by simp)
        clear hx
        have z9 : w8.heap.size + 0 ≤ w9.heap.size := by have := hb.size; (try simp at this); omega
        replace a0 := rLattice.at_below a0 hb
        replace a1 := rLexicon.at_below a1 hb
        replace o1 := rLattice.own_below o1 hb
        replace o2 := rLexicon.own_below o2 hb
        replace o3 := rReadingS.own_below o3 hb
        replace o4 := rReadingS.own_below o4 hb
        replace o5 := rLattice.own_below o5 hb
        replace o6 := rLexicon.own_below o6 hb
        replace o7 := rReadingS.own_below o7 hb
        replace o8 := rLattice.own_below o8 hb
        replace q1 := cell_later hb q1
        replace q2 := cell_later hb q2
        replace q3 := cell_later hb q3
        replace q4 := cell_later hb q4
        replace q5 := cell_later hb q5
        replace q6 := cell_later hb q6
        replace yq1 := cell_lt q1
        replace yq3 := cell_lt q3
        replace yq4 := cell_lt q4
        replace yq6 := cell_lt q6
        replace hbase := baseB0 hbase hb
        clear hb
        simp only [putAll, Act.put, List.setIfInBounds_toArray, List.set_cons_succ, List.set_cons_zero, Nat.zero_add, Nat.reduceAdd, hx0, hx1, hx3, hx4]
        generalize x 2 = k16_2 at *
        clear hx0 hx1 hx3 hx4
        have o9 := hx2
        clear hx2
        obtain ⟨sb9, sd9, hsh9⟩ := shapeLexicon (rLexicon.own_at o9)
        subst hsh9
        go_wp2_with fail
        refine (markLattice_any _ x0 _ _ (1) _ o5 ok_x0 (by omega) (by omega)).mono ?_
        rintro e w10 ⟨rfl, o5n, hc, hty⟩
        have z10 : w9.heap.size + 0 ≤ w10.heap.size := by have := hc.size; (try simp at this); omega
        replace a0 := rLattice.at_chg a0 hc (by first | (left; omega) | (right; omega))
        replace a1 := rLexicon.at_chg a1 hc (by first | (left; omega) | (right; omega))
        replace o1 := rLattice.own_chg o1 hc (by first | (left; omega) | (right; omega))
        replace o2 := rLexicon.own_chg o2 hc (by first | (left; omega) | (right; omega))
        replace o3 := rReadingS.own_chg o3 hc (by first | (left; omega) | (right; omega))
        replace o4 := rReadingS.own_chg o4 hc (by first | (left; omega) | (right; omega))
        replace o6 := rLexicon.own_chg o6 hc (by first | (left; omega) | (right; omega))
        replace o7 := rReadingS.own_chg o7 hc (by first | (left; omega) | (right; omega))
        replace o8 := rLattice.own_chg o8 hc (by first | (left; omega) | (right; omega))
        replace o9 := rLexicon.own_chg o9 hc (by first | (left; omega) | (right; omega))
        replace q1 := chg_cell hc q1 (by first | (left; omega) | (right; omega))
        replace q2 := chg_cell hc q2 (by first | (left; omega) | (right; omega))
        replace q3 := chg_cell hc q3 (by first | (left; omega) | (right; omega))
        replace q4 := chg_cell hc q4 (by first | (left; omega) | (right; omega))
        replace q5 := chg_cell hc q5 (by first | (left; omega) | (right; omega))
        replace q6 := chg_cell hc q6 (by first | (left; omega) | (right; omega))
        replace yq1 := cell_lt q1
        replace yq3 := cell_lt q3
        replace yq4 := cell_lt q4
        replace yq6 := cell_lt q6
        replace hbase := below_chg hbase hc (by omega)
        clear hc
        clear hty
        clear o5
        have o5 := o5n
        clear o5n
        have cn10 : 0 ≤ cntLattice x0 ∧ cntLattice x0 ≤ 10000000 := cntLattice_bd ok_x0
        go_wp2_with fail
        refine (markLexicon_any _ x1 _ _ (1 + cntLattice x0) _ o6 ok_x1 (by omega) (by omega)).mono ?_
        rintro e w11 ⟨rfl, o6n, hc, hty⟩
        have z11 : w10.heap.size + 0 ≤ w11.heap.size := by have := hc.size; (try simp at this); omega
        replace a0 := rLattice.at_chg a0 hc (by first | (left; omega) | (right; omega))
        replace a1 := rLexicon.at_chg a1 hc (by first | (left; omega) | (right; omega))
        replace o1 := rLattice.own_chg o1 hc (by first | (left; omega) | (right; omega))
        replace o2 := rLexicon.own_chg o2 hc (by first | (left; omega) | (right; omega))
        replace o3 := rReadingS.own_chg o3 hc (by first | (left; omega) | (right; omega))
        replace o4 := rReadingS.own_chg o4 hc (by first | (left; omega) | (right; omega))
        replace o5 := rLattice.own_chg o5 hc (by first | (left; omega) | (right; omega))
        replace o7 := rReadingS.own_chg o7 hc (by first | (left; omega) | (right; omega))
        replace o8 := rLattice.own_chg o8 hc (by first | (left; omega) | (right; omega))
        replace o9 := rLexicon.own_chg o9 hc (by first | (left; omega) | (right; omega))
        replace q1 := chg_cell hc q1 (by first | (left; omega) | (right; omega))
        replace q2 := chg_cell hc q2 (by first | (left; omega) | (right; omega))
        replace q3 := chg_cell hc q3 (by first | (left; omega) | (right; omega))
        replace q4 := chg_cell hc q4 (by first | (left; omega) | (right; omega))
        replace q5 := chg_cell hc q5 (by first | (left; omega) | (right; omega))
        replace q6 := chg_cell hc q6 (by first | (left; omega) | (right; omega))
        replace yq1 := cell_lt q1
        replace yq3 := cell_lt q3
        replace yq4 := cell_lt q4
        replace yq6 := cell_lt q6
        replace hbase := below_chg hbase hc (by omega)
        clear hc
        clear hty
        clear o6
        have o6 := o6n
        clear o6n
        have cn11 : 0 ≤ cntLexicon x1 ∧ cntLexicon x1 ≤ 10000000 := cntLexicon_bd ok_x1
        go_wp2_with fail
        refine (eqReadingSR_any _ _ (pfL x0 x1 n2) _ (rReadingS.own_at o7) (rReadingS.own_at o4)).mono ?_
        rintro e w12 ⟨rfl, hb⟩
        have z12 : w11.heap.size + 0 ≤ w12.heap.size := by have := hb.size; (try simp at this); omega
        replace a0 := rLattice.at_below a0 hb
        replace a1 := rLexicon.at_below a1 hb
        replace o1 := rLattice.own_below o1 hb
        replace o2 := rLexicon.own_below o2 hb
        replace o3 := rReadingS.own_below o3 hb
        replace o4 := rReadingS.own_below o4 hb
        replace o5 := rLattice.own_below o5 hb
        replace o6 := rLexicon.own_below o6 hb
        replace o7 := rReadingS.own_below o7 hb
        replace o8 := rLattice.own_below o8 hb
        replace o9 := rLexicon.own_below o9 hb
        replace q1 := cell_later hb q1
        replace q2 := cell_later hb q2
        replace q3 := cell_later hb q3
        replace q4 := cell_later hb q4
        replace q5 := cell_later hb q5
        replace q6 := cell_later hb q6
        replace yq1 := cell_lt q1
        replace yq3 := cell_lt q3
        replace yq4 := cell_lt q4
        replace yq6 := cell_lt q6
        replace hbase := baseB0 hbase hb
        clear hb
        go_wp2_with fail
        refine (markReadingSR_any _ (pfL x0 x1 n2) _ _ (1) _ o7 okPf (by omega) (by omega)).mono ?_
        rintro e w13 ⟨rfl, o7n, hc, hty⟩
        have z13 : w12.heap.size + 0 ≤ w13.heap.size := by have := hc.size; (try simp at this); omega
        replace a0 := rLattice.at_chg a0 hc (by first | (left; omega) | (right; omega))
        replace a1 := rLexicon.at_chg a1 hc (by first | (left; omega) | (right; omega))
        replace o1 := rLattice.own_chg o1 hc (by first | (left; omega) | (right; omega))
        replace o2 := rLexicon.own_chg o2 hc (by first | (left; omega) | (right; omega))
        replace o3 := rReadingS.own_chg o3 hc (by first | (left; omega) | (right; omega))
        replace o4 := rReadingS.own_chg o4 hc (by first | (left; omega) | (right; omega))
        replace o5 := rLattice.own_chg o5 hc (by first | (left; omega) | (right; omega))
        replace o6 := rLexicon.own_chg o6 hc (by first | (left; omega) | (right; omega))
        replace o8 := rLattice.own_chg o8 hc (by first | (left; omega) | (right; omega))
        replace o9 := rLexicon.own_chg o9 hc (by first | (left; omega) | (right; omega))
        replace q1 := chg_cell hc q1 (by first | (left; omega) | (right; omega))
        replace q2 := chg_cell hc q2 (by first | (left; omega) | (right; omega))
        replace q3 := chg_cell hc q3 (by first | (left; omega) | (right; omega))
        replace q4 := chg_cell hc q4 (by first | (left; omega) | (right; omega))
        replace q5 := chg_cell hc q5 (by first | (left; omega) | (right; omega))
        replace q6 := chg_cell hc q6 (by first | (left; omega) | (right; omega))
        replace yq1 := cell_lt q1
        replace yq3 := cell_lt q3
        replace yq4 := cell_lt q4
        replace yq6 := cell_lt q6
        replace hbase := below_chg hbase hc (by omega)
        clear hc
        clear hty
        clear o7
        have o7 := o7n
        clear o7n
        have cn13 : 0 ≤ cntReadingS (pfL x0 x1 n2) ∧ cntReadingS (pfL x0 x1 n2) ≤ 10000000 := cntReadingS_bd okPf
        go_wp2_with fail
        refine (heldReadingSR_any _ (pfL x0 x1 n2) (1) _ (rReadingS.own_at o7) okPf (by omega) (by omega)).mono ?_
        rintro e w14 ⟨rfl, hb⟩
        have z14 : w13.heap.size + 0 ≤ w14.heap.size := by have := hb.size; (try simp at this); omega
        replace a0 := rLattice.at_below a0 hb
        replace a1 := rLexicon.at_below a1 hb
        replace o1 := rLattice.own_below o1 hb
        replace o2 := rLexicon.own_below o2 hb
        replace o3 := rReadingS.own_below o3 hb
        replace o4 := rReadingS.own_below o4 hb
        replace o5 := rLattice.own_below o5 hb
        replace o6 := rLexicon.own_below o6 hb
        replace o7 := rReadingS.own_below o7 hb
        replace o8 := rLattice.own_below o8 hb
        replace o9 := rLexicon.own_below o9 hb
        replace q1 := cell_later hb q1
        replace q2 := cell_later hb q2
        replace q3 := cell_later hb q3
        replace q4 := cell_later hb q4
        replace q5 := cell_later hb q5
        replace q6 := cell_later hb q6
        replace yq1 := cell_lt q1
        replace yq3 := cell_lt q3
        replace yq4 := cell_lt q4
        replace yq6 := cell_lt q6
        replace hbase := baseB0 hbase hb
        clear hb
        go_wp2_with fail
        refine wp_region_rel (fun i v w' => match i with
            | 0 => v = .agg #[.int .i64 x0.1, .slice sa0 x0.2.length sc0]
            | 1 => rLattice.own w14.heap.size w'.heap.size w' v x0
            | 2 => v = .agg #[.slice sa1 x1.length sc1]
            | 3 => rLexicon.own w14.heap.size w'.heap.size w' v x1
            | 4 => v = .int .i64 n2
            | 5 => ∃ u, v = .tuple #[u, .int .i64 (pfC x0 x1 n2)] ∧ rReadingS.own w14.heap.size w'.heap.size w' u (pfL x0 x1 n2)
            | 6 => ∃ u, v = .tuple #[u, .int .i64 (pfC x0 x1 n2)] ∧ rReadingS.own w14.heap.size w'.heap.size w' u (pfL x0 x1 n2)
            | 7 => rReadingS.own w14.heap.size w'.heap.size w' v (pfL x0 x1 n2)
            | 8 => v = .int .i64 (pfC x0 x1 n2)
            | 9 => rReadingS.own w14.heap.size w'.heap.size w' v (pfL x0 x1 n2)
            | _ => v = .int .i64 (pfC x0 x1 n2)) (by kernel_rfl) (by kernel_rfl) (by kernel_rfl) (by kernel_rfl) ?_ ?_ ?_
        · intro i v w w' h hb
          match i, h with
          | 0, h => exact h
          | 1, h => exact rLattice.own_now h hb
          | 2, h => exact h
          | 3, h => exact rLexicon.own_now h hb
          | 4, h => exact h
          | 5, ⟨u, hu, ho⟩ => exact ⟨u, hu, rReadingS.own_now ho hb⟩
          | 6, ⟨u, hu, ho⟩ => exact ⟨u, hu, rReadingS.own_now ho hb⟩
          | 7, h => exact rReadingS.own_now h hb
          | 8, h => exact h
          | 9, h => exact rReadingS.own_now h hb
          | (m + 10), h => exact h
        · refine ⟨?_, ?_, ?_, ?_, ?_, ?_, ?_, ?_, ?_, ?_, ?_, trivial⟩
          · intro ρ w' hbw ht hcs hfn hgl hdep
            refine ⟨fun _ => ?_, fun h => by cases h⟩
            have s3 : ρ (.tmp 3) = .pointer (some ⟨w.heap.size, 0, none⟩) := ht 3 rfl
            have c0 := cell_later hbw q1
            have c1 := cell_later hbw q2
            clear ht hdep
            go_simp
            exact ⟨Below.refl _ _, rfl⟩
          · intro ρ w' hbw ht hcs hfn hgl hdep
            refine ⟨fun _ => ?_, fun h => by cases h⟩
            have s99 : ρ (.tmp 99) = .agg #[.int .i64 x0.1, .slice sa0 x0.2.length sc0] := hdep ⟨0, .data⟩ (by simp) rfl 99 rfl
            clear ht hdep
            go_simp
            exact (toLattice_any _ x0 w' (rLattice.at_below a0 hbw) ok_x0).mono fun e w'' ⟨u, he, ho, hb⟩ => ⟨_, he, hb, rLattice.own_mono ho hbw.size (Nat.le_refl _)⟩
          · intro ρ w' hbw ht hcs hfn hgl hdep
            refine ⟨fun _ => ?_, fun h => by cases h⟩
            have s4 : ρ (.tmp 4) = .pointer (some ⟨w.heap.size + 1, 0, none⟩) := ht 4 rfl
            have c0 := cell_later hbw q3
            clear ht hdep
            go_simp
            exact ⟨Below.refl _ _, rfl⟩
          · intro ρ w' hbw ht hcs hfn hgl hdep
            refine ⟨fun _ => ?_, fun h => by cases h⟩
            have s101 : ρ (.tmp 101) = .agg #[.slice sa1 x1.length sc1] := hdep ⟨2, .data⟩ (by simp) rfl 101 rfl
            clear ht hdep
            go_simp
            exact (toLexicon_any _ x1 w' (rLexicon.at_below a1 hbw) ok_x1).mono fun e w'' ⟨u, he, ho, hb⟩ => ⟨_, he, hb, rLexicon.own_mono ho hbw.size (Nat.le_refl _)⟩
          · intro ρ w' hbw ht hcs hfn hgl hdep
            refine ⟨fun _ => ?_, fun h => by cases h⟩
            have s2 : ρ (.tmp 2) = .int .i64 n2 := ht 2 rfl
            clear ht hdep
            go_simp
            exact ⟨Below.refl _ _, rfl⟩
          · intro ρ w' hbw ht hcs hfn hgl hdep
            refine ⟨fun _ => ?_, fun h => by cases h⟩
            have o100 := hdep ⟨1, .data⟩ (by simp) rfl 100 rfl
            have o102 := hdep ⟨3, .data⟩ (by simp) rfl 102 rfl
            have s103 : ρ (.tmp 103) = .int .i64 n2 := hdep ⟨4, .data⟩ (by simp) rfl 103 rfl
            clear ht hdep
            go_simp
            exact (implPrefixesAt_any _ x0 _ x1 n2 w' (rLattice.own_at o100) (rLexicon.own_at o102) ok_x0 ok_x1 g0 g1).mono fun e w'' ⟨u, he, ho, hb⟩ => ⟨_, he, hb, u, rfl, rReadingS.own_mono ho hbw.size (Nat.le_refl _)⟩
          · intro ρ w' hbw ht hcs hfn hgl hdep
            refine ⟨fun _ => ?_, fun h => by cases h⟩
            obtain ⟨u104, s104, o104⟩ := hdep ⟨5, .data⟩ (by simp) rfl 104 rfl
            clear ht hdep
            go_simp
            exact ⟨Below.refl _ _, _, rfl, o104⟩
          · intro ρ w' hbw ht hcs hfn hgl hdep
            refine ⟨fun _ => ?_, fun h => by cases h⟩
            obtain ⟨u98, s98, o98⟩ := hdep ⟨6, .data⟩ (by simp) rfl 98 rfl
            clear ht hdep
            go_simp
            exact ⟨Below.refl _ _, o98⟩
          · intro ρ w' hbw ht hcs hfn hgl hdep
            refine ⟨fun _ => ?_, fun h => by cases h⟩
            obtain ⟨u98, s98, o98⟩ := hdep ⟨6, .data⟩ (by simp) rfl 98 rfl
            clear ht hdep
            go_simp
            exact ⟨Below.refl _ _, rfl⟩
          · intro ρ w' hbw ht hcs hfn hgl hdep
            refine ⟨fun _ => ?_, fun h => by cases h⟩
            have o105 := hdep ⟨7, .data⟩ (by simp) rfl 105 rfl
            clear ht hdep
            go_simp
            exact ⟨Below.refl _ _, o105⟩
          · intro ρ w' hbw ht hcs hfn hgl hdep
            refine ⟨fun _ => ?_, fun h => by cases h⟩
            have s106 : ρ (.tmp 106) = .int .i64 (pfC x0 x1 n2) := hdep ⟨8, .data⟩ (by simp) rfl 106 rfl
            clear ht hdep
            go_simp
            exact ⟨Below.refl _ _, rfl⟩
        · intro x w15 hb hx
          have hx0 : x 0 = .agg #[.int .i64 x0.1, .slice sa0 x0.2.length sc0] := hx 0 (by simp)
          have hx1 := hx 1 (by simp)
          have hx2 : x 2 = .agg #[.slice sa1 x1.length sc1] := hx 2 (by simp)
          have hx3 := hx 3 (by simp)
          have hx4 : x 4 = .int .i64 n2 := hx 4 (by simp)
          have hx7 := hx 7 (by simp)
          have hx8 : x 8 = .int .i64 (pfC x0 x1 n2) := hx 8 (by simp)
          have hx9 := hx 9 (by simp)
          have hx10 : x 10 = .int .i64 (pfC x0 x1 n2) := hx 10 (by simp)
          clear hx
          have z15 : w14.heap.size + 0 ≤ w15.heap.size := by have := hb.size; (try simp at this); omega
          replace a0 := rLattice.at_below a0 hb
          replace a1 := rLexicon.at_below a1 hb
          replace o1 := rLattice.own_below o1 hb
          replace o2 := rLexicon.own_below o2 hb
          replace o3 := rReadingS.own_below o3 hb
          replace o4 := rReadingS.own_below o4 hb
          replace o5 := rLattice.own_below o5 hb
          replace o6 := rLexicon.own_below o6 hb
          replace o7 := rReadingS.own_below o7 hb
          replace o8 := rLattice.own_below o8 hb
          replace o9 := rLexicon.own_below o9 hb
          replace q1 := cell_later hb q1
          replace q2 := cell_later hb q2
          replace q3 := cell_later hb q3
          replace q4 := cell_later hb q4
          replace q5 := cell_later hb q5
          replace q6 := cell_later hb q6
          replace yq1 := cell_lt q1
          replace yq3 := cell_lt q3
          replace yq4 := cell_lt q4
          replace yq6 := cell_lt q6
          replace hbase := baseB0 hbase hb
          clear hb
          simp only [putAll, Act.put, List.setIfInBounds_toArray, List.set_cons_succ, List.set_cons_zero, Nat.zero_add, Nat.reduceAdd, hx0, hx2, hx4, hx8, hx10]
          generalize x 1 = k31_1 at *
          generalize x 3 = k31_3 at *
          generalize x 5 = k31_5 at *
          generalize x 6 = k31_6 at *
          generalize x 7 = k31_7 at *
          generalize x 9 = k31_9 at *
          clear hx0 hx2 hx4 hx8 hx10
          have o10 := hx1
          clear hx1
          obtain ⟨sb10, sd10, hsh10⟩ := shapeLattice (rLattice.own_at o10)
          subst hsh10
          have o11 := hx3
          clear hx3
          obtain ⟨sb11, sd11, hsh11⟩ := shapeLexicon (rLexicon.own_at o11)
          subst hsh11
          have o12 := hx7
          clear hx7
          obtain ⟨sb12, sd12, hsh12⟩ := shapeReadingS (rReadingS.own_at o12)
          subst hsh12
          have o13 := hx9
          clear hx9
          obtain ⟨sb13, sd13, hsh13⟩ := shapeReadingS (rReadingS.own_at o13)
          subst hsh13
          go_wp2_with fail
          refine (eqReadingSR_any _ _ (pfL x0 x1 n2) _ (rReadingS.own_at o13) (rReadingS.own_at o4)).mono ?_
          rintro e w16 ⟨rfl, hb⟩
          have z16 : w15.heap.size + 0 ≤ w16.heap.size := by have := hb.size; (try simp at this); omega
          replace a0 := rLattice.at_below a0 hb
          replace a1 := rLexicon.at_below a1 hb
          replace o1 := rLattice.own_below o1 hb
          replace o2 := rLexicon.own_below o2 hb
          replace o3 := rReadingS.own_below o3 hb
          replace o4 := rReadingS.own_below o4 hb
          replace o5 := rLattice.own_below o5 hb
          replace o6 := rLexicon.own_below o6 hb
          replace o7 := rReadingS.own_below o7 hb
          replace o8 := rLattice.own_below o8 hb
          replace o9 := rLexicon.own_below o9 hb
          replace o10 := rLattice.own_below o10 hb
          replace o11 := rLexicon.own_below o11 hb
          replace o12 := rReadingS.own_below o12 hb
          replace o13 := rReadingS.own_below o13 hb
          replace q1 := cell_later hb q1
          replace q2 := cell_later hb q2
          replace q3 := cell_later hb q3
          replace q4 := cell_later hb q4
          replace q5 := cell_later hb q5
          replace q6 := cell_later hb q6
          replace yq1 := cell_lt q1
          replace yq3 := cell_lt q3
          replace yq4 := cell_lt q4
          replace yq6 := cell_lt q6
          replace hbase := baseB0 hbase hb
          clear hb
          go_wp2_with fail
          refine (heldReadingSR_any _ (pfL x0 x1 n2) (1) _ (rReadingS.own_at o7) okPf (by omega) (by omega)).mono ?_
          rintro e w17 ⟨rfl, hb⟩
          have z17 : w16.heap.size + 0 ≤ w17.heap.size := by have := hb.size; (try simp at this); omega
          replace a0 := rLattice.at_below a0 hb
          replace a1 := rLexicon.at_below a1 hb
          replace o1 := rLattice.own_below o1 hb
          replace o2 := rLexicon.own_below o2 hb
          replace o3 := rReadingS.own_below o3 hb
          replace o4 := rReadingS.own_below o4 hb
          replace o5 := rLattice.own_below o5 hb
          replace o6 := rLexicon.own_below o6 hb
          replace o7 := rReadingS.own_below o7 hb
          replace o8 := rLattice.own_below o8 hb
          replace o9 := rLexicon.own_below o9 hb
          replace o10 := rLattice.own_below o10 hb
          replace o11 := rLexicon.own_below o11 hb
          replace o12 := rReadingS.own_below o12 hb
          replace o13 := rReadingS.own_below o13 hb
          replace q1 := cell_later hb q1
          replace q2 := cell_later hb q2
          replace q3 := cell_later hb q3
          replace q4 := cell_later hb q4
          replace q5 := cell_later hb q5
          replace q6 := cell_later hb q6
          replace yq1 := cell_lt q1
          replace yq3 := cell_lt q3
          replace yq4 := cell_lt q4
          replace yq6 := cell_lt q6
          replace hbase := baseB0 hbase hb
          clear hb
          go_wp2_with fail
          go_ret
          exact ret_bool rfl hbase
end Go.Proofs.Ytnhmailnnggmjaa
