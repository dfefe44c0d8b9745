/- The walk of the law FnExactBeamText: for every argument it returns true and leaves what was there. -/
import Derived.Test.YtcikndmmbfompaaGreatDoorReg
import Derived.Test.YtcikndmmbfompaaGreatDoorRep
import Derived.Test.YtcikndmmbfompaaGreatDoorWrLattice
import Derived.Test.YtcikndmmbfompaaGreatDoorWrLexicon
import Derived.Test.YtcikndmmbfompaaGreatDoorTxBeam
namespace Go.Proofs.YtcikndmmbfompaaGreatDoor
open Go.RowKit

set_option maxHeartbeats 4000000 in
theorem lawBeamText (v0 : Value) (x0 : XLattice) (v1 : Value) (x1 : XLexicon) (n2 : Int) (w : World) (a0 : rLattice.at_ 0 w.heap.size w v0 x0) (g0 : goodLattice x0) (a1 : rLexicon.at_ 0 w.heap.size w v1 x1) (g1 : goodLexicon x1) (htab : TabL w) :
    Calls Tryz.prog 3 #[v0, v1, .int .i64 n2] w (Ret (.bool true) w) := by
  obtain ⟨sa0, sc0, rfl⟩ := shapeLattice a0
  obtain ⟨sa1, sc1, rfl⟩ := shapeLexicon a1
  have hbase : Below w.heap.size w w := Below.refl _ _
  go_enter Tryz.func3, Tryz.ntmps3
  go_wp2_with fail
  refine (szLattice_any _ x0 (1048576) _ (rLattice.at_alloc (rLattice.at_alloc a0 _) _) g0 (by omega) (by omega)).mono ?_
  rintro e w1 ⟨rfl, hb⟩
  have z1 : w.heap.size + 2 ≤ w1.heap.size := by have := hb.size; (try simp at this); omega
  replace a0 := rLattice.at_below (rLattice.at_alloc (rLattice.at_alloc a0 _) _) hb
  replace a1 := rLexicon.at_below (rLexicon.at_alloc (rLexicon.at_alloc a1 _) _) hb
  have q1 : w1.cell? ⟨w.heap.size, 0, none⟩ = some (.int .i64 x0.1) := cell_later hb (by simp)
  have q2 : w1.cell? ⟨w.heap.size, 1, none⟩ = some (.slice sa0 x0.2.length sc0) := cell_later hb (by simp)
  have q3 : w1.cell? ⟨w.heap.size + 1, 0, none⟩ = some (.slice sa1 x1.length sc1) := cell_later hb (by simp)
  have yq1 := cell_lt q1
  have yq3 := cell_lt q3
  replace hbase := baseB2 hbase hb
  clear hb
  by_cases hszx0 : (1048576 : Int) < (sizeLattice x0 : Nat)
  · rw [szOf_neg hszx0]
    go_wp2_with fail
    go_ret
    exact ret_bool rfl hbase
  rw [szOf_pos (by omega)]
  have ok_x0 : okLattice x0 := okLattice_of (by omega)
  go_wp2_with fail
  refine (szLexicon_any _ x1 (1048576 - (sizeLattice x0 : Nat)) _ a1 g1 (by omega) (by omega)).mono ?_
  rintro e w2 ⟨rfl, hb⟩
  have z2 : w1.heap.size + 0 ≤ w2.heap.size := by have := hb.size; (try simp at this); omega
  replace a0 := rLattice.at_below a0 hb
  replace a1 := rLexicon.at_below a1 hb
  replace q1 := cell_later hb q1
  replace q2 := cell_later hb q2
  replace q3 := cell_later hb q3
  replace yq1 := cell_lt q1
  replace yq3 := cell_lt q3
  replace hbase := baseB0 hbase hb
  clear hb
  by_cases hszx1 : (1048576 - (sizeLattice x0 : Nat) : Int) < (sizeLexicon x1 : Nat)
  · rw [szOf_neg hszx1]
    go_wp2_with fail
    go_ret
    exact ret_bool rfl hbase
  rw [szOf_pos (by omega)]
  have ok_x1 : okLexicon x1 := okLexicon_of (by omega)
  go_wp2_with fail
  refine wp_region_rel (fun i v w' => match i with
      | 0 => v = .agg #[.int .i64 x0.1, .slice sa0 x0.2.length sc0]
      | 1 => rLattice.own w2.heap.size w'.heap.size w' v x0
      | 2 => v = .agg #[.slice sa1 x1.length sc1]
      | 3 => rLexicon.own w2.heap.size w'.heap.size w' v x1
      | 4 => v = .int .i64 n2
      | 5 => v = .string (bmS x0 x1 n2)
      | _ => v = .string (bmS x0 x1 n2)) (by kernel_rfl) (by kernel_rfl) (by kernel_rfl) (by kernel_rfl) ?_ ?_ ?_
  · intro i v w w' h hb
    match i, h with
    | 0, h => exact h
    | 1, h => exact rLattice.own_now h hb
    | 2, h => exact h
    | 3, h => exact rLexicon.own_now h hb
    | 4, h => exact h
    | 5, h => exact h
    | (m + 6), h => exact h
  · refine ⟨?_, ?_, ?_, ?_, ?_, ?_, ?_, trivial⟩
    · intro ρ w' hbw ht hcs hfn hgl hdep
      refine ⟨fun _ => ?_, fun h => by cases h⟩
      have s3 : ρ (.tmp 3) = .pointer (some ⟨w.heap.size, 0, none⟩) := ht 3 rfl
      have c0 := cell_later hbw q1
      have c1 := cell_later hbw q2
      clear ht hdep
      go_simp
      exact ⟨Below.refl _ _, rfl⟩
    · intro ρ w' hbw ht hcs hfn hgl hdep
      refine ⟨fun _ => ?_, fun h => by cases h⟩
      have s22 : ρ (.tmp 22) = .agg #[.int .i64 x0.1, .slice sa0 x0.2.length sc0] := hdep ⟨0, .data⟩ (by simp) rfl 22 rfl
      clear ht hdep
      go_simp
      exact (toLattice_any _ x0 w' (rLattice.at_below a0 hbw) ok_x0).mono fun e w'' ⟨u, he, ho, hb⟩ => ⟨_, he, hb, rLattice.own_mono ho hbw.size (Nat.le_refl _)⟩
    · intro ρ w' hbw ht hcs hfn hgl hdep
      refine ⟨fun _ => ?_, fun h => by cases h⟩
      have s4 : ρ (.tmp 4) = .pointer (some ⟨w.heap.size + 1, 0, none⟩) := ht 4 rfl
      have c0 := cell_later hbw q3
      clear ht hdep
      go_simp
      exact ⟨Below.refl _ _, rfl⟩
    · intro ρ w' hbw ht hcs hfn hgl hdep
      refine ⟨fun _ => ?_, fun h => by cases h⟩
      have s24 : ρ (.tmp 24) = .agg #[.slice sa1 x1.length sc1] := hdep ⟨2, .data⟩ (by simp) rfl 24 rfl
      clear ht hdep
      go_simp
      exact (toLexicon_any _ x1 w' (rLexicon.at_below a1 hbw) ok_x1).mono fun e w'' ⟨u, he, ho, hb⟩ => ⟨_, he, hb, rLexicon.own_mono ho hbw.size (Nat.le_refl _)⟩
    · intro ρ w' hbw ht hcs hfn hgl hdep
      refine ⟨fun _ => ?_, fun h => by cases h⟩
      have s2 : ρ (.tmp 2) = .int .i64 n2 := ht 2 rfl
      clear ht hdep
      go_simp
      exact ⟨Below.refl _ _, rfl⟩
    · intro ρ w' hbw ht hcs hfn hgl hdep
      refine ⟨fun _ => ?_, fun h => by cases h⟩
      have o23 := hdep ⟨1, .data⟩ (by simp) rfl 23 rfl
      have o25 := hdep ⟨3, .data⟩ (by simp) rfl 25 rfl
      have s26 : ρ (.tmp 26) = .int .i64 n2 := hdep ⟨4, .data⟩ (by simp) rfl 26 rfl
      clear ht hdep
      go_simp
      exact (specBeamText_any _ x0 _ x1 n2 w' (rLattice.own_at o23) (rLexicon.own_at o25) ok_x0 ok_x1 g0 g1 (TabL.below (htab.below hbase) hbw)).mono fun e w'' ⟨he, hb⟩ => ⟨_, he, hb, rfl⟩
    · intro ρ w' hbw ht hcs hfn hgl hdep
      refine ⟨fun _ => ?_, fun h => by cases h⟩
      have s27 : ρ (.tmp 27) = .string (bmS x0 x1 n2) := hdep ⟨5, .data⟩ (by simp) rfl 27 rfl
      clear ht hdep
      go_simp
      exact ⟨Below.refl _ _, rfl⟩
  · intro x w3 hb hx
    have hx0 : x 0 = .agg #[.int .i64 x0.1, .slice sa0 x0.2.length sc0] := hx 0 (by simp)
    have hx1 := hx 1 (by simp)
    have hx2 : x 2 = .agg #[.slice sa1 x1.length sc1] := hx 2 (by simp)
    have hx3 := hx 3 (by simp)
    have hx4 : x 4 = .int .i64 n2 := hx 4 (by simp)
    have hx5 : x 5 = .string (bmS x0 x1 n2) := hx 5 (by simp)
    have hx6 : x 6 = .string (bmS x0 x1 n2) := hx 6 (by simp)
    clear hx
    have z3 : w2.heap.size + 0 ≤ w3.heap.size := by have := hb.size; (try simp at this); omega
    replace a0 := rLattice.at_below a0 hb
    replace a1 := rLexicon.at_below a1 hb
    replace q1 := cell_later hb q1
    replace q2 := cell_later hb q2
    replace q3 := cell_later hb q3
    replace yq1 := cell_lt q1
    replace yq3 := cell_lt q3
    replace hbase := baseB0 hbase hb
    clear hb
    simp only [putAll, Act.put, List.setIfInBounds_toArray, List.set_cons_succ, List.set_cons_zero, Nat.zero_add, Nat.reduceAdd, hx0, hx2, hx4, hx5, hx6]
    generalize x 1 = k8_1 at *
    generalize x 3 = k8_3 at *
    clear hx0 hx2 hx4 hx5 hx6
    have o1 := hx1
    clear hx1
    obtain ⟨sb1, sd1, hsh1⟩ := shapeLattice (rLattice.own_at o1)
    subst hsh1
    have o2 := hx3
    clear hx3
    obtain ⟨sb2, sd2, hsh2⟩ := shapeLexicon (rLexicon.own_at o2)
    subst hsh2
    go_wp2_with fail
    refine (toLattice_any _ x0 _ a0 ok_x0).mono ?_
    rintro e w4 ⟨u3, rfl, o3, hb⟩
    obtain ⟨sb3, sd3, rfl⟩ := shapeLattice (rLattice.own_at o3)
    have z4 : w3.heap.size + 0 ≤ w4.heap.size := by have := hb.size; (try simp at this); omega
    replace a0 := rLattice.at_below a0 hb
    replace a1 := rLexicon.at_below a1 hb
    replace o1 := rLattice.own_below o1 hb
    replace o2 := rLexicon.own_below o2 hb
    replace q1 := cell_later hb q1
    replace q2 := cell_later hb q2
    replace q3 := cell_later hb q3
    replace yq1 := cell_lt q1
    replace yq3 := cell_lt q3
    replace hbase := baseB0 hbase hb
    clear hb
    go_wp2_with fail
    refine (toLexicon_any _ x1 _ (rLexicon.at_alloc a1 _) ok_x1).mono ?_
    rintro e w5 ⟨u4, rfl, o4, hb⟩
    obtain ⟨sb4, sd4, rfl⟩ := shapeLexicon (rLexicon.own_at o4)
    replace o4 : rLexicon.own (w4.heap.size + 1) w5.heap.size w5 _ _ := rLexicon.own_mono o4 (by simp <;> omega) (Nat.le_refl _)
    have z5 : w4.heap.size + 1 ≤ w5.heap.size := by have := hb.size; (try simp at this); omega
    replace a0 := rLattice.at_below (rLattice.at_alloc a0 _) hb
    replace a1 := rLexicon.at_below (rLexicon.at_alloc a1 _) hb
    replace o1 := rLattice.own_below (rLattice.own_alloc o1 _) hb
    replace o2 := rLexicon.own_below (rLexicon.own_alloc o2 _) hb
    replace o3 := rLattice.own_below (rLattice.own_alloc o3 _) hb
    replace q1 := cell_later hb (cell_alloc q1 _)
    replace q2 := cell_later hb (cell_alloc q2 _)
    replace q3 := cell_later hb (cell_alloc q3 _)
    have q4 : w5.cell? ⟨w4.heap.size, 0, none⟩ = some (.int .i64 x0.1) := cell_later hb (by simp)
    have q5 : w5.cell? ⟨w4.heap.size, 1, none⟩ = some (.slice sb3 x0.2.length sd3) := cell_later hb (by simp)
    replace yq1 := cell_lt q1
    replace yq3 := cell_lt q3
    have yq4 := cell_lt q4
    replace hbase := baseB1 hbase hb
    clear hb
    go_wp2_with fail
    refine (implBeamText_any _ x0 _ x1 n2 _ (rLattice.own_at (rLattice.own_alloc o3 _)) (rLexicon.own_at (rLexicon.own_alloc o4 _)) ok_x0 ok_x1 g0 g1 (TabL.alloc (htab.below hbase) _)).mono ?_
    rintro e w6 ⟨rfl, hb⟩
    have z6 : w5.heap.size + 1 ≤ w6.heap.size := by have := hb.size; (try simp at this); omega
    replace a0 := rLattice.at_below (rLattice.at_alloc a0 _) hb
    replace a1 := rLexicon.at_below (rLexicon.at_alloc a1 _) hb
    replace o1 := rLattice.own_below (rLattice.own_alloc o1 _) hb
    replace o2 := rLexicon.own_below (rLexicon.own_alloc o2 _) hb
    replace o3 := rLattice.own_below (rLattice.own_alloc o3 _) hb
    replace o4 := rLexicon.own_below (rLexicon.own_alloc o4 _) hb
    replace q1 := cell_later hb (cell_alloc q1 _)
    replace q2 := cell_later hb (cell_alloc q2 _)
    replace q3 := cell_later hb (cell_alloc q3 _)
    replace q4 := cell_later hb (cell_alloc q4 _)
    replace q5 := cell_later hb (cell_alloc q5 _)
    have q6 : w6.cell? ⟨w5.heap.size, 0, none⟩ = some (.slice sb4 x1.length sd4) := cell_later hb (by simp)
    replace yq1 := cell_lt q1
    replace yq3 := cell_lt q3
    replace yq4 := cell_lt q4
    have yq6 := cell_lt q6
    replace hbase := baseB1 hbase hb
    clear hb
    go_wp2_with fail
    refine wp_region_rel (fun i v w' => match i with
        | 0 => v = .agg #[.int .i64 x0.1, .slice sb3 x0.2.length sd3]
        | 1 => v = .agg #[.int .i64 x0.1, .slice sa0 x0.2.length sc0]
        | 2 => rLattice.own w6.heap.size w'.heap.size w' v x0
        | 3 => v = .bool true
        | _ => v = .bool false) (by kernel_rfl) (by kernel_rfl) (by kernel_rfl) (by kernel_rfl) ?_ ?_ ?_
    · intro i v w w' h hb
      match i, h with
      | 0, h => exact h
      | 1, h => exact h
      | 2, h => exact rLattice.own_now h hb
      | 3, h => exact h
      | (m + 4), h => exact h
    · refine ⟨?_, ?_, ?_, ?_, ?_, trivial⟩
      · intro ρ w' hbw ht hcs hfn hgl hdep
        refine ⟨fun _ => ?_, fun h => by cases h⟩
        have s9 : ρ (.tmp 9) = .pointer (some ⟨w4.heap.size, 0, none⟩) := ht 9 rfl
        have c0 := cell_later hbw q4
        have c1 := cell_later hbw q5
        clear ht hdep
        go_simp
        exact ⟨Below.refl _ _, rfl⟩
      · intro ρ w' hbw ht hcs hfn hgl hdep
        refine ⟨fun _ => ?_, fun h => by cases h⟩
        have s3 : ρ (.tmp 3) = .pointer (some ⟨w.heap.size, 0, none⟩) := ht 3 rfl
        have c0 := cell_later hbw q1
        have c1 := cell_later hbw q2
        clear ht hdep
        go_simp
        exact ⟨Below.refl _ _, rfl⟩
      · intro ρ w' hbw ht hcs hfn hgl hdep
        refine ⟨fun _ => ?_, fun h => by cases h⟩
        have s40 : ρ (.tmp 40) = .agg #[.int .i64 x0.1, .slice sa0 x0.2.length sc0] := hdep ⟨1, .data⟩ (by simp) rfl 40 rfl
        clear ht hdep
        go_simp
        exact (toLattice_any _ x0 w' (rLattice.at_below a0 hbw) ok_x0).mono fun e w'' ⟨u, he, ho, hb⟩ => ⟨_, he, hb, rLattice.own_mono ho hbw.size (Nat.le_refl _)⟩
      · intro ρ w' hbw ht hcs hfn hgl hdep
        refine ⟨fun _ => ?_, fun h => by cases h⟩
        have s39 : ρ (.tmp 39) = .agg #[.int .i64 x0.1, .slice sb3 x0.2.length sd3] := hdep ⟨0, .data⟩ (by simp) rfl 39 rfl
        have o41 := hdep ⟨2, .data⟩ (by simp) rfl 41 rfl
        clear ht hdep
        go_simp
        exact (eqLattice_any _ _ x0 w' (rLattice.own_at (rLattice.own_below o3 hbw)) (rLattice.own_at o41)).mono fun e w'' ⟨he, hb⟩ => ⟨_, he, hb, rfl⟩
      · intro ρ w' hbw ht hcs hfn hgl hdep
        refine ⟨fun _ => ?_, fun h => by cases h⟩
        have s42 : ρ (.tmp 42) = .bool true := hdep ⟨3, .data⟩ (by simp) rfl 42 rfl
        clear ht hdep
        go_simp
        exact ⟨Below.refl _ _, rfl⟩
    · intro x w7 hb hx
      have hx0 : x 0 = .agg #[.int .i64 x0.1, .slice sb3 x0.2.length sd3] := hx 0 (by simp)
      have hx1 : x 1 = .agg #[.int .i64 x0.1, .slice sa0 x0.2.length sc0] := hx 1 (by simp)
      have hx2 := hx 2 (by simp)
      have hx3 : x 3 = .bool true := hx 3 (by simp)
      have hx4 : x 4 = .bool false := hx 4 (by simp)
      clear hx
      have z7 : w6.heap.size + 0 ≤ w7.heap.size := by have := hb.size; (try simp at this); omega
      replace a0 := rLattice.at_below a0 hb
      replace a1 := rLexicon.at_below a1 hb
      replace o1 := rLattice.own_below o1 hb
      replace o2 := rLexicon.own_below o2 hb
      replace o3 := rLattice.own_below o3 hb
      replace o4 := rLexicon.own_below o4 hb
      replace q1 := cell_later hb q1
      replace q2 := cell_later hb q2
      replace q3 := cell_later hb q3
      replace q4 := cell_later hb q4
      replace q5 := cell_later hb q5
      replace q6 := cell_later hb q6
      replace yq1 := cell_lt q1
      replace yq3 := cell_lt q3
      replace yq4 := cell_lt q4
      replace yq6 := cell_lt q6
      replace hbase := baseB0 hbase hb
      clear hb
      simp only [putAll, Act.put, List.setIfInBounds_toArray, List.set_cons_succ, List.set_cons_zero, Nat.zero_add, Nat.reduceAdd, hx0, hx1, hx3, hx4]
      generalize x 2 = k14_2 at *
      clear hx0 hx1 hx3 hx4
      have o5 := hx2
      clear hx2
      obtain ⟨sb5, sd5, hsh5⟩ := shapeLattice (rLattice.own_at o5)
      subst hsh5
      go_wp2_with fail
      refine wp_region_rel (fun i v w' => match i with
          | 0 => v = .agg #[.slice sb4 x1.length sd4]
          | 1 => v = .agg #[.slice sa1 x1.length sc1]
          | 2 => rLexicon.own w7.heap.size w'.heap.size w' v x1
          | 3 => v = .bool true
          | _ => v = .bool false) (by kernel_rfl) (by kernel_rfl) (by kernel_rfl) (by kernel_rfl) ?_ ?_ ?_
      · intro i v w w' h hb
        match i, h with
        | 0, h => exact h
        | 1, h => exact h
        | 2, h => exact rLexicon.own_now h hb
        | 3, h => exact h
        | (m + 4), h => exact h
      · refine ⟨?_, ?_, ?_, ?_, ?_, trivial⟩
        · intro ρ w' hbw ht hcs hfn hgl hdep
          refine ⟨fun _ => ?_, fun h => by cases h⟩
          have s10 : ρ (.tmp 10) = .pointer (some ⟨w5.heap.size, 0, none⟩) := ht 10 rfl
          have c0 := cell_later hbw q6
          clear ht hdep
          go_simp
          exact ⟨Below.refl _ _, rfl⟩
        · intro ρ w' hbw ht hcs hfn hgl hdep
          refine ⟨fun _ => ?_, fun h => by cases h⟩
          have s4 : ρ (.tmp 4) = .pointer (some ⟨w.heap.size + 1, 0, none⟩) := ht 4 rfl
          have c0 := cell_later hbw q3
          clear ht hdep
          go_simp
          exact ⟨Below.refl _ _, rfl⟩
        · intro ρ w' hbw ht hcs hfn hgl hdep
          refine ⟨fun _ => ?_, fun h => by cases h⟩
          have s45 : ρ (.tmp 45) = .agg #[.slice sa1 x1.length sc1] := hdep ⟨1, .data⟩ (by simp) rfl 45 rfl
          clear ht hdep
          go_simp
          exact (toLexicon_any _ x1 w' (rLexicon.at_below a1 hbw) ok_x1).mono fun e w'' ⟨u, he, ho, hb⟩ => ⟨_, he, hb, rLexicon.own_mono ho hbw.size (Nat.le_refl _)⟩
        · intro ρ w' hbw ht hcs hfn hgl hdep
          refine ⟨fun _ => ?_, fun h => by cases h⟩
          have s44 : ρ (.tmp 44) = .agg #[.slice sb4 x1.length sd4] := hdep ⟨0, .data⟩ (by simp) rfl 44 rfl
          have o46 := hdep ⟨2, .data⟩ (by simp) rfl 46 rfl
          clear ht hdep
          go_simp
          exact (eqLexicon_any _ _ x1 w' (rLexicon.own_at (rLexicon.own_below o4 hbw)) (rLexicon.own_at o46)).mono fun e w'' ⟨he, hb⟩ => ⟨_, he, hb, rfl⟩
        · intro ρ w' hbw ht hcs hfn hgl hdep
          refine ⟨fun _ => ?_, fun h => by cases h⟩
          have s47 : ρ (.tmp 47) = .bool true := hdep ⟨3, .data⟩ (by simp) rfl 47 rfl
          clear ht hdep
          go_simp
          exact ⟨Below.refl _ _, rfl⟩
      · intro x w8 hb hx
        have hx0 : x 0 = .agg #[.slice sb4 x1.length sd4] := hx 0 (by simp)
        have hx1 : x 1 = .agg #[.slice sa1 x1.length sc1] := hx 1 (by simp)
        have hx2 := hx 2 (by simp)
        have hx3 : x 3 = .bool true := hx 3 (by simp)
        have hx4 : x 4 = .bool false := hx 4 (by simp)
        clear hx
        have z8 : w7.heap.size + 0 ≤ w8.heap.size := by have := hb.size; (try simp at this); omega
        replace a0 := rLattice.at_below a0 hb
        replace a1 := rLexicon.at_below a1 hb
        replace o1 := rLattice.own_below o1 hb
        replace o2 := rLexicon.own_below o2 hb
        replace o3 := rLattice.own_below o3 hb
        replace o4 := rLexicon.own_below o4 hb
        replace o5 := rLattice.own_below o5 hb
        replace q1 := cell_later hb q1
        replace q2 := cell_later hb q2
        replace q3 := cell_later hb q3
        replace q4 := cell_later hb q4
        replace q5 := cell_later hb q5
        replace q6 := cell_later hb q6
        replace yq1 := cell_lt q1
        replace yq3 := cell_lt q3
        replace yq4 := cell_lt q4
        replace yq6 := cell_lt q6
        replace hbase := baseB0 hbase hb
        clear hb
        simp only [putAll, Act.put, List.setIfInBounds_toArray, List.set_cons_succ, List.set_cons_zero, Nat.zero_add, Nat.reduceAdd, hx0, hx1, hx3, hx4]
        generalize x 2 = k16_2 at *
        clear hx0 hx1 hx3 hx4
        have o6 := hx2
        clear hx2
        obtain ⟨sb6, sd6, hsh6⟩ := shapeLexicon (rLexicon.own_at o6)
        subst hsh6
        go_wp2_with fail
        go_ret
        exact ret_bool rfl hbase
end Go.Proofs.YtcikndmmbfompaaGreatDoor
