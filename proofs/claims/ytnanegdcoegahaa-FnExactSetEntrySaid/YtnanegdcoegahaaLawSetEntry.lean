/- The walk of the law FnExactSetEntry: for every argument it returns true and leaves what was there. -/
import Derived.Test.YtnanegdcoegahaaReg2
import Derived.Test.YtnanegdcoegahaaBase2
import Derived.Test.YtnanegdcoegahaaWrLexicon
import Derived.Test.YtnanegdcoegahaaLxSet2
namespace Go.Proofs.Ytnanegdcoegahaa
open Go.RowKit

set_option maxHeartbeats 4000000 in
theorem lawSetEntry (v0 : Value) (x0 : XLexicon) (x1 : DEntry) (w : World) (a0 : rLexicon.at_ 0 w.heap.size w v0 x0) (g0 : goodLexicon x0) (g1 : goodEntry x1) :
    Calls Try.prog 7 #[v0, .agg #[.string x1.word, .int .i64 x1.cost]] w (Ret (.bool true) w) := by
  obtain ⟨sa0, sc0, rfl⟩ := shapeLexicon a0
  have hbase : Below w.heap.size w w := Below.refl _ _
  go_enter Try.func7, Try.ntmps7
  go_wp2_with fail
  refine (szLexicon_any _ x0 (1048576) _ (rLexicon.at_alloc (rLexicon.at_alloc a0 _) _) g0 (by omega) (by omega)).mono ?_
  rintro e w1 ⟨rfl, hb⟩
  have z1 : w.heap.size + 2 ≤ w1.heap.size := by have := hb.size; (try simp at this); omega
  replace a0 := rLexicon.at_below (rLexicon.at_alloc (rLexicon.at_alloc a0 _) _) hb
  have q1 : w1.cell? ⟨w.heap.size, 0, none⟩ = some (.slice sa0 x0.length sc0) := cell_later hb (by simp)
  have q2 : w1.cell? ⟨w.heap.size + 1, 0, none⟩ = some (.string x1.word) := cell_later hb (by simp)
  have q3 : w1.cell? ⟨w.heap.size + 1, 1, none⟩ = some (.int .i64 x1.cost) := cell_later hb (by simp)
  have yq1 := cell_lt q1
  have yq2 := cell_lt q2
  replace hbase := baseB2 hbase hb
  clear hb
  by_cases hszx0 : (1048576 : Int) < (sizeLexicon x0 : Nat)
  · rw [szOf_neg hszx0]
    go_wp2_with fail
    go_ret
    exact ret_bool rfl hbase
  rw [szOf_pos (by omega)]
  have ok_x0 : okLexicon x0 := okLexicon_of (by omega)
  go_wp2_with fail
  refine (szEntry_any x1 (1048576 - (sizeLexicon x0 : Nat)) _ g1 (by omega) (by omega)).mono ?_
  rintro e w2 ⟨rfl, hb⟩
  have z2 : w1.heap.size + 0 ≤ w2.heap.size := by have := hb.size; (try simp at this); omega
  replace a0 := rLexicon.at_below a0 hb
  replace q1 := cell_later hb q1
  replace q2 := cell_later hb q2
  replace q3 := cell_later hb q3
  replace yq1 := cell_lt q1
  replace yq2 := cell_lt q2
  replace hbase := baseB0 hbase hb
  clear hb
  by_cases hszx1 : (1048576 - (sizeLexicon x0 : Nat) : Int) < (szEntry x1 : Nat)
  · rw [szOf_neg hszx1]
    go_wp2_with fail
    go_ret
    exact ret_bool rfl hbase
  rw [szOf_pos (by omega)]
  go_wp2_with fail
  refine wp_region_rel2 9 (fun i v w' => match i with
      | 0 => v = .agg #[.slice sa0 x0.length sc0]
      | 1 => rLexicon.own w2.heap.size w'.heap.size w' v x0
      | 2 => v = .agg #[.string x1.word, .int .i64 x1.cost]
      | 3 => v = .agg #[.string x1.word, .int .i64 x1.cost]
      | 4 => ∃ u, v = .tuple #[u, .int .i64 (setCode x0 x1)] ∧ rLexicon.own w2.heap.size w'.heap.size w' u (setLx x0 x1)
      | 5 => ∃ u, v = .tuple #[u, .int .i64 (setCode x0 x1)] ∧ rLexicon.own w2.heap.size w'.heap.size w' u (setLx x0 x1)
      | 6 => rLexicon.own w2.heap.size w'.heap.size w' v (setLx x0 x1)
      | 7 => v = .int .i64 (setCode x0 x1)
      | 8 => ∃ p, v = .pointer (some ⟨p, 0, none⟩) ∧ w2.heap.size ≤ p ∧ w'.heap[p]? = some (.cells #[.slice none 0 0] 40 (0, 0))
      | 9 => True
      | _ => v = .int .i64 (setCode x0 x1))
    (fun i v w' => match i with
      | 0 => v = .agg #[.slice sa0 x0.length sc0]
      | 1 => True
      | 2 => v = .agg #[.string x1.word, .int .i64 x1.cost]
      | 3 => v = .agg #[.string x1.word, .int .i64 x1.cost]
      | 4 => ∃ u, v = .tuple #[u, .int .i64 (setCode x0 x1)] ∧ True
      | 5 => ∃ u, v = .tuple #[u, .int .i64 (setCode x0 x1)] ∧ True
      | 6 => True
      | 7 => v = .int .i64 (setCode x0 x1)
      | 8 => ∃ p sa sc, v = .pointer (some ⟨p, 0, none⟩) ∧ w2.heap.size ≤ p ∧ w'.cell? ⟨p, 0, none⟩ = some (.slice sa (setLx x0 x1).length sc) ∧ BoxT w' p 40 ∧ rLexicon.own w2.heap.size w'.heap.size w' (.agg #[.slice sa (setLx x0 x1).length sc]) (setLx x0 x1)
      | 9 => True
      | _ => v = .int .i64 (setCode x0 x1)) (by kernel_rfl) (by kernel_rfl) (by kernel_rfl) (by kernel_rfl) ?_ ?_ ?_ ?_ (by decide) ?_
  · intro i v w w' h hb
    match i, h with
    | 0, h => exact h
    | 1, h => exact rLexicon.own_now h hb
    | 2, h => exact h
    | 3, h => exact h
    | 4, ⟨u, hu, ho⟩ => exact ⟨u, hu, rLexicon.own_now ho hb⟩
    | 5, ⟨u, hu, ho⟩ => exact ⟨u, hu, rLexicon.own_now ho hb⟩
    | 6, h => exact rLexicon.own_now h hb
    | 7, h => exact h
    | 8, ⟨p, hp, hl, hc⟩ => exact ⟨p, hp, hl, (hb.block p (Array.getElem?_eq_some_iff.1 hc).1).trans hc⟩
    | 9, h => exact h
    | (m + 10), h => exact h
  · intro i v w w' h hb
    match i, h with
    | 0, h => exact h
    | 1, h => exact h
    | 2, h => exact h
    | 3, h => exact h
    | 4, ⟨u, hu, ho⟩ => exact ⟨u, hu, ho⟩
    | 5, ⟨u, hu, ho⟩ => exact ⟨u, hu, ho⟩
    | 6, h => exact h
    | 7, h => exact h
    | 8, ⟨p, sa, sc, hp, hl, hc0, hk, ho⟩ => exact ⟨p, sa, sc, hp, hl, cell_later hb hc0, hk.below hb, rLexicon.own_now ho hb⟩
    | 9, h => exact h
    | (m + 10), h => exact h
  · refine ⟨?_, ?_, ?_, ?_, ?_, ?_, ?_, ?_, ?_, ?_, ?_, trivial⟩
    · refine .inr ⟨fun _ => ?_, stage_no (by kernel_rfl)⟩
      intro ρ w' hbw ht hcs hfn hgl hdep
      refine ⟨fun _ => ?_, fun h => by cases h⟩
      have s2 : ρ (.tmp 2) = .pointer (some ⟨w.heap.size, 0, none⟩) := ht 2 rfl
      have c0 := cell_later hbw q1
      clear ht hdep
      go_simp
      exact ⟨Below.refl _ _, rfl⟩
    · refine .inr ⟨fun _ => ?_, stage_no (by kernel_rfl)⟩
      intro ρ w' hbw ht hcs hfn hgl hdep
      refine ⟨fun _ => ?_, fun h => by cases h⟩
      have s27 : ρ (.tmp 27) = .agg #[.slice sa0 x0.length sc0] := hdep ⟨0, .data⟩ (by simp) rfl 27 rfl
      clear ht hdep
      go_simp
      exact (toLexicon_any _ x0 w' (rLexicon.at_below a0 hbw) ok_x0).mono fun e w'' ⟨u, he, ho, hb⟩ => ⟨_, he, hb, rLexicon.own_mono ho hbw.size (Nat.le_refl _)⟩
    · refine .inr ⟨fun _ => ?_, stage_no (by kernel_rfl)⟩
      intro ρ w' hbw ht hcs hfn hgl hdep
      refine ⟨fun _ => ?_, fun h => by cases h⟩
      have s3 : ρ (.tmp 3) = .pointer (some ⟨w.heap.size + 1, 0, none⟩) := ht 3 rfl
      have c0 := cell_later hbw q2
      have c1 := cell_later hbw q3
      clear ht hdep
      go_simp
      exact ⟨Below.refl _ _, rfl⟩
    · refine .inr ⟨fun _ => ?_, stage_no (by kernel_rfl)⟩
      intro ρ w' hbw ht hcs hfn hgl hdep
      refine ⟨fun _ => ?_, fun h => by cases h⟩
      have s29 : ρ (.tmp 29) = .agg #[.string x1.word, .int .i64 x1.cost] := hdep ⟨2, .data⟩ (by simp) rfl 29 rfl
      clear ht hdep
      go_simp
      exact (toEntry_any x1 w').mono fun e w'' ⟨he, hb⟩ => ⟨_, he, hb, rfl⟩
    · refine .inr ⟨fun _ => ?_, stage_no (by kernel_rfl)⟩
      intro ρ w' hbw ht hcs hfn hgl hdep
      refine ⟨fun _ => ?_, fun h => by cases h⟩
      have o28 := hdep ⟨1, .data⟩ (by simp) rfl 28 rfl
      have s30 : ρ (.tmp 30) = .agg #[.string x1.word, .int .i64 x1.cost] := hdep ⟨3, .data⟩ (by simp) rfl 30 rfl
      clear ht hdep
      go_simp
      exact (specSetEntry_any _ x0 x1 w' (rLexicon.own_at o28) ok_x0 g0 g1).mono fun e w'' ⟨u, he, ho, hb⟩ => ⟨_, he, hb, u, rfl, rLexicon.own_mono ho hbw.size (Nat.le_refl _)⟩
    · refine .inr ⟨fun _ => ?_, stage_no (by kernel_rfl)⟩
      intro ρ w' hbw ht hcs hfn hgl hdep
      refine ⟨fun _ => ?_, fun h => by cases h⟩
      obtain ⟨u31, s31, o31⟩ := hdep ⟨4, .data⟩ (by simp) rfl 31 rfl
      clear ht hdep
      go_simp
      exact ⟨Below.refl _ _, _, rfl, o31⟩
    · refine .inr ⟨fun _ => ?_, stage_no (by kernel_rfl)⟩
      intro ρ w' hbw ht hcs hfn hgl hdep
      refine ⟨fun _ => ?_, fun h => by cases h⟩
      obtain ⟨u26, s26, o26⟩ := hdep ⟨5, .data⟩ (by simp) rfl 26 rfl
      clear ht hdep
      go_simp
      exact ⟨Below.refl _ _, o26⟩
    · refine .inr ⟨fun _ => ?_, fun _ => ?_⟩
      · intro ρ w' hbw ht hcs hfn hgl hdep
        refine ⟨fun _ => ?_, fun h => by cases h⟩
        obtain ⟨u26, s26, o26⟩ := hdep ⟨5, .data⟩ (by simp) rfl 26 rfl
        clear ht hdep
        go_simp
        exact ⟨Below.refl _ _, rfl⟩
      · intro ρ w' hbw ht hcs hfn hgl hdep
        refine ⟨fun _ => ?_, fun h => by cases h⟩
        obtain ⟨u26, s26, o26⟩ := hdep ⟨5, .data⟩ (by simp) rfl 26 rfl
        clear ht hdep
        go_simp
        exact ⟨Below.refl _ _, rfl⟩
    · refine .inr ⟨fun _ => ?_, stage_no (by kernel_rfl)⟩
      intro ρ w' hbw ht hcs hfn hgl hdep
      refine ⟨fun _ => ?_, fun h => by cases h⟩
      clear ht hdep
      go_simp
      exact ⟨below_alloc _ _, _, rfl, hbw.size, heap_alloc_new _ _⟩
    · exact .inl rfl
    · refine .inr ⟨stage_no (by kernel_rfl), fun _ => ?_⟩
      intro ρ w' hbw ht hcs hfn hgl hdep
      refine ⟨fun _ => ?_, fun h => by cases h⟩
      have s33 : ρ (.tmp 33) = .int .i64 (setCode x0 x1) := hdep ⟨7, .data⟩ (by simp) rfl 33 rfl
      clear ht hdep
      go_simp
      exact ⟨Below.refl _ _, rfl⟩
  · intro o ho
    obtain rfl := Option.some.inj ho
    refine ⟨rfl, fun ρ w' hbw ht hcs hdep => ?_⟩
    obtain ⟨pp, s6, hpl, hpc⟩ := hdep ⟨8, .data⟩ (by simp) rfl 6 rfl
    have ho := hdep ⟨6, .data⟩ (by simp) rfl 32 rfl
    clear hdep ht
    obtain ⟨sa, sc, hsh⟩ := shapeLexicon (rLexicon.own_at ho)
    have hcell0 : w'.cell? ⟨pp, 0, none⟩ = some (.slice none 0 0) := by rw [cell_of_row w' pp 0 _ _ _ hpc]; rfl
    have hfree : ∀ j, w'.frozen? ⟨pp, j, none⟩ = false := fun j => frozen_of_row w' pp j _ _ hpc
    refine ⟨(w'.setCell ⟨pp, 0, none⟩ (.slice sa (setLx x0 x1).length sc)), ?_, ?_, trivial, ?_⟩
    · clear ho
      go_simp
    · exact (hbw.setCell (by simpa using hpl) _)
    · intro j v hj hv hrho
      match j, hj, hv, hrho with
      | 0, _, h, _ => exact h
      | 1, _, _, _ => exact trivial
      | 2, _, h, _ => exact h
      | 3, _, h, _ => exact h
      | 4, _, ⟨u, hu, _⟩, _ => exact ⟨u, hu, trivial⟩
      | 5, _, ⟨u, hu, _⟩, _ => exact ⟨u, hu, trivial⟩
      | 6, _, _, _ => exact trivial
      | 7, _, h, _ => exact h
      | 8, _, _, hr =>
        rw [hsh] at ho
        exact ⟨pp, sa, sc, (hr 6 rfl).trans s6, hpl, by simp [go_sem, hcell0], (BoxT.set ⟨_, _, hpc⟩), rLexicon.own_mono (rLexicon.own_set ho hpc rfl) (Nat.le_refl _) (by simp)⟩
      | 9, _, _, _ => exact trivial
      | 10, _, h, _ => exact h
      | (m + 11), hj, _, _ => exact absurd hj (by simp)
  · intro x w3 hb hx
    have hx0 : x 0 = .agg #[.slice sa0 x0.length sc0] := hx 0 (by simp)
    have hx2 : x 2 = .agg #[.string x1.word, .int .i64 x1.cost] := hx 2 (by simp)
    have hx3 : x 3 = .agg #[.string x1.word, .int .i64 x1.cost] := hx 3 (by simp)
    have hx7 : x 7 = .int .i64 (setCode x0 x1) := hx 7 (by simp)
    have hx10 : x 10 = .int .i64 (setCode x0 x1) := hx 10 (by simp)
    obtain ⟨pp8, sb1, sd1, hx8, hppl, hpc0, hppk, hppo⟩ := hx 8 (by simp)
    clear hx
    have z3 : w2.heap.size + 0 ≤ w3.heap.size := by have := hb.size; (try simp at this); omega
    replace a0 := rLexicon.at_below a0 hb
    replace q1 := cell_later hb q1
    replace q2 := cell_later hb q2
    replace q3 := cell_later hb q3
    replace yq1 := cell_lt q1
    replace yq2 := cell_lt q2
    replace hbase := baseB0 hbase hb
    clear hb
    simp only [putAll, Act.put, List.setIfInBounds_toArray, List.set_cons_succ, List.set_cons_zero, Nat.zero_add, Nat.reduceAdd, hx0, hx2, hx3, hx7, hx10, hx8]
    generalize x 1 = k8_1 at *
    generalize x 4 = k8_4 at *
    generalize x 5 = k8_5 at *
    generalize x 6 = k8_6 at *
    clear hx0 hx2 hx3 hx7 hx10 hx8
    have o1 := hppo
    clear hppo
    have r8 := hppl
    clear hppl
    have rr8 : pp8 < w3.heap.size := cell_lt hpc0
    have kt8 := hppk
    clear hppk
    have q4 := hpc0
    clear hpc0
    have yq4 := cell_lt q4
    go_wp2_with fail
    refine (toLexicon_any _ x0 _ a0 ok_x0).mono ?_
    rintro e w4 ⟨u2, rfl, o2, hb⟩
    obtain ⟨sb2, sd2, rfl⟩ := shapeLexicon (rLexicon.own_at o2)
    have z4 : w3.heap.size + 0 ≤ w4.heap.size := by have := hb.size; (try simp at this); omega
    replace a0 := rLexicon.at_below a0 hb
    replace o1 := rLexicon.own_below o1 hb
    replace q1 := cell_later hb q1
    replace q2 := cell_later hb q2
    replace q3 := cell_later hb q3
    replace q4 := cell_later hb q4
    replace kt8 := kt8.below hb
    replace yq1 := cell_lt q1
    replace yq2 := cell_lt q2
    replace yq4 := cell_lt q4
    replace hbase := baseB0 hbase hb
    clear hb
    go_wp2_with fail
    obtain ⟨w5, hww5⟩ : ∃ u : World, u = (w4.alloc (.cells #[.slice sb2 x0.length sd2] 40)) := ⟨_, rfl⟩
    rw [← hww5]
    have hb : Below w4.heap.size w4 w5 := by rw [hww5]; exact belowA1 _ _
    have zzw5 : w4.heap.size + 1 ≤ w5.heap.size := by rw [hww5]; simp <;> omega
    have z5 : w4.heap.size + 0 ≤ w5.heap.size := by have := hb.size; (try simp at this); omega
    replace a0 := rLexicon.at_below a0 hb
    replace o1 := rLexicon.own_below o1 hb
    replace o2 := rLexicon.own_below o2 hb
    replace q1 := cell_later hb q1
    replace q2 := cell_later hb q2
    replace q3 := cell_later hb q3
    replace q4 := cell_later hb q4
    replace kt8 := kt8.below hb
    replace yq1 := cell_lt q1
    replace yq2 := cell_lt q2
    replace yq4 := cell_lt q4
    replace hbase := baseB0 hbase hb
    clear hb
    have q5 : w5.cell? ⟨w4.heap.size, 0, none⟩ = some (.slice sb2 x0.length sd2) := by rw [hww5]; simp
    have yq5 := cell_lt q5
    clear hww5
    refine wp_region_rel2 8 (fun i v w' => match i with
        | 0 => v = .agg #[.slice sb2 x0.length sd2]
        | 1 => v = .agg #[.string x1.word, .int .i64 x1.cost]
        | 2 => v = .agg #[.string x1.word, .int .i64 x1.cost]
        | 3 => ∃ u, v = .tuple #[u, .int .i64 (setCode x0 x1)] ∧ rLexicon.own w5.heap.size w'.heap.size w' u (setLx x0 x1)
        | 4 => ∃ u, v = .tuple #[u, .int .i64 (setCode x0 x1)] ∧ rLexicon.own w5.heap.size w'.heap.size w' u (setLx x0 x1)
        | 5 => rLexicon.own w5.heap.size w'.heap.size w' v (setLx x0 x1)
        | 6 => v = .int .i64 (setCode x0 x1)
        | 7 => ∃ p, v = .pointer (some ⟨p, 0, none⟩) ∧ w5.heap.size ≤ p ∧ w'.heap[p]? = some (.cells #[.slice none 0 0] 40 (0, 0))
        | 8 => True
        | _ => v = .int .i64 (setCode x0 x1))
      (fun i v w' => match i with
        | 0 => v = .agg #[.slice sb2 x0.length sd2]
        | 1 => v = .agg #[.string x1.word, .int .i64 x1.cost]
        | 2 => v = .agg #[.string x1.word, .int .i64 x1.cost]
        | 3 => ∃ u, v = .tuple #[u, .int .i64 (setCode x0 x1)] ∧ True
        | 4 => ∃ u, v = .tuple #[u, .int .i64 (setCode x0 x1)] ∧ True
        | 5 => True
        | 6 => v = .int .i64 (setCode x0 x1)
        | 7 => ∃ p sa sc, v = .pointer (some ⟨p, 0, none⟩) ∧ w5.heap.size ≤ p ∧ w'.cell? ⟨p, 0, none⟩ = some (.slice sa (setLx x0 x1).length sc) ∧ BoxT w' p 40 ∧ rLexicon.own w5.heap.size w'.heap.size w' (.agg #[.slice sa (setLx x0 x1).length sc]) (setLx x0 x1)
        | 8 => True
        | _ => v = .int .i64 (setCode x0 x1)) (by kernel_rfl) (by kernel_rfl) (by kernel_rfl) (by kernel_rfl) ?_ ?_ ?_ ?_ (by decide) ?_
    · intro i v w w' h hb
      match i, h with
      | 0, h => exact h
      | 1, h => exact h
      | 2, h => exact h
      | 3, ⟨u, hu, ho⟩ => exact ⟨u, hu, rLexicon.own_now ho hb⟩
      | 4, ⟨u, hu, ho⟩ => exact ⟨u, hu, rLexicon.own_now ho hb⟩
      | 5, h => exact rLexicon.own_now h hb
      | 6, h => exact h
      | 7, ⟨p, hp, hl, hc⟩ => exact ⟨p, hp, hl, (hb.block p (Array.getElem?_eq_some_iff.1 hc).1).trans hc⟩
      | 8, h => exact h
      | (m + 9), h => exact h
    · intro i v w w' h hb
      match i, h with
      | 0, h => exact h
      | 1, h => exact h
      | 2, h => exact h
      | 3, ⟨u, hu, ho⟩ => exact ⟨u, hu, ho⟩
      | 4, ⟨u, hu, ho⟩ => exact ⟨u, hu, ho⟩
      | 5, h => exact h
      | 6, h => exact h
      | 7, ⟨p, sa, sc, hp, hl, hc0, hk, ho⟩ => exact ⟨p, sa, sc, hp, hl, cell_later hb hc0, hk.below hb, rLexicon.own_now ho hb⟩
      | 8, h => exact h
      | (m + 9), h => exact h
    · refine ⟨?_, ?_, ?_, ?_, ?_, ?_, ?_, ?_, ?_, ?_, trivial⟩
      · refine .inr ⟨fun _ => ?_, stage_no (by kernel_rfl)⟩
        intro ρ w' hbw ht hcs hfn hgl hdep
        refine ⟨fun _ => ?_, fun h => by cases h⟩
        have s8 : ρ (.tmp 8) = .pointer (some ⟨w4.heap.size, 0, none⟩) := ht 8 rfl
        have c0 := cell_later hbw q5
        clear ht hdep
        go_simp
        exact ⟨Below.refl _ _, rfl⟩
      · refine .inr ⟨fun _ => ?_, stage_no (by kernel_rfl)⟩
        intro ρ w' hbw ht hcs hfn hgl hdep
        refine ⟨fun _ => ?_, fun h => by cases h⟩
        have s3 : ρ (.tmp 3) = .pointer (some ⟨w.heap.size + 1, 0, none⟩) := ht 3 rfl
        have c0 := cell_later hbw q2
        have c1 := cell_later hbw q3
        clear ht hdep
        go_simp
        exact ⟨Below.refl _ _, rfl⟩
      · refine .inr ⟨fun _ => ?_, stage_no (by kernel_rfl)⟩
        intro ρ w' hbw ht hcs hfn hgl hdep
        refine ⟨fun _ => ?_, fun h => by cases h⟩
        have s38 : ρ (.tmp 38) = .agg #[.string x1.word, .int .i64 x1.cost] := hdep ⟨1, .data⟩ (by simp) rfl 38 rfl
        clear ht hdep
        go_simp
        exact (toEntry_any x1 w').mono fun e w'' ⟨he, hb⟩ => ⟨_, he, hb, rfl⟩
      · refine .inr ⟨fun _ => ?_, stage_no (by kernel_rfl)⟩
        intro ρ w' hbw ht hcs hfn hgl hdep
        refine ⟨fun _ => ?_, fun h => by cases h⟩
        have s37 : ρ (.tmp 37) = .agg #[.slice sb2 x0.length sd2] := hdep ⟨0, .data⟩ (by simp) rfl 37 rfl
        have s39 : ρ (.tmp 39) = .agg #[.string x1.word, .int .i64 x1.cost] := hdep ⟨2, .data⟩ (by simp) rfl 39 rfl
        clear ht hdep
        go_simp
        exact (implSetEntry_any _ x0 x1 w' (rLexicon.own_at (rLexicon.own_below o2 hbw)) ok_x0 g0 g1).mono fun e w'' ⟨u, he, ho, hb⟩ => ⟨_, he, hb, u, rfl, rLexicon.own_mono ho hbw.size (Nat.le_refl _)⟩
      · refine .inr ⟨fun _ => ?_, stage_no (by kernel_rfl)⟩
        intro ρ w' hbw ht hcs hfn hgl hdep
        refine ⟨fun _ => ?_, fun h => by cases h⟩
        obtain ⟨u40, s40, o40⟩ := hdep ⟨3, .data⟩ (by simp) rfl 40 rfl
        clear ht hdep
        go_simp
        exact ⟨Below.refl _ _, _, rfl, o40⟩
      · refine .inr ⟨fun _ => ?_, stage_no (by kernel_rfl)⟩
        intro ρ w' hbw ht hcs hfn hgl hdep
        refine ⟨fun _ => ?_, fun h => by cases h⟩
        obtain ⟨u36, s36, o36⟩ := hdep ⟨4, .data⟩ (by simp) rfl 36 rfl
        clear ht hdep
        go_simp
        exact ⟨Below.refl _ _, o36⟩
      · refine .inr ⟨fun _ => ?_, fun _ => ?_⟩
        · intro ρ w' hbw ht hcs hfn hgl hdep
          refine ⟨fun _ => ?_, fun h => by cases h⟩
          obtain ⟨u36, s36, o36⟩ := hdep ⟨4, .data⟩ (by simp) rfl 36 rfl
          clear ht hdep
          go_simp
          exact ⟨Below.refl _ _, rfl⟩
        · intro ρ w' hbw ht hcs hfn hgl hdep
          refine ⟨fun _ => ?_, fun h => by cases h⟩
          obtain ⟨u36, s36, o36⟩ := hdep ⟨4, .data⟩ (by simp) rfl 36 rfl
          clear ht hdep
          go_simp
          exact ⟨Below.refl _ _, rfl⟩
      · refine .inr ⟨fun _ => ?_, stage_no (by kernel_rfl)⟩
        intro ρ w' hbw ht hcs hfn hgl hdep
        refine ⟨fun _ => ?_, fun h => by cases h⟩
        clear ht hdep
        go_simp
        exact ⟨below_alloc _ _, _, rfl, hbw.size, heap_alloc_new _ _⟩
      · exact .inl rfl
      · refine .inr ⟨stage_no (by kernel_rfl), fun _ => ?_⟩
        intro ρ w' hbw ht hcs hfn hgl hdep
        refine ⟨fun _ => ?_, fun h => by cases h⟩
        have s42 : ρ (.tmp 42) = .int .i64 (setCode x0 x1) := hdep ⟨6, .data⟩ (by simp) rfl 42 rfl
        clear ht hdep
        go_simp
        exact ⟨Below.refl _ _, rfl⟩
    · intro o ho
      obtain rfl := Option.some.inj ho
      refine ⟨rfl, fun ρ w' hbw ht hcs hdep => ?_⟩
      obtain ⟨pp, s9, hpl, hpc⟩ := hdep ⟨7, .data⟩ (by simp) rfl 9 rfl
      have ho := hdep ⟨5, .data⟩ (by simp) rfl 41 rfl
      clear hdep ht
      obtain ⟨sa, sc, hsh⟩ := shapeLexicon (rLexicon.own_at ho)
      have hcell0 : w'.cell? ⟨pp, 0, none⟩ = some (.slice none 0 0) := by rw [cell_of_row w' pp 0 _ _ _ hpc]; rfl
      have hfree : ∀ j, w'.frozen? ⟨pp, j, none⟩ = false := fun j => frozen_of_row w' pp j _ _ hpc
      refine ⟨(w'.setCell ⟨pp, 0, none⟩ (.slice sa (setLx x0 x1).length sc)), ?_, ?_, trivial, ?_⟩
      · clear ho
        go_simp
      · exact (hbw.setCell (by simpa using hpl) _)
      · intro j v hj hv hrho
        match j, hj, hv, hrho with
        | 0, _, h, _ => exact h
        | 1, _, h, _ => exact h
        | 2, _, h, _ => exact h
        | 3, _, ⟨u, hu, _⟩, _ => exact ⟨u, hu, trivial⟩
        | 4, _, ⟨u, hu, _⟩, _ => exact ⟨u, hu, trivial⟩
        | 5, _, _, _ => exact trivial
        | 6, _, h, _ => exact h
        | 7, _, _, hr =>
          rw [hsh] at ho
          exact ⟨pp, sa, sc, (hr 9 rfl).trans s9, hpl, by simp [go_sem, hcell0], (BoxT.set ⟨_, _, hpc⟩), rLexicon.own_mono (rLexicon.own_set ho hpc rfl) (Nat.le_refl _) (by simp)⟩
        | 8, _, _, _ => exact trivial
        | 9, _, h, _ => exact h
        | (m + 10), hj, _, _ => exact absurd hj (by simp)
    · intro x w6 hb hx
      have hx0 : x 0 = .agg #[.slice sb2 x0.length sd2] := hx 0 (by simp)
      have hx1 : x 1 = .agg #[.string x1.word, .int .i64 x1.cost] := hx 1 (by simp)
      have hx2 : x 2 = .agg #[.string x1.word, .int .i64 x1.cost] := hx 2 (by simp)
      have hx6 : x 6 = .int .i64 (setCode x0 x1) := hx 6 (by simp)
      have hx9 : x 9 = .int .i64 (setCode x0 x1) := hx 9 (by simp)
      obtain ⟨pp10, sb3, sd3, hx7, hppl, hpc0, hppk, hppo⟩ := hx 7 (by simp)
      clear hx
      have z6 : w5.heap.size + 0 ≤ w6.heap.size := by have := hb.size; (try simp at this); omega
      replace a0 := rLexicon.at_below a0 hb
      replace o1 := rLexicon.own_below o1 hb
      replace o2 := rLexicon.own_below o2 hb
      replace q1 := cell_later hb q1
      replace q2 := cell_later hb q2
      replace q3 := cell_later hb q3
      replace q4 := cell_later hb q4
      replace q5 := cell_later hb q5
      replace kt8 := kt8.below hb
      replace yq1 := cell_lt q1
      replace yq2 := cell_lt q2
      replace yq4 := cell_lt q4
      replace yq5 := cell_lt q5
      replace hbase := baseB0 hbase hb
      clear hb
      simp only [putAll, Act.put, List.setIfInBounds_toArray, List.set_cons_succ, List.set_cons_zero, Nat.zero_add, Nat.reduceAdd, hx0, hx1, hx2, hx6, hx9, hx7]
      generalize x 3 = k10_3 at *
      generalize x 4 = k10_4 at *
      generalize x 5 = k10_5 at *
      clear hx0 hx1 hx2 hx6 hx9 hx7
      have o3 := hppo
      clear hppo
      have r10 := hppl
      clear hppl
      have rr10 : pp10 < w6.heap.size := cell_lt hpc0
      have kt10 := hppk
      clear hppk
      have q6 := hpc0
      clear hpc0
      have yq6 := cell_lt q6
      go_wp2_with fail
      refine (eqLexicon_any _ _ (setLx x0 x1) _ (rLexicon.own_at o3) (rLexicon.own_at o1)).mono ?_
      rintro e w7 ⟨rfl, hb⟩
      have z7 : w6.heap.size + 0 ≤ w7.heap.size := by have := hb.size; (try simp at this); omega
      replace a0 := rLexicon.at_below a0 hb
      replace o1 := rLexicon.own_below o1 hb
      replace o2 := rLexicon.own_below o2 hb
      replace o3 := rLexicon.own_below o3 hb
      replace q1 := cell_later hb q1
      replace q2 := cell_later hb q2
      replace q3 := cell_later hb q3
      replace q4 := cell_later hb q4
      replace q5 := cell_later hb q5
      replace q6 := cell_later hb q6
      replace kt8 := kt8.below hb
      replace kt10 := kt10.below hb
      replace yq1 := cell_lt q1
      replace yq2 := cell_lt q2
      replace yq4 := cell_lt q4
      replace yq5 := cell_lt q5
      replace yq6 := cell_lt q6
      replace hbase := baseB0 hbase hb
      clear hb
      go_wp2_with fail
      refine wp_region_rel (fun i v w' => match i with
          | 0 => v = .agg #[.slice sb2 x0.length sd2]
          | 1 => v = .agg #[.slice sa0 x0.length sc0]
          | 2 => rLexicon.own w7.heap.size w'.heap.size w' v x0
          | 3 => v = .bool true
          | _ => v = .bool false) (by kernel_rfl) (by kernel_rfl) (by kernel_rfl) (by kernel_rfl) ?_ ?_ ?_
      · intro i v w w' h hb
        match i, h with
        | 0, h => exact h
        | 1, h => exact h
        | 2, h => exact rLexicon.own_now h hb
        | 3, h => exact h
        | (m + 4), h => exact h
      · refine ⟨?_, ?_, ?_, ?_, ?_, trivial⟩
        · intro ρ w' hbw ht hcs hfn hgl hdep
          refine ⟨fun _ => ?_, fun h => by cases h⟩
          have s8 : ρ (.tmp 8) = .pointer (some ⟨w4.heap.size, 0, none⟩) := ht 8 rfl
          have c0 := cell_later hbw q5
          clear ht hdep
          go_simp
          exact ⟨Below.refl _ _, rfl⟩
        · intro ρ w' hbw ht hcs hfn hgl hdep
          refine ⟨fun _ => ?_, fun h => by cases h⟩
          have s2 : ρ (.tmp 2) = .pointer (some ⟨w.heap.size, 0, none⟩) := ht 2 rfl
          have c0 := cell_later hbw q1
          clear ht hdep
          go_simp
          exact ⟨Below.refl _ _, rfl⟩
        · intro ρ w' hbw ht hcs hfn hgl hdep
          refine ⟨fun _ => ?_, fun h => by cases h⟩
          have s53 : ρ (.tmp 53) = .agg #[.slice sa0 x0.length sc0] := hdep ⟨1, .data⟩ (by simp) rfl 53 rfl
          clear ht hdep
          go_simp
          exact (toLexicon_any _ x0 w' (rLexicon.at_below a0 hbw) ok_x0).mono fun e w'' ⟨u, he, ho, hb⟩ => ⟨_, he, hb, rLexicon.own_mono ho hbw.size (Nat.le_refl _)⟩
        · intro ρ w' hbw ht hcs hfn hgl hdep
          refine ⟨fun _ => ?_, fun h => by cases h⟩
          have s52 : ρ (.tmp 52) = .agg #[.slice sb2 x0.length sd2] := hdep ⟨0, .data⟩ (by simp) rfl 52 rfl
          have o54 := hdep ⟨2, .data⟩ (by simp) rfl 54 rfl
          clear ht hdep
          go_simp
          exact (eqLexicon_any _ _ x0 w' (rLexicon.own_at (rLexicon.own_below o2 hbw)) (rLexicon.own_at o54)).mono fun e w'' ⟨he, hb⟩ => ⟨_, he, hb, rfl⟩
        · intro ρ w' hbw ht hcs hfn hgl hdep
          refine ⟨fun _ => ?_, fun h => by cases h⟩
          have s55 : ρ (.tmp 55) = .bool true := hdep ⟨3, .data⟩ (by simp) rfl 55 rfl
          clear ht hdep
          go_simp
          exact ⟨Below.refl _ _, rfl⟩
      · intro x w8 hb hx
        have hx0 : x 0 = .agg #[.slice sb2 x0.length sd2] := hx 0 (by simp)
        have hx1 : x 1 = .agg #[.slice sa0 x0.length sc0] := hx 1 (by simp)
        have hx2 := hx 2 (by simp)
        have hx3 : x 3 = .bool true := hx 3 (by simp)
        have hx4 : x 4 = .bool false := hx 4 (by simp)
        clear hx
        have z8 : w7.heap.size + 0 ≤ w8.heap.size := by have := hb.size; (try simp at this); omega
        replace a0 := rLexicon.at_below a0 hb
        replace o1 := rLexicon.own_below o1 hb
        replace o2 := rLexicon.own_below o2 hb
        replace o3 := rLexicon.own_below o3 hb
        replace q1 := cell_later hb q1
        replace q2 := cell_later hb q2
        replace q3 := cell_later hb q3
        replace q4 := cell_later hb q4
        replace q5 := cell_later hb q5
        replace q6 := cell_later hb q6
        replace kt8 := kt8.below hb
        replace kt10 := kt10.below hb
        replace yq1 := cell_lt q1
        replace yq2 := cell_lt q2
        replace yq4 := cell_lt q4
        replace yq5 := cell_lt q5
        replace yq6 := cell_lt q6
        replace hbase := baseB0 hbase hb
        clear hb
        simp only [putAll, Act.put, List.setIfInBounds_toArray, List.set_cons_succ, List.set_cons_zero, Nat.zero_add, Nat.reduceAdd, hx0, hx1, hx3, hx4]
        generalize x 2 = k13_2 at *
        clear hx0 hx1 hx3 hx4
        have o4 := hx2
        clear hx2
        obtain ⟨sb4, sd4, hsh4⟩ := shapeLexicon (rLexicon.own_at o4)
        subst hsh4
        go_wp2_with fail
        refine (markLexicon_any _ x0 _ _ (1) _ o2 ok_x0 (by omega) (by omega)).mono ?_
        rintro e w9 ⟨rfl, o2n, hc, hty⟩
        have z9 : w8.heap.size + 0 ≤ w9.heap.size := by have := hc.size; (try simp at this); omega
        replace a0 := rLexicon.at_chg a0 hc (by first | (left; omega) | (right; omega))
        replace o1 := rLexicon.own_chg o1 hc (by first | (left; omega) | (right; omega))
        replace o3 := rLexicon.own_chg o3 hc (by first | (left; omega) | (right; omega))
        replace o4 := rLexicon.own_chg o4 hc (by first | (left; omega) | (right; omega))
        replace q1 := chg_cell hc q1 (by first | (left; omega) | (right; omega))
        replace q2 := chg_cell hc q2 (by first | (left; omega) | (right; omega))
        replace q3 := chg_cell hc q3 (by first | (left; omega) | (right; omega))
        replace q4 := typed_cell hty kt8 rfl q4
        replace q5 := chg_cell hc q5 (by first | (left; omega) | (right; omega))
        replace q6 := typed_cell hty kt10 rfl q6
        replace kt8 := kt8.typed hty rfl
        replace kt10 := kt10.typed hty rfl
        replace yq1 := cell_lt q1
        replace yq2 := cell_lt q2
        replace yq4 := cell_lt q4
        replace yq5 := cell_lt q5
        replace yq6 := cell_lt q6
        replace hbase := below_chg hbase hc (by omega)
        clear hc
        clear hty
        clear o2
        have o2 := o2n
        clear o2n
        have cn9 : 0 ≤ cntLexicon x0 ∧ cntLexicon x0 ≤ 10000000 := cntLexicon_bd ok_x0
        go_wp2_with fail
        refine (eqLexicon_any _ _ (setLx x0 x1) _ (rLexicon.own_at o3) (rLexicon.own_at o1)).mono ?_
        rintro e w10 ⟨rfl, hb⟩
        have z10 : w9.heap.size + 0 ≤ w10.heap.size := by have := hb.size; (try simp at this); omega
        replace a0 := rLexicon.at_below a0 hb
        replace o1 := rLexicon.own_below o1 hb
        replace o2 := rLexicon.own_below o2 hb
        replace o3 := rLexicon.own_below o3 hb
        replace o4 := rLexicon.own_below o4 hb
        replace q1 := cell_later hb q1
        replace q2 := cell_later hb q2
        replace q3 := cell_later hb q3
        replace q4 := cell_later hb q4
        replace q5 := cell_later hb q5
        replace q6 := cell_later hb q6
        replace kt8 := kt8.below hb
        replace kt10 := kt10.below hb
        replace yq1 := cell_lt q1
        replace yq2 := cell_lt q2
        replace yq4 := cell_lt q4
        replace yq5 := cell_lt q5
        replace yq6 := cell_lt q6
        replace hbase := baseB0 hbase hb
        clear hb
        go_wp2_with fail
        refine (markLexicon_any _ (setLx x0 x1) _ _ (1) _ o3 (okSet ok_x0) (by omega) (by omega)).mono ?_
        rintro e w11 ⟨rfl, o3n, hc, hty⟩
        have z11 : w10.heap.size + 0 ≤ w11.heap.size := by have := hc.size; (try simp at this); omega
        replace a0 := rLexicon.at_chg a0 hc (by first | (left; omega) | (right; omega))
        replace o1 := rLexicon.own_chg o1 hc (by first | (left; omega) | (right; omega))
        replace o2 := rLexicon.own_chg o2 hc (by first | (left; omega) | (right; omega))
        replace o4 := rLexicon.own_chg o4 hc (by first | (left; omega) | (right; omega))
        replace q1 := chg_cell hc q1 (by first | (left; omega) | (right; omega))
        replace q2 := chg_cell hc q2 (by first | (left; omega) | (right; omega))
        replace q3 := chg_cell hc q3 (by first | (left; omega) | (right; omega))
        replace q4 := typed_cell hty kt8 rfl q4
        replace q5 := chg_cell hc q5 (by first | (left; omega) | (right; omega))
        replace q6 := typed_cell hty kt10 rfl q6
        replace kt8 := kt8.typed hty rfl
        replace kt10 := kt10.typed hty rfl
        replace yq1 := cell_lt q1
        replace yq2 := cell_lt q2
        replace yq4 := cell_lt q4
        replace yq5 := cell_lt q5
        replace yq6 := cell_lt q6
        replace hbase := below_chg hbase hc (by omega)
        clear hc
        clear hty
        clear o3
        have o3 := o3n
        clear o3n
        have cn11 : 0 ≤ cntLexicon (setLx x0 x1) ∧ cntLexicon (setLx x0 x1) ≤ 10000000 := cntLexicon_bd (okSet ok_x0)
        go_wp2_with fail
        refine (heldLexicon_any _ (setLx x0 x1) (1) _ (rLexicon.own_at o3) (okSet ok_x0) (by omega) (by omega)).mono ?_
        rintro e w12 ⟨rfl, hb⟩
        have z12 : w11.heap.size + 0 ≤ w12.heap.size := by have := hb.size; (try simp at this); omega
        replace a0 := rLexicon.at_below a0 hb
        replace o1 := rLexicon.own_below o1 hb
        replace o2 := rLexicon.own_below o2 hb
        replace o3 := rLexicon.own_below o3 hb
        replace o4 := rLexicon.own_below o4 hb
        replace q1 := cell_later hb q1
        replace q2 := cell_later hb q2
        replace q3 := cell_later hb q3
        replace q4 := cell_later hb q4
        replace q5 := cell_later hb q5
        replace q6 := cell_later hb q6
        replace kt8 := kt8.below hb
        replace kt10 := kt10.below hb
        replace yq1 := cell_lt q1
        replace yq2 := cell_lt q2
        replace yq4 := cell_lt q4
        replace yq5 := cell_lt q5
        replace yq6 := cell_lt q6
        replace hbase := baseB0 hbase hb
        clear hb
        go_wp2_with fail
        refine wp_region_rel2 9 (fun i v w' => match i with
            | 0 => v = .agg #[.slice sa0 x0.length sc0]
            | 1 => rLexicon.own w12.heap.size w'.heap.size w' v x0
            | 2 => v = .agg #[.string x1.word, .int .i64 x1.cost]
            | 3 => v = .agg #[.string x1.word, .int .i64 x1.cost]
            | 4 => ∃ u, v = .tuple #[u, .int .i64 (setCode x0 x1)] ∧ rLexicon.own w12.heap.size w'.heap.size w' u (setLx x0 x1)
            | 5 => ∃ u, v = .tuple #[u, .int .i64 (setCode x0 x1)] ∧ rLexicon.own w12.heap.size w'.heap.size w' u (setLx x0 x1)
            | 6 => rLexicon.own w12.heap.size w'.heap.size w' v (setLx x0 x1)
            | 7 => v = .int .i64 (setCode x0 x1)
            | 8 => ∃ p, v = .pointer (some ⟨p, 0, none⟩) ∧ w12.heap.size ≤ p ∧ w'.heap[p]? = some (.cells #[.slice none 0 0] 40 (0, 0))
            | 9 => True
            | _ => v = .int .i64 (setCode x0 x1))
          (fun i v w' => match i with
            | 0 => v = .agg #[.slice sa0 x0.length sc0]
            | 1 => True
            | 2 => v = .agg #[.string x1.word, .int .i64 x1.cost]
            | 3 => v = .agg #[.string x1.word, .int .i64 x1.cost]
            | 4 => ∃ u, v = .tuple #[u, .int .i64 (setCode x0 x1)] ∧ True
            | 5 => ∃ u, v = .tuple #[u, .int .i64 (setCode x0 x1)] ∧ True
            | 6 => True
            | 7 => v = .int .i64 (setCode x0 x1)
            | 8 => ∃ p sa sc, v = .pointer (some ⟨p, 0, none⟩) ∧ w12.heap.size ≤ p ∧ w'.cell? ⟨p, 0, none⟩ = some (.slice sa (setLx x0 x1).length sc) ∧ BoxT w' p 40 ∧ rLexicon.own w12.heap.size w'.heap.size w' (.agg #[.slice sa (setLx x0 x1).length sc]) (setLx x0 x1)
            | 9 => True
            | _ => v = .int .i64 (setCode x0 x1)) (by kernel_rfl) (by kernel_rfl) (by kernel_rfl) (by kernel_rfl) ?_ ?_ ?_ ?_ (by decide) ?_
        · intro i v w w' h hb
          match i, h with
          | 0, h => exact h
          | 1, h => exact rLexicon.own_now h hb
          | 2, h => exact h
          | 3, h => exact h
          | 4, ⟨u, hu, ho⟩ => exact ⟨u, hu, rLexicon.own_now ho hb⟩
          | 5, ⟨u, hu, ho⟩ => exact ⟨u, hu, rLexicon.own_now ho hb⟩
          | 6, h => exact rLexicon.own_now h hb
          | 7, h => exact h
          | 8, ⟨p, hp, hl, hc⟩ => exact ⟨p, hp, hl, (hb.block p (Array.getElem?_eq_some_iff.1 hc).1).trans hc⟩
          | 9, h => exact h
          | (m + 10), h => exact h
        · intro i v w w' h hb
          match i, h with
          | 0, h => exact h
          | 1, h => exact h
          | 2, h => exact h
          | 3, h => exact h
          | 4, ⟨u, hu, ho⟩ => exact ⟨u, hu, ho⟩
          | 5, ⟨u, hu, ho⟩ => exact ⟨u, hu, ho⟩
          | 6, h => exact h
          | 7, h => exact h
          | 8, ⟨p, sa, sc, hp, hl, hc0, hk, ho⟩ => exact ⟨p, sa, sc, hp, hl, cell_later hb hc0, hk.below hb, rLexicon.own_now ho hb⟩
          | 9, h => exact h
          | (m + 10), h => exact h
        · refine ⟨?_, ?_, ?_, ?_, ?_, ?_, ?_, ?_, ?_, ?_, ?_, trivial⟩
          · refine .inr ⟨fun _ => ?_, stage_no (by kernel_rfl)⟩
            intro ρ w' hbw ht hcs hfn hgl hdep
            refine ⟨fun _ => ?_, fun h => by cases h⟩
            have s2 : ρ (.tmp 2) = .pointer (some ⟨w.heap.size, 0, none⟩) := ht 2 rfl
            have c0 := cell_later hbw q1
            clear ht hdep
            go_simp
            exact ⟨Below.refl _ _, rfl⟩
          · refine .inr ⟨fun _ => ?_, stage_no (by kernel_rfl)⟩
            intro ρ w' hbw ht hcs hfn hgl hdep
            refine ⟨fun _ => ?_, fun h => by cases h⟩
            have s85 : ρ (.tmp 85) = .agg #[.slice sa0 x0.length sc0] := hdep ⟨0, .data⟩ (by simp) rfl 85 rfl
            clear ht hdep
            go_simp
            exact (toLexicon_any _ x0 w' (rLexicon.at_below a0 hbw) ok_x0).mono fun e w'' ⟨u, he, ho, hb⟩ => ⟨_, he, hb, rLexicon.own_mono ho hbw.size (Nat.le_refl _)⟩
          · refine .inr ⟨fun _ => ?_, stage_no (by kernel_rfl)⟩
            intro ρ w' hbw ht hcs hfn hgl hdep
            refine ⟨fun _ => ?_, fun h => by cases h⟩
            have s3 : ρ (.tmp 3) = .pointer (some ⟨w.heap.size + 1, 0, none⟩) := ht 3 rfl
            have c0 := cell_later hbw q2
            have c1 := cell_later hbw q3
            clear ht hdep
            go_simp
            exact ⟨Below.refl _ _, rfl⟩
          · refine .inr ⟨fun _ => ?_, stage_no (by kernel_rfl)⟩
            intro ρ w' hbw ht hcs hfn hgl hdep
            refine ⟨fun _ => ?_, fun h => by cases h⟩
            have s87 : ρ (.tmp 87) = .agg #[.string x1.word, .int .i64 x1.cost] := hdep ⟨2, .data⟩ (by simp) rfl 87 rfl
            clear ht hdep
            go_simp
            exact (toEntry_any x1 w').mono fun e w'' ⟨he, hb⟩ => ⟨_, he, hb, rfl⟩
          · refine .inr ⟨fun _ => ?_, stage_no (by kernel_rfl)⟩
            intro ρ w' hbw ht hcs hfn hgl hdep
            refine ⟨fun _ => ?_, fun h => by cases h⟩
            have o86 := hdep ⟨1, .data⟩ (by simp) rfl 86 rfl
            have s88 : ρ (.tmp 88) = .agg #[.string x1.word, .int .i64 x1.cost] := hdep ⟨3, .data⟩ (by simp) rfl 88 rfl
            clear ht hdep
            go_simp
            exact (implSetEntry_any _ x0 x1 w' (rLexicon.own_at o86) ok_x0 g0 g1).mono fun e w'' ⟨u, he, ho, hb⟩ => ⟨_, he, hb, u, rfl, rLexicon.own_mono ho hbw.size (Nat.le_refl _)⟩
          · refine .inr ⟨fun _ => ?_, stage_no (by kernel_rfl)⟩
            intro ρ w' hbw ht hcs hfn hgl hdep
            refine ⟨fun _ => ?_, fun h => by cases h⟩
            obtain ⟨u89, s89, o89⟩ := hdep ⟨4, .data⟩ (by simp) rfl 89 rfl
            clear ht hdep
            go_simp
            exact ⟨Below.refl _ _, _, rfl, o89⟩
          · refine .inr ⟨fun _ => ?_, stage_no (by kernel_rfl)⟩
            intro ρ w' hbw ht hcs hfn hgl hdep
            refine ⟨fun _ => ?_, fun h => by cases h⟩
            obtain ⟨u84, s84, o84⟩ := hdep ⟨5, .data⟩ (by simp) rfl 84 rfl
            clear ht hdep
            go_simp
            exact ⟨Below.refl _ _, o84⟩
          · refine .inr ⟨fun _ => ?_, fun _ => ?_⟩
            · intro ρ w' hbw ht hcs hfn hgl hdep
              refine ⟨fun _ => ?_, fun h => by cases h⟩
              obtain ⟨u84, s84, o84⟩ := hdep ⟨5, .data⟩ (by simp) rfl 84 rfl
              clear ht hdep
              go_simp
              exact ⟨Below.refl _ _, rfl⟩
            · intro ρ w' hbw ht hcs hfn hgl hdep
              refine ⟨fun _ => ?_, fun h => by cases h⟩
              obtain ⟨u84, s84, o84⟩ := hdep ⟨5, .data⟩ (by simp) rfl 84 rfl
              clear ht hdep
              go_simp
              exact ⟨Below.refl _ _, rfl⟩
          · refine .inr ⟨fun _ => ?_, stage_no (by kernel_rfl)⟩
            intro ρ w' hbw ht hcs hfn hgl hdep
            refine ⟨fun _ => ?_, fun h => by cases h⟩
            clear ht hdep
            go_simp
            exact ⟨below_alloc _ _, _, rfl, hbw.size, heap_alloc_new _ _⟩
          · exact .inl rfl
          · refine .inr ⟨stage_no (by kernel_rfl), fun _ => ?_⟩
            intro ρ w' hbw ht hcs hfn hgl hdep
            refine ⟨fun _ => ?_, fun h => by cases h⟩
            have s91 : ρ (.tmp 91) = .int .i64 (setCode x0 x1) := hdep ⟨7, .data⟩ (by simp) rfl 91 rfl
            clear ht hdep
            go_simp
            exact ⟨Below.refl _ _, rfl⟩
        · intro o ho
          obtain rfl := Option.some.inj ho
          refine ⟨rfl, fun ρ w' hbw ht hcs hdep => ?_⟩
          obtain ⟨pp, s14, hpl, hpc⟩ := hdep ⟨8, .data⟩ (by simp) rfl 14 rfl
          have ho := hdep ⟨6, .data⟩ (by simp) rfl 90 rfl
          clear hdep ht
          obtain ⟨sa, sc, hsh⟩ := shapeLexicon (rLexicon.own_at ho)
          have hcell0 : w'.cell? ⟨pp, 0, none⟩ = some (.slice none 0 0) := by rw [cell_of_row w' pp 0 _ _ _ hpc]; rfl
          have hfree : ∀ j, w'.frozen? ⟨pp, j, none⟩ = false := fun j => frozen_of_row w' pp j _ _ hpc
          refine ⟨(w'.setCell ⟨pp, 0, none⟩ (.slice sa (setLx x0 x1).length sc)), ?_, ?_, trivial, ?_⟩
          · clear ho
            go_simp
          · exact (hbw.setCell (by simpa using hpl) _)
          · intro j v hj hv hrho
            match j, hj, hv, hrho with
            | 0, _, h, _ => exact h
            | 1, _, _, _ => exact trivial
            | 2, _, h, _ => exact h
            | 3, _, h, _ => exact h
            | 4, _, ⟨u, hu, _⟩, _ => exact ⟨u, hu, trivial⟩
            | 5, _, ⟨u, hu, _⟩, _ => exact ⟨u, hu, trivial⟩
            | 6, _, _, _ => exact trivial
            | 7, _, h, _ => exact h
            | 8, _, _, hr =>
              rw [hsh] at ho
              exact ⟨pp, sa, sc, (hr 14 rfl).trans s14, hpl, by simp [go_sem, hcell0], (BoxT.set ⟨_, _, hpc⟩), rLexicon.own_mono (rLexicon.own_set ho hpc rfl) (Nat.le_refl _) (by simp)⟩
            | 9, _, _, _ => exact trivial
            | 10, _, h, _ => exact h
            | (m + 11), hj, _, _ => exact absurd hj (by simp)
        · intro x w13 hb hx
          have hx0 : x 0 = .agg #[.slice sa0 x0.length sc0] := hx 0 (by simp)
          have hx2 : x 2 = .agg #[.string x1.word, .int .i64 x1.cost] := hx 2 (by simp)
          have hx3 : x 3 = .agg #[.string x1.word, .int .i64 x1.cost] := hx 3 (by simp)
          have hx7 : x 7 = .int .i64 (setCode x0 x1) := hx 7 (by simp)
          have hx10 : x 10 = .int .i64 (setCode x0 x1) := hx 10 (by simp)
          obtain ⟨pp27, sb5, sd5, hx8, hppl, hpc0, hppk, hppo⟩ := hx 8 (by simp)
          clear hx
          have z13 : w12.heap.size + 0 ≤ w13.heap.size := by have := hb.size; (try simp at this); omega
          replace a0 := rLexicon.at_below a0 hb
          replace o1 := rLexicon.own_below o1 hb
          replace o2 := rLexicon.own_below o2 hb
          replace o3 := rLexicon.own_below o3 hb
          replace o4 := rLexicon.own_below o4 hb
          replace q1 := cell_later hb q1
          replace q2 := cell_later hb q2
          replace q3 := cell_later hb q3
          replace q4 := cell_later hb q4
          replace q5 := cell_later hb q5
          replace q6 := cell_later hb q6
          replace kt8 := kt8.below hb
          replace kt10 := kt10.below hb
          replace yq1 := cell_lt q1
          replace yq2 := cell_lt q2
          replace yq4 := cell_lt q4
          replace yq5 := cell_lt q5
          replace yq6 := cell_lt q6
          replace hbase := baseB0 hbase hb
          clear hb
          simp only [putAll, Act.put, List.setIfInBounds_toArray, List.set_cons_succ, List.set_cons_zero, Nat.zero_add, Nat.reduceAdd, hx0, hx2, hx3, hx7, hx10, hx8]
          generalize x 1 = k27_1 at *
          generalize x 4 = k27_4 at *
          generalize x 5 = k27_5 at *
          generalize x 6 = k27_6 at *
          clear hx0 hx2 hx3 hx7 hx10 hx8
          have o5 := hppo
          clear hppo
          have r27 := hppl
          clear hppl
          have rr27 : pp27 < w13.heap.size := cell_lt hpc0
          have kt27 := hppk
          clear hppk
          have q7 := hpc0
          clear hpc0
          have yq7 := cell_lt q7
          go_wp2_with fail
          refine (eqLexicon_any _ _ (setLx x0 x1) _ (rLexicon.own_at o5) (rLexicon.own_at o1)).mono ?_
          rintro e w14 ⟨rfl, hb⟩
          have z14 : w13.heap.size + 0 ≤ w14.heap.size := by have := hb.size; (try simp at this); omega
          replace a0 := rLexicon.at_below a0 hb
          replace o1 := rLexicon.own_below o1 hb
          replace o2 := rLexicon.own_below o2 hb
          replace o3 := rLexicon.own_below o3 hb
          replace o4 := rLexicon.own_below o4 hb
          replace o5 := rLexicon.own_below o5 hb
          replace q1 := cell_later hb q1
          replace q2 := cell_later hb q2
          replace q3 := cell_later hb q3
          replace q4 := cell_later hb q4
          replace q5 := cell_later hb q5
          replace q6 := cell_later hb q6
          replace q7 := cell_later hb q7
          replace kt8 := kt8.below hb
          replace kt10 := kt10.below hb
          replace kt27 := kt27.below hb
          replace yq1 := cell_lt q1
          replace yq2 := cell_lt q2
          replace yq4 := cell_lt q4
          replace yq5 := cell_lt q5
          replace yq6 := cell_lt q6
          replace yq7 := cell_lt q7
          replace hbase := baseB0 hbase hb
          clear hb
          go_wp2_with fail
          refine (heldLexicon_any _ (setLx x0 x1) (1) _ (rLexicon.own_at o3) (okSet ok_x0) (by omega) (by omega)).mono ?_
          rintro e w15 ⟨rfl, hb⟩
          have z15 : w14.heap.size + 0 ≤ w15.heap.size := by have := hb.size; (try simp at this); omega
          replace a0 := rLexicon.at_below a0 hb
          replace o1 := rLexicon.own_below o1 hb
          replace o2 := rLexicon.own_below o2 hb
          replace o3 := rLexicon.own_below o3 hb
          replace o4 := rLexicon.own_below o4 hb
          replace o5 := rLexicon.own_below o5 hb
          replace q1 := cell_later hb q1
          replace q2 := cell_later hb q2
          replace q3 := cell_later hb q3
          replace q4 := cell_later hb q4
          replace q5 := cell_later hb q5
          replace q6 := cell_later hb q6
          replace q7 := cell_later hb q7
          replace kt8 := kt8.below hb
          replace kt10 := kt10.below hb
          replace kt27 := kt27.below hb
          replace yq1 := cell_lt q1
          replace yq2 := cell_lt q2
          replace yq4 := cell_lt q4
          replace yq5 := cell_lt q5
          replace yq6 := cell_lt q6
          replace yq7 := cell_lt q7
          replace hbase := baseB0 hbase hb
          clear hb
          go_wp2_with fail
          go_ret
          exact ret_bool rfl hbase
end Go.Proofs.Ytnanegdcoegahaa
