import Derived.Test.YtmefjlcbkflbmaaLx3
namespace Go.Proofs.Ytmefjlcbkflbmaa
open Go.RowKit

set_option maxHeartbeats 1000000 in
theorem lawSameLexicon (v1 v2 : Value) (xs ys : List En) (w : World) (h1 : Arr enE w v1 xs) (h2 : Arr enE w v2 ys) (hs1 : ∀ x ∈ xs, x.word.size ≤ maxLen) (hs2 : ∀ x ∈ ys, x.word.size ≤ maxLen) :
    Calls Try.prog 4 #[.agg #[v1], .agg #[v2]] w (Ret (.bool true) w) := by
  have a1 := (h1.alloc (.cells #[v1] 30)).alloc (.cells #[v2] 30)
  have a2 := (h2.alloc (.cells #[v1] 30)).alloc (.cells #[v2] 30)
  go_enter Try.func4, Try.ntmps4
  go_wp2_with fail
  have hb0 : Below w.heap.size w ((w.alloc (.cells #[v1] 30)).alloc (.cells #[v2] 30)) := ((Below.refl _ _).alloc (Nat.le_refl _) _).alloc (by simp) _
  refine (szLexicon_any v1 xs _ _ a1 hs1 (by omega) (by omega)).mono ?_
  rintro e w1 ⟨rfl, hb⟩
  replace a1 := a1.below hb
  replace a2 := a2.below hb
  have q1 : w1.cell? ⟨w.heap.size, 0, none⟩ = some v1 := cell_later hb (by simp)
  have q2 : w1.cell? ⟨w.heap.size + 1, 0, none⟩ = some v2 := cell_later hb (by simp)
  replace hb := hb0.trans (hb.mono (by simp <;> omega))
  by_cases hA : (1048576 : Int) < (xs.length + sumOf szEn xs : Nat)
  · rw [szOf_neg hA]
    go_wp2_with fail
    go_ret
    exact ret_bool rfl hb
  rw [szOf_pos (by omega)]
  go_wp2_with fail
  refine (szLexicon_any v2 ys _ _ a2 hs2 (by omega) (by omega)).mono ?_
  rintro e w2 ⟨rfl, hb2⟩
  replace a1 := a1.below hb2
  replace a2 := a2.below hb2
  replace q1 := cell_later hb2 q1
  replace q2 := cell_later hb2 q2
  replace hb2 := hb.trans (hb2.mono hb.size)
  by_cases hB : (1048576 : Int) - (xs.length + sumOf szEn xs : Nat) < (ys.length + sumOf szEn ys : Nat)
  · rw [szOf_neg (by omega)]
    go_wp2_with fail
    go_ret
    exact ret_bool rfl hb2
  rw [szOf_pos (by omega)]
  have hn1 : xs.length ≤ 1048576 := by omega
  have hn2 : ys.length ≤ 1048576 := by omega
  clear hb0 hb h1 h2
  go_wp2_with fail
  refine wp_region_rel (fun i v w' => match i with
    | 0 => v = .agg #[v1]
    | 1 => ∃ u, v = .agg #[u] ∧ Own enE 50 w2.heap.size w' u xs
    | 2 => v = .agg #[v2]
    | 3 => ∃ u, v = .agg #[u] ∧ Own enE 50 w2.heap.size w' u ys
    | 4 => v = .bool (allEq eqEn xs ys)
    | _ => v = .bool (allEq eqEn xs ys)) (by kernel_rfl) (by kernel_rfl) (by kernel_rfl) (by kernel_rfl) ?_ ?_ ?_
  · intro i v w w' h hb
    match i, h with
    | 0, h => exact h
    | 1, ⟨u, hu, ho⟩ => exact ⟨u, hu, ho.below hb⟩
    | 2, h => exact h
    | 3, ⟨u, hu, ho⟩ => exact ⟨u, hu, ho.below hb⟩
    | 4, h => exact h
    | (n + 5), h => exact h
  · refine ⟨?_, ?_, ?_, ?_, ?_, ?_, trivial⟩
    · intro ρ w' hbw ht hcs hfn hgl hdep
      refine ⟨fun _ => ?_, fun h => by cases h⟩
      have s2 : ρ (.tmp 2) = .pointer (some ⟨w.heap.size, 0, none⟩) := ht 2 rfl
      have c := cell_later hbw q1
      clear ht hdep
      go_simp
      exact ⟨Below.refl _ _, rfl⟩
    · intro ρ w' hbw ht hcs hfn hgl hdep
      refine ⟨fun _ => ?_, fun h => by cases h⟩
      have s20 : ρ (.tmp 20) = .agg #[v1] := hdep ⟨0, .data⟩ (by simp) rfl 20 rfl
      clear ht hdep
      go_simp
      exact (toLexicon_any v1 xs w' (a1.below hbw) hn1).mono fun e w'' ⟨u, he, ho, hb⟩ => ⟨_, he, hb, u, rfl, ho.mono hbw.size⟩
    · intro ρ w' hbw ht hcs hfn hgl hdep
      refine ⟨fun _ => ?_, fun h => by cases h⟩
      have s3 : ρ (.tmp 3) = .pointer (some ⟨w.heap.size + 1, 0, none⟩) := ht 3 rfl
      have c := cell_later hbw q2
      clear ht hdep
      go_simp
      exact ⟨Below.refl _ _, rfl⟩
    · intro ρ w' hbw ht hcs hfn hgl hdep
      refine ⟨fun _ => ?_, fun h => by cases h⟩
      have s22 : ρ (.tmp 22) = .agg #[v2] := hdep ⟨2, .data⟩ (by simp) rfl 22 rfl
      clear ht hdep
      go_simp
      exact (toLexicon_any v2 ys w' (a2.below hbw) hn2).mono fun e w'' ⟨u, he, ho, hb⟩ => ⟨_, he, hb, u, rfl, ho.mono hbw.size⟩
    · intro ρ w' hbw ht hcs hfn hgl hdep
      refine ⟨fun _ => ?_, fun h => by cases h⟩
      obtain ⟨u1, s21, o1⟩ := hdep ⟨1, .data⟩ (by simp) rfl 21 rfl
      obtain ⟨u2, s23, o2⟩ := hdep ⟨3, .data⟩ (by simp) rfl 23 rfl
      clear ht hdep
      go_simp
      exact (specSameLexicon_any u1 u2 xs ys w' o1.arr o2.arr).mono fun e w'' ⟨he, hb⟩ => ⟨_, he, hb, rfl⟩
    · intro ρ w' hbw ht hcs hfn hgl hdep
      refine ⟨fun _ => ?_, fun h => by cases h⟩
      have s24 : ρ (.tmp 24) = .bool (allEq eqEn xs ys) := hdep ⟨4, .data⟩ (by simp) rfl 24 rfl
      clear ht hdep
      go_simp
      exact ⟨Below.refl _ _, rfl⟩
  · intro x w3 hb3 hx
    have h5 : x 5 = .bool (allEq eqEn xs ys) := hx 5 (by simp)
    clear hx
    replace a1 := a1.below hb3
    replace a2 := a2.below hb3
    replace q1 := cell_later hb3 q1
    replace q2 := cell_later hb3 q2
    replace hb3 := hb2.trans (hb3.mono hb2.size)
    clear hb2
    simp only [putAll, Act.put, List.setIfInBounds_toArray, List.set_cons_succ, List.set_cons_zero, Nat.zero_add, Nat.reduceAdd, h5]
    generalize x 0 = x0
    generalize x 1 = x1
    generalize x 2 = x2
    generalize x 3 = x3
    generalize x 4 = x4
    clear h5
    go_wp2_with fail
    refine (toLexicon_any v1 xs w3 a1 hn1).mono ?_
    rintro e w4 ⟨u3, rfl, o3, hb4⟩
    obtain ⟨s3, c3, hu⟩ := o3.isSlice
    subst hu
    replace a1 := a1.below hb4
    replace a2 := a2.below hb4
    replace q1 := cell_later hb4 q1
    replace q2 := cell_later hb4 q2
    have hz4 : w.heap.size + 1 < w4.heap.size := World.block_lt_of_cell? w4 _ q2
    replace hb4 := hb3.trans (hb4.mono hb3.size)
    clear hb3
    go_wp2_with fail
    refine (toLexicon_any v2 ys _ (a2.alloc _) hn2).mono ?_
    rintro e w5 ⟨u5, rfl, o5, hb5⟩
    obtain ⟨s5, c5, hu⟩ := o5.isSlice
    subst hu
    replace o3 := (o3.alloc _).below hb5
    replace a1 := (a1.alloc _).below hb5
    replace a2 := (a2.alloc _).below hb5
    replace q1 := cell_later hb5 (cell_alloc q1 _)
    replace q2 := cell_later hb5 (cell_alloc q2 _)
    have q3 : w5.cell? ⟨w4.heap.size, 0, none⟩ = some (.slice s3 xs.length c3) := cell_later hb5 (by simp)
    have hz5 : w4.heap.size < w5.heap.size := cell_lt q3
    replace hb5 := (hb4.alloc (by omega) _).trans (hb5.mono (by simp <;> omega))
    clear hb4
    go_wp2_with fail
    refine (implSameLexicon_any _ _ xs ys _ (o3.arr.alloc _) (o5.arr.alloc _)).mono ?_
    rintro e w6 ⟨rfl, hb6⟩
    replace o3 := (o3.alloc _).below hb6
    replace o5 := (o5.alloc _).below hb6
    replace a1 := (a1.alloc _).below hb6
    replace a2 := (a2.alloc _).below hb6
    replace q1 := cell_later hb6 (cell_alloc q1 _)
    replace q2 := cell_later hb6 (cell_alloc q2 _)
    replace q3 := cell_later hb6 (cell_alloc q3 _)
    have q5 : w6.cell? ⟨w5.heap.size, 0, none⟩ = some (.slice s5 ys.length c5) := cell_later hb6 (by simp)
    have hz6 : w5.heap.size < w6.heap.size := cell_lt q5
    replace hb6 := (hb5.alloc (by omega) _).trans (hb6.mono (by simp <;> omega))
    clear hb5
    go_wp2_with fail
    refine wp_region_rel (fun i v w' => match i with
      | 0 => v = .agg #[.slice s3 xs.length c3]
      | 1 => v = .agg #[v1]
      | 2 => ∃ u, v = .agg #[u] ∧ Own enE 50 w6.heap.size w' u xs
      | 3 => v = .bool true
      | _ => v = .bool false) (by kernel_rfl) (by kernel_rfl) (by kernel_rfl) (by kernel_rfl) ?_ ?_ ?_
    · intro i v w w' h hb
      match i, h with
      | 0, h => exact h
      | 1, h => exact h
      | 2, ⟨u, hu, ho⟩ => exact ⟨u, hu, ho.below hb⟩
      | 3, h => exact h
      | (n + 4), h => exact h
    · refine ⟨?_, ?_, ?_, ?_, ?_, trivial⟩
      · intro ρ w' hbw ht hcs hfn hgl hdep
        refine ⟨fun _ => ?_, fun h => by cases h⟩
        have s7 : ρ (.tmp 7) = .pointer (some ⟨w4.heap.size, 0, none⟩) := ht 7 rfl
        have c := cell_later hbw q3
        clear ht hdep
        go_simp
        exact ⟨Below.refl _ _, rfl⟩
      · intro ρ w' hbw ht hcs hfn hgl hdep
        refine ⟨fun _ => ?_, fun h => by cases h⟩
        have s2 : ρ (.tmp 2) = .pointer (some ⟨w.heap.size, 0, none⟩) := ht 2 rfl
        have c := cell_later hbw q1
        clear ht hdep
        go_simp
        exact ⟨Below.refl _ _, rfl⟩
      · intro ρ w' hbw ht hcs hfn hgl hdep
        refine ⟨fun _ => ?_, fun h => by cases h⟩
        have s36 : ρ (.tmp 36) = .agg #[v1] := hdep ⟨1, .data⟩ (by simp) rfl 36 rfl
        clear ht hdep
        go_simp
        exact (toLexicon_any v1 xs w' (a1.below hbw) hn1).mono fun e w'' ⟨u, he, ho, hb⟩ => ⟨_, he, hb, u, rfl, ho.mono hbw.size⟩
      · intro ρ w' hbw ht hcs hfn hgl hdep
        refine ⟨fun _ => ?_, fun h => by cases h⟩
        have s35 : ρ (.tmp 35) = .agg #[.slice s3 xs.length c3] := hdep ⟨0, .data⟩ (by simp) rfl 35 rfl
        obtain ⟨u2, s37, o2⟩ := hdep ⟨2, .data⟩ (by simp) rfl 37 rfl
        clear ht hdep
        go_simp
        exact (eqLexicon_any _ u2 xs w' (o3.arr.below hbw) o2.arr).mono fun e w'' ⟨he, hb⟩ => ⟨_, he, hb, rfl⟩
      · intro ρ w' hbw ht hcs hfn hgl hdep
        refine ⟨fun _ => ?_, fun h => by cases h⟩
        have s38 : ρ (.tmp 38) = .bool true := hdep ⟨3, .data⟩ (by simp) rfl 38 rfl
        clear ht hdep
        go_simp
        exact ⟨Below.refl _ _, rfl⟩
    · intro x w7 hb7 hx
      have h4 : x 4 = .bool false := hx 4 (by simp)
      clear hx
      replace a1 := a1.below hb7
      replace a2 := a2.below hb7
      replace o5 := o5.below hb7
      replace q1 := cell_later hb7 q1
      replace q2 := cell_later hb7 q2
      replace q3 := cell_later hb7 q3
      replace q5 := cell_later hb7 q5
      replace hb7 := hb6.trans (hb7.mono hb6.size)
      clear hb6
      simp only [putAll, Act.put, List.setIfInBounds_toArray, List.set_cons_succ, List.set_cons_zero, Nat.zero_add, Nat.reduceAdd, h4]
      go_wp2_with fail
      refine wp_region_rel (fun i v w' => match i with
        | 0 => v = .agg #[.slice s5 ys.length c5]
        | 1 => v = .agg #[v2]
        | 2 => ∃ u, v = .agg #[u] ∧ Own enE 50 w7.heap.size w' u ys
        | 3 => v = .bool true
        | _ => v = .bool false) (by kernel_rfl) (by kernel_rfl) (by kernel_rfl) (by kernel_rfl) ?_ ?_ ?_
      · intro i v w w' h hb
        match i, h with
        | 0, h => exact h
        | 1, h => exact h
        | 2, ⟨u, hu, ho⟩ => exact ⟨u, hu, ho.below hb⟩
        | 3, h => exact h
        | (n + 4), h => exact h
      · refine ⟨?_, ?_, ?_, ?_, ?_, trivial⟩
        · intro ρ w' hbw ht hcs hfn hgl hdep
          refine ⟨fun _ => ?_, fun h => by cases h⟩
          have s8 : ρ (.tmp 8) = .pointer (some ⟨w5.heap.size, 0, none⟩) := ht 8 rfl
          have c := cell_later hbw q5
          clear ht hdep
          go_simp
          exact ⟨Below.refl _ _, rfl⟩
        · intro ρ w' hbw ht hcs hfn hgl hdep
          refine ⟨fun _ => ?_, fun h => by cases h⟩
          have s3 : ρ (.tmp 3) = .pointer (some ⟨w.heap.size + 1, 0, none⟩) := ht 3 rfl
          have c := cell_later hbw q2
          clear ht hdep
          go_simp
          exact ⟨Below.refl _ _, rfl⟩
        · intro ρ w' hbw ht hcs hfn hgl hdep
          refine ⟨fun _ => ?_, fun h => by cases h⟩
          have s41 : ρ (.tmp 41) = .agg #[v2] := hdep ⟨1, .data⟩ (by simp) rfl 41 rfl
          clear ht hdep
          go_simp
          exact (toLexicon_any v2 ys w' (a2.below hbw) hn2).mono fun e w'' ⟨u, he, ho, hb⟩ => ⟨_, he, hb, u, rfl, ho.mono hbw.size⟩
        · intro ρ w' hbw ht hcs hfn hgl hdep
          refine ⟨fun _ => ?_, fun h => by cases h⟩
          have s40 : ρ (.tmp 40) = .agg #[.slice s5 ys.length c5] := hdep ⟨0, .data⟩ (by simp) rfl 40 rfl
          obtain ⟨u2, s37, o2⟩ := hdep ⟨2, .data⟩ (by simp) rfl 42 rfl
          clear ht hdep
          go_simp
          exact (eqLexicon_any _ u2 ys w' (o5.arr.below hbw) o2.arr).mono fun e w'' ⟨he, hb⟩ => ⟨_, he, hb, rfl⟩
        · intro ρ w' hbw ht hcs hfn hgl hdep
          refine ⟨fun _ => ?_, fun h => by cases h⟩
          have s43 : ρ (.tmp 43) = .bool true := hdep ⟨3, .data⟩ (by simp) rfl 43 rfl
          clear ht hdep
          go_simp
          exact ⟨Below.refl _ _, rfl⟩
      · intro x w8 hb8 hx
        have h4 : x 4 = .bool false := hx 4 (by simp)
        clear hx
        replace hb8 := hb7.trans (hb8.mono hb7.size)
        clear hb7
        simp only [putAll, Act.put, List.setIfInBounds_toArray, List.set_cons_succ, List.set_cons_zero, Nat.zero_add, Nat.reduceAdd, h4]
        go_wp2_with fail
        go_ret
        exact ret_bool rfl hb8
end Go.Proofs.Ytmefjlcbkflbmaa
