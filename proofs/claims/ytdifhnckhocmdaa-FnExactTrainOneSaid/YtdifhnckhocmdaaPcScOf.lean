/- ScoresOf: both calls. -/
import Derived.Test.YtdifhnckhocmdaaPcScores
namespace Go.Proofs.Ytdifhnckhocmdaa
open Go.RowKit

def scOk (x : XPerceptron) (y : XFeatS) : Bool := pcOk x && featsOk y
def scX (x : XPerceptron) (y : XFeatS) : List Int := if scOk x y then scoresF x.2 (inpF y) else []
def scC (x : XPerceptron) (y : XFeatS) : Int := if scOk x y then 0 else 1
theorem pcOk_rows {x : XPerceptron} (h : pcOk x = true) : (∀ r ∈ x.2, rowOk r = true) ∧ x.2.length = x.1.length ∧ 1 ≤ x.1.length ∧ x.1.length ≤ 12 := by
  unfold pcOk labsOk at h
  simp only [Bool.and_eq_true, decide_eq_true_eq, inB_true] at h
  obtain ⟨⟨_, h1⟩, h2, h3⟩ := h
  rw [List.all_eq_true] at h3
  exact ⟨h3, h2, by omega, by omega⟩
theorem scX_len (x : XPerceptron) (y : XFeatS) : (scX x y).length ≤ 12 := by
  unfold scX scOk
  cases hp : pcOk x
  · simp
  · have := pcOk_rows hp
    split
    · rw [scoresF_len]; omega
    · simp
theorem okSc (x : XPerceptron) (y : XFeatS) : okInt64S (scX x y) := by have := scX_len x y; unfold okInt64S; omega
theorem rInt64S_own3 {w' : World} {lo g : Nat} {u : Value} {x : XInt64S} (h : rInt64S.own g w'.heap.size w' u x) (hB : lo ≤ g) : rInt64S.own lo w'.heap.size w' u x := rInt64S.own_mono h hB (Nat.le_refl _)

set_option maxRecDepth 100000 in
set_option maxHeartbeats 1000000 in
theorem specScoresOf_any (v1 : Value) (x : XPerceptron) (v2 : Value) (y : XFeatS) (w : World) {lo1 hi1 lo2 hi2 : Nat} (h1 : rPerceptron.at_ lo1 hi1 w v1 x) (h2 : rFeatS.at_ lo2 hi2 w v2 y) (ok1 : okPerceptron x) (ok2 : okFeatS y) (g1 : goodPerceptron x) (_ : goodFeatS y) :
    Calls Try.prog 23 #[v1, v2] w (RetNew rInt64S (scX x y) #[.int .i64 (scC x y)] w) := by
  obtain ⟨u1, u2, rfl, h3, h4⟩ := h1
  obtain ⟨x1, x2⟩ := x
  obtain ⟨hn1, hn2⟩ := ok1
  unfold goodPerceptron at g1
  simp only at h3 h4 hn1 hn2 g1
  replace h3 := rStringS_arr h3
  replace h4 := rowsI_at h4
  replace h2 := rFeatS_arr h2
  obtain ⟨W, hW⟩ : ∃ u, u = (w.alloc (.cells #[u1, u2] 28)) := ⟨_, rfl⟩
  have hbW : Below w.heap.size w W := by rw [hW]; exact belowA1 _ _
  have q1 : Box W (w.heap.size) #[u1, u2] 28 := by
    have hq := Box.new w #[u1, u2] 28
    rw [hW]
    exact hq
  obtain ⟨p1, hp1⟩ : ∃ p, p = w.heap.size := ⟨_, rfl⟩
  rw [← hp1] at q1
  have hge1 : w.heap.size ≤ p1 := by omega
  have hlW : w.heap.size ≤ W.heap.size := hbW.size
  have hlp1 : p1 < W.heap.size := q1.lt
  have HP1 := hid hp1
  have HW := hid hW
  clear hW hp1
  have h3W := h3.below hbW
  have h4W := h4.below hbW
  have h2W := h2.below hbW
  have m0 := q1.cell (j := 0) rfl
  have m1 := q1.cell (j := 1) rfl
  have CO := l12Ok_any p1 u1 u2 x1 x2 W m0 m1 h3W h4W hn1 hn2 g1
  cases hp : pcOk (x1, x2)
  · have HG : Hid (scX (x1, x2) y = [] ∧ scC (x1, x2) y = 1) := by show _ ∧ _; simp [scX, scC, scOk, hp]
    rw [hp] at CO
    go_enter Try.func23, Try.ntmps23
    go_wp2_with fail
    rw [← HP1.out, ← HW.out]
    refine CO.mono ?_
    rintro e w2 ⟨rfl, hb⟩
    go_wp2_with fail
    go_ret2
    rw [HG.out.1, HG.out.2]
    exact ⟨_, rfl, rInt64S_own (Own.nil _ _ w.heap.size) (Nat.le_refl _), hbW.trans (hb.mono hlW)⟩
  rw [hp] at CO
  have CF := fun w' (hb : Below W.heap.size W w') => l08Ok_any v2 y w' (h2W.below hb) ok2
  cases hf : featsOk y
  · have HG : Hid (scX (x1, x2) y = [] ∧ scC (x1, x2) y = 1) := by show _ ∧ _; simp [scX, scC, scOk, hf]
    rw [hf] at CF
    go_enter Try.func23, Try.ntmps23
    go_wp2_with fail
    rw [← HP1.out, ← HW.out]
    refine CO.mono ?_
    rintro e w2 ⟨rfl, hb⟩
    go_wp2_with fail
    refine (CF _ hb).mono ?_
    rintro e w3 ⟨rfl, hb3⟩
    replace hb := hb.trans (hb3.mono hb.size)
    go_wp2_with fail
    go_ret2
    rw [HG.out.1, HG.out.2]
    exact ⟨_, rfl, rInt64S_own (Own.nil _ _ w.heap.size) (Nat.le_refl _), hbW.trans (hb.mono hlW)⟩
  rw [hf] at CF
  have HG : Hid (scX (x1, x2) y = scoresF x2 (inpF y) ∧ scC (x1, x2) y = 0) := by show _ ∧ _; simp [scX, scC, scOk, hf, hp]
  have HP := hid (pcOk_rows hp)
  have HF := hid hf
  clear hp
  go_enter Try.func23, Try.ntmps23
  go_wp2_with fail
  rw [← HP1.out, ← HW.out]
  refine CO.mono ?_
  rintro e w2 ⟨rfl, hb⟩
  go_wp2_with fail
  refine (CF _ hb).mono ?_
  rintro e w3 ⟨rfl, hb3⟩
  replace hb := hb.trans (hb3.mono hb.size)
  go_wp2_with fail
  refine (l12Input_any _ y w3 (h2W.below hb) HF.out).mono ?_
  rintro e w4 ⟨u, rfl, ho, hb4⟩
  have hb5 := hb.trans (hb4.mono hb.size)
  have hAI := rInt64S_arr (rInt64S.own_at ho)
  obtain ⟨sa, sc, hu⟩ := hAI.isSlice
  subst hu
  have CS := l12Scores_any p1 u2 _ x2 (inpF y) w4 (cell_later hb5 m1) (h4W.below hb5) hAI (okInp_of HF.out) HP.out.1 (by have := HP.out.2; omega)
  go_wp2_with fail
  refine CS.mono ?_
  rintro e w5 ⟨u, rfl, ho5, hb6⟩
  obtain ⟨sa', sc', hu⟩ := (rInt64S_arr (rInt64S.own_at ho5)).isSlice
  subst hu
  go_wp2_with fail
  go_ret2
  rw [HG.out.1, HG.out.2]
  exact ⟨_, rfl, rInt64S_own3 ho5 (Nat.le_trans hbW.size hb5.size), hbW.trans ((hb5.trans (hb6.mono hb5.size)).mono hlW)⟩
set_option maxRecDepth 100000 in
set_option maxHeartbeats 1000000 in
theorem implScoresOf_any (v1 : Value) (x : XPerceptron) (v2 : Value) (y : XFeatS) (w : World) {lo1 hi1 lo2 hi2 : Nat} (h1 : rPerceptron.at_ lo1 hi1 w v1 x) (h2 : rFeatS.at_ lo2 hi2 w v2 y) (ok1 : okPerceptron x) (ok2 : okFeatS y) (g1 : goodPerceptron x) (_ : goodFeatS y) :
    Calls Try.prog 25 #[v1, v2] w (RetNew rInt64S (scX x y) #[.int .i64 (scC x y)] w) := by
  obtain ⟨u1, u2, rfl, h3, h4⟩ := h1
  obtain ⟨x1, x2⟩ := x
  obtain ⟨hn1, hn2⟩ := ok1
  unfold goodPerceptron at g1
  simp only at h3 h4 hn1 hn2 g1
  replace h3 := rStringS_arr h3
  replace h4 := rowsI_at h4
  replace h2 := rFeatS_arr h2
  obtain ⟨W, hW⟩ : ∃ u, u = (w.alloc (.cells #[u1, u2] 28)) := ⟨_, rfl⟩
  have hbW : Below w.heap.size w W := by rw [hW]; exact belowA1 _ _
  have q1 : Box W (w.heap.size) #[u1, u2] 28 := by
    have hq := Box.new w #[u1, u2] 28
    rw [hW]
    exact hq
  obtain ⟨p1, hp1⟩ : ∃ p, p = w.heap.size := ⟨_, rfl⟩
  rw [← hp1] at q1
  have hge1 : w.heap.size ≤ p1 := by omega
  have hlW : w.heap.size ≤ W.heap.size := hbW.size
  have hlp1 : p1 < W.heap.size := q1.lt
  have HP1 := hid hp1
  have HW := hid hW
  clear hW hp1
  have h3W := h3.below hbW
  have h4W := h4.below hbW
  have h2W := h2.below hbW
  have m0 := q1.cell (j := 0) rfl
  have m1 := q1.cell (j := 1) rfl
  have CO := implValidPerceptron_any (.agg #[u1, u2]) (x1, x2) W ⟨u1, u2, rfl, h3W.in_, h4W.at_⟩ ⟨hn1, hn2⟩ g1
  cases hp : pcOk (x1, x2)
  · have HG : Hid (scX (x1, x2) y = [] ∧ scC (x1, x2) y = 1) := by show _ ∧ _; simp [scX, scC, scOk, hp]
    rw [hp] at CO
    go_enter Try.func25, Try.ntmps25
    go_wp2_with fail
    rw [← HP1.out, ← HW.out]
    go_wp2_with fail
    refine CO.mono ?_
    rintro e w2 ⟨rfl, hb⟩
    go_wp2_with fail
    go_ret2
    rw [HG.out.1, HG.out.2]
    exact ⟨_, rfl, rInt64S_own (Own.nil _ _ w.heap.size) (Nat.le_refl _), hbW.trans (hb.mono hlW)⟩
  rw [hp] at CO
  have CF := fun w' (hb : Below W.heap.size W w') => validFeats_any v2 y w' (h2W.below hb) ok2
  cases hf : featsOk y
  · have HG : Hid (scX (x1, x2) y = [] ∧ scC (x1, x2) y = 1) := by show _ ∧ _; simp [scX, scC, scOk, hf]
    rw [hf] at CF
    go_enter Try.func25, Try.ntmps25
    go_wp2_with fail
    rw [← HP1.out, ← HW.out]
    go_wp2_with fail
    refine CO.mono ?_
    rintro e w2 ⟨rfl, hb⟩
    go_wp2_with fail
    refine (CF _ hb).mono ?_
    rintro e w3 ⟨rfl, hb3⟩
    replace hb := hb.trans (hb3.mono hb.size)
    go_wp2_with fail
    go_ret2
    rw [HG.out.1, HG.out.2]
    exact ⟨_, rfl, rInt64S_own (Own.nil _ _ w.heap.size) (Nat.le_refl _), hbW.trans (hb.mono hlW)⟩
  rw [hf] at CF
  have HG : Hid (scX (x1, x2) y = scoresF x2 (inpF y) ∧ scC (x1, x2) y = 0) := by show _ ∧ _; simp [scX, scC, scOk, hf, hp]
  have HP := hid (pcOk_rows hp)
  have HF := hid hf
  clear hp
  go_enter Try.func25, Try.ntmps25
  go_wp2_with fail
  rw [← HP1.out, ← HW.out]
  go_wp2_with fail
  refine CO.mono ?_
  rintro e w2 ⟨rfl, hb⟩
  go_wp2_with fail
  refine (CF _ hb).mono ?_
  rintro e w3 ⟨rfl, hb3⟩
  replace hb := hb.trans (hb3.mono hb.size)
  have n0 := cell_later hb m0
  have n1 := cell_later hb m1
  have CI := fun w' (hb' : Below w3.heap.size w3 w') => inputOf_any v2 y w' (h2W.below (hb.trans (hb'.mono hb.size))) HF.out
  have CS := fun u w' (hb' : Below w3.heap.size w3 w') (hA : Arr eI w' u (inpF y)) => scoresOf_any u1 u2 u x2 (inpF y) w' (h4W.below (hb.trans (hb'.mono hb.size))) hA (okInp_of HF.out) HP.out.1 (by have := HP.out.2; omega)
  go_wp2_with fail
  refine wp_region_rel (fun i v w' => match i with
      | 0 => v = .agg #[u1, u2]
      | 1 => v = v2
      | 2 => rInt64S.own w3.heap.size w'.heap.size w' v (inpF y)
      | 3 => rInt64S.own w3.heap.size w'.heap.size w' v (scoresF x2 (inpF y))
      | 4 => rInt64S.own w3.heap.size w'.heap.size w' v (scoresF x2 (inpF y))
      | _ => v = .int .i64 0) (by kernel_rfl) (by kernel_rfl) (by kernel_rfl) (by kernel_rfl) ?_ ?_ ?_
  · intro i v w w' h hb
    match i, h with
    | 0, h => exact h
    | 1, h => exact h
    | 2, h => exact rInt64S.own_now h hb
    | 3, h => exact rInt64S.own_now h hb
    | 4, h => exact rInt64S.own_now h hb
    | (m + 5), h => exact h
  · refine ⟨?_, ?_, ?_, ?_, ?_, ?_, trivial⟩
    · intro ρ w' hbw ht hcs hfn hgl hdep
      refine ⟨fun _ => ?_, fun h => by cases h⟩
      have s2 : ρ (.tmp 2) = .pointer (some ⟨p1, 0, none⟩) := ht 2 rfl
      have c0 := cell_later hbw n0
      have c1 := cell_later hbw n1
      clear ht hdep
      go_simp
      exact ⟨Below.refl _ _, rfl⟩
    · intro ρ w' hbw ht hcs hfn hgl hdep
      refine ⟨fun _ => ?_, fun h => by cases h⟩
      have s1 : ρ (.tmp 1) = v2 := ht 1 rfl
      clear ht hdep
      go_simp
      exact ⟨Below.refl _ _, rfl⟩
    · intro ρ w' hbw ht hcs hfn hgl hdep
      refine ⟨fun _ => ?_, fun h => by cases h⟩
      have s15 : ρ (.tmp 15) = v2 := hdep ⟨1, .data⟩ (by simp) rfl 15 rfl
      clear ht hdep
      go_simp
      exact (CI w' hbw).mono fun e w'' ⟨u, he, ho, hb⟩ => ⟨_, he, hb, rInt64S.own_mono ho hbw.size (Nat.le_refl _)⟩
    · intro ρ w' hbw ht hcs hfn hgl hdep
      refine ⟨fun _ => ?_, fun h => by cases h⟩
      have s14 : ρ (.tmp 14) = .agg #[u1, u2] := hdep ⟨0, .data⟩ (by simp) rfl 14 rfl
      have o16 := hdep ⟨2, .data⟩ (by simp) rfl 16 rfl
      clear ht hdep
      go_simp
      exact (CS _ w' hbw (rInt64S_arr (rInt64S.own_at o16))).mono fun e w'' ⟨u, he, ho, hb⟩ => ⟨_, he, hb, rInt64S.own_mono ho hbw.size (Nat.le_refl _)⟩
    · intro ρ w' hbw ht hcs hfn hgl hdep
      refine ⟨fun _ => ?_, fun h => by cases h⟩
      have o17 := hdep ⟨3, .data⟩ (by simp) rfl 17 rfl
      clear ht hdep
      go_simp
      exact ⟨Below.refl _ _, o17⟩
    · intro ρ w' hbw ht hcs hfn hgl hdep
      refine ⟨fun _ => ?_, fun h => by cases h⟩
      clear ht hdep
      go_simp
      exact ⟨Below.refl _ _, rfl⟩
  · intro z w4 hb4 hx
    have hx0 : z 0 = .agg #[u1, u2] := hx 0 (by simp)
    have hx1 : z 1 = v2 := hx 1 (by simp)
    have hx4 : rInt64S.own w3.heap.size w4.heap.size w4 (z 4) (scoresF x2 (inpF y)) := hx 4 (by simp)
    have hx5 : z 5 = .int .i64 0 := hx 5 (by simp)
    clear hx CI CS
    simp only [putAll, Act.put, List.setIfInBounds_toArray, List.set_cons_succ, List.set_cons_zero, Nat.zero_add, Nat.reduceAdd, hx0, hx1, hx5]
    generalize z 2 = k2 at *
    generalize z 3 = k3 at *
    generalize z 4 = k4 at *
    clear hx0 hx1 hx5
    obtain ⟨sa, sc, hu⟩ := (rInt64S_arr (rInt64S.own_at hx4)).isSlice
    subst hu
    have hb5 := hb.trans (hb4.mono hb.size)
    go_wp2_with fail
    go_ret2
    rw [HG.out.1, HG.out.2]
    exact ⟨_, rfl, rInt64S_own3 hx4 (Nat.le_trans hbW.size hb.size), hbW.trans (hb5.mono hlW)⟩
end Go.Proofs.Ytdifhnckhocmdaa
