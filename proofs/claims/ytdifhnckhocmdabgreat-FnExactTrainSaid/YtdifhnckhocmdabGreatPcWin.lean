/- The index of the greatest score: both calls. -/
import Derived.Test.YtdifhnckhocmdabGreatPcPlain
import Derived.Test.YtdifhnckhocmdabGreatWrInt64S
namespace Go.Proofs.YtdifhnckhocmdabGreat
open Go.RowKit

def maxL (l : List Int) : Int := l.getD (bestI l) 0
theorem getD_some {l : List Int} {k : Nat} {c : Int} (h : l[k]? = some c) : l.getD k 0 = c := by rw [List.getD, h, Option.getD_some]
theorem bestI_lt {l : List Int} (h : 1 ≤ l.length) : bestI l < l.length := by have := bestK_le l (l.length - 1); unfold bestI; omega
theorem maxL_mem {l : List Int} (h : 1 ≤ l.length) : l[bestI l]? = some (maxL l) := by
  have hl := bestI_lt h
  rw [maxL, List.getD, List.getElem?_eq_getElem hl, Option.getD_some]
theorem maxL_ge {l : List Int} {k : Nat} {c : Int} (h : l[k]? = some c) : c ≤ maxL l := by
  have hl := (List.getElem?_eq_some_iff.1 h).1
  have := bestK_max l (l.length - 1) k (by omega)
  rw [getD_some h] at this
  exact this
theorem bestI_first {l : List Int} {k : Nat} {c : Int} (h : l[k]? = some c) (hk : k < bestI l) : c < maxL l := by
  have := bestK_first l (l.length - 1) k hk
  rw [getD_some h] at this
  exact this

set_option maxHeartbeats 1000000 in
theorem l12Best_any (v : Value) (l : List Int) (w : World) (h : Arr eI w v l) (h1 : 1 ≤ l.length) (h2 : l.length ≤ 1048576) :
    Calls Tryz.prog 67 #[v] w (Ret (.int .i64 (bestI l)) w) := by
  obtain ⟨b, off, ao, cap, rfl, hnc, hcm, hao, hc⟩ := h
  unfold maxLen at hcm
  obtain ⟨hao', hbw⟩ := hao (by omega)
  subst hao'
  go_enter Tryz.func67, Tryz.ntmps67
  go_wp2
  go_loopw [3, 4] (fun u i wr => ∃ k : Nat, k + 1 ≤ l.length ∧ i = .int .i64 ((k + 1 : Nat) : Int) ∧ u = .int .i64 (bestK l k) ∧ Below w.heap.size w wr) (fun _ i _ => l.length - (intOf i).toNat)
  case atStart => exact ⟨0, h1, rfl, rfl, Below.refl _ _⟩
  case round =>
    obtain ⟨k, hk, rfl, rfl, hb⟩ := hrel
    obtain ⟨B, hB⟩ : ∃ B, B = bestK l k := ⟨_, rfl⟩
    have hBl := bestK_le l k
    rw [← hB] at hBl ⊢
    by_cases hlt : k + 1 < l.length
    · obtain ⟨m, hm⟩ : ∃ m, m = k + 1 := ⟨_, rfl⟩
      rw [← hm] at hlt ⊢
      obtain ⟨c, hcc⟩ : ∃ c, l[m]? = some c := ⟨_, List.getElem?_eq_getElem hlt⟩
      obtain ⟨d, hd⟩ : ∃ d, l[B]? = some d := ⟨_, List.getElem?_eq_getElem (by omega)⟩
      have e1 := eI_cell (hc.below hb hbw) hcc
      have e2 := eI_cell (hc.below hb hbw) hd
      have hli : (m : Int) < (l.length : Int) := by omega
      have hlb : (B : Int) < (l.length : Int) := by omega
      have HS : Hid (bestK l (k + 1) = if d < c then m else B) := hid (by rw [bestK, ← hB, getD_some hd, ← hm, getD_some hcc])
      have HM := hid hm
      clear hcc hd hB hm
      by_cases hgt : d < c
      · have hdd : decide (d < c) = true := by simpa using hgt
        have HS2 := hid (HS.out.trans (if_pos hgt))
        go_wp2_with fail
        have x_e1 := ext_cell e1
        have x_e2 := ext_cell e2
        refine wp_region_ext (by kernel_rfl) (by kernel_rfl) ?_
        repeat (go_big_quiet_step (fail))
        refine wpQuiet_nil ?_
        intro _ hw'
        obtain ⟨nq, hw''⟩ := hw'
        subst hw''
        replace e1 := x_e1 nq
        replace e2 := x_e2 nq
        clear x_e1 x_e2
        replace hb := hb.trans ((ext_below _ nq).mono hb.size)
        go_wp2
        go_roundw
        case rel => exact ⟨k + 1, by have := HM.out; omega, by rw [← HM.out]; go_num, by rw [HS2.out], hb⟩
        case measure => simp [intOf]; omega
      · have hdd : decide (d < c) = false := by simpa using hgt
        have HS2 := hid (HS.out.trans (if_neg hgt))
        go_wp2_with fail
        have x_e1 := ext_cell e1
        have x_e2 := ext_cell e2
        refine wp_region_ext (by kernel_rfl) (by kernel_rfl) ?_
        repeat (go_big_quiet_step (fail))
        refine wpQuiet_nil ?_
        intro _ hw'
        obtain ⟨nq, hw''⟩ := hw'
        subst hw''
        replace e1 := x_e1 nq
        replace e2 := x_e2 nq
        clear x_e1 x_e2
        replace hb := hb.trans ((ext_below _ nq).mono hb.size)
        go_wp2
        go_roundw
        case rel => exact ⟨k + 1, by have := HM.out; omega, by rw [← HM.out]; go_num, by rw [HS2.out], hb⟩
        case measure => simp [intOf]; omega
    · obtain rfl : B = bestI l := by rw [hB, bestI]; congr 1; omega
      have hli : ¬ ((k : Int) + 1 < (l.length : Int)) := by omega
      clear hB
      go_wp2
      go_ret
      exact ret_int rfl hb
set_option maxHeartbeats 1000000 in
theorem maxI_any (v : Value) (l : List Int) (w : World) (h : Arr eI w v l) (h1 : 1 ≤ l.length) (h2 : l.length ≤ 1048576) :
    Calls Tryz.prog 93 #[v] w fun e w' => e = .returned (.int .i64 (maxL l)) ∧ w = w' := by
  obtain ⟨b, off, ao, cap, rfl, hnc, hcm, hao, hc⟩ := h
  unfold maxLen at hcm
  obtain ⟨hao', hbw⟩ := hao (by omega)
  subst hao'
  obtain ⟨c0, hc0⟩ : ∃ c, l[0]? = some c := ⟨_, List.getElem?_eq_getElem (by omega)⟩
  have e0 := eI_cell hc hc0
  rw [Nat.add_zero] at e0
  have hl0 : ¬ ((l.length : Int) < 1) := by omega
  have hl00 : (0 : Int) < (l.length : Int) := by omega
  have HC0 := hid hc0
  clear hc0
  go_enter Tryz.func93, Tryz.ntmps93
  go_wp2
  go_loop [3, 4] (fun u i => ∃ k : Nat, k + 1 ≤ l.length ∧ i = .int .i64 ((k + 1 : Nat) : Int) ∧ u = .int .i64 (l.getD (bestK l k) 0)) (fun _ i => l.length - (intOf i).toNat)
  case atStart => exact ⟨0, h1, rfl, by rw [bestK, getD_some HC0.out]⟩
  case round =>
    obtain ⟨k, hk, rfl, rfl⟩ := hrel
    obtain ⟨d, hd⟩ : ∃ d, d = l.getD (bestK l k) 0 := ⟨_, rfl⟩
    rw [← hd]
    by_cases hlt : k + 1 < l.length
    · obtain ⟨m, hm⟩ : ∃ m, m = k + 1 := ⟨_, rfl⟩
      rw [← hm] at hlt ⊢
      obtain ⟨c, hcc⟩ : ∃ c, l[m]? = some c := ⟨_, List.getElem?_eq_getElem hlt⟩
      have e1 := eI_cell hc hcc
      have hli : (m : Int) < (l.length : Int) := by omega
      have HS : Hid (l.getD (bestK l (k + 1)) 0 = if d < c then c else d) := hid (by
        rw [bestK, ← hd, ← hm, getD_some hcc]
        split
        · exact getD_some hcc
        · exact hd.symm)
      have HM := hid hm
      clear hcc hd hm
      by_cases hgt : d < c
      · have HS2 := hid (HS.out.trans (if_pos hgt))
        have hmx : max d c = c := by omega
        have hle : d ≤ c := by omega
        go_wp2
        go_round
        case rel => exact ⟨k + 1, by have := HM.out; omega, by rw [← HM.out]; go_num, by rw [HS2.out]⟩
        case measure => simp [intOf]; omega
      · have HS2 := hid (HS.out.trans (if_neg hgt))
        have hmx : max d c = d := by omega
        have hle : c ≤ d := by omega
        go_wp2
        go_round
        case rel => exact ⟨k + 1, by have := HM.out; omega, by rw [← HM.out]; go_num, by rw [HS2.out]⟩
        case measure => simp [intOf]; omega
    · obtain rfl : d = maxL l := by rw [hd, maxL, bestI]; congr 2; omega
      have hli : ¬ ((k : Int) + 1 < (l.length : Int)) := by omega
      clear hd
      go_wp2
      go_ret
      exact ⟨rfl, rfl⟩
set_option maxHeartbeats 1000000 in
theorem indexFirst_any (v : Value) (l : List Int) (w : World) (B : Nat) (c : Int) (h : Arr eI w v l) (hB : l[B]? = some c) (hF : ∀ (j : Nat) (d : Int), j < B → l[j]? = some d → ¬ c = d) (h2 : l.length ≤ 1048576) :
    Calls Tryz.prog 92 #[v, .int .i64 c] w fun e w' => e = .returned (.int .i64 B) ∧ w = w' := by
  obtain ⟨b, off, ao, cap, rfl, hnc, hcm, hao, hc⟩ := h
  unfold maxLen at hcm
  have hBl := (List.getElem?_eq_some_iff.1 hB).1
  obtain ⟨hao', hbw⟩ := hao (by omega)
  subst hao'
  have HF := hid hF
  have HB := hid hB
  clear hF hB hao
  go_enter Tryz.func92, Tryz.ntmps92
  go_wp2
  go_loop [8] (fun i => ∃ k : Nat, k ≤ B ∧ i = .int .i64 k) (fun i => l.length - (intOf i).toNat)
  case atStart => exact ⟨0, Nat.zero_le _, rfl⟩
  case round =>
    obtain ⟨k, hk, rfl⟩ := hrel
    obtain ⟨d, hd⟩ : ∃ d, l[k]? = some d := ⟨_, List.getElem?_eq_getElem (by omega)⟩
    have e1 := eI_cell hc hd
    have hli : (k : Int) < (l.length : Int) := by omega
    by_cases hlt : k < B
    · have hne := HF.out k d hlt hd
      have hne2 : (c == d) = false := by rw [beq_eq_false_iff_ne]; exact hne
      clear hd
      go_wp2
      go_round
      case rel => exact ⟨k + 1, by omega, by go_num⟩
      case measure => simp [intOf]; omega
    · obtain rfl : k = B := by omega
      rw [HB.out] at hd
      obtain rfl := Option.some.inj hd
      go_wp2
      go_ret
      exact ⟨rfl, rfl⟩
set_option maxHeartbeats 1000000 in
theorem winner_any (v : Value) (l : List Int) (w : World) (h : Arr eI w v l) (h1 : 1 ≤ l.length) (h2 : l.length ≤ 1048576) :
    Calls Tryz.prog 79 #[v] w fun e w' => e = .returned (.int .i64 (bestI l)) ∧ w = w' := by
  have CM := maxI_any v l w h h1 h2
  have CI := indexFirst_any v l w (bestI l) (maxL l) h (maxL_mem h1) (fun j d hj hd e => by have := bestI_first hd hj; omega) h2
  go_enter Tryz.func79, Tryz.ntmps79
  go_wp2_with (first | (go_at_call 93; refine CM.mono ?_; rintro e w' ⟨rfl, rfl⟩) | (go_at_call 92; refine CI.mono ?_; rintro e w' ⟨rfl, rfl⟩))
  go_ret
  exact ⟨rfl, rfl⟩
end Go.Proofs.YtdifhnckhocmdabGreat
