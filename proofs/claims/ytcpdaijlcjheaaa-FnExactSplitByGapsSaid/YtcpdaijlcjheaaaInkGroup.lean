/- All groups of a number of strokes. -/
import Derived.Test.YtcpdaijlcjheaaaInkOk
import Derived.Test.YtcpdaijlcjheaaaWrGroupS
import Derived.Test.YtcpdaijlcjheaaaApp
namespace Go.Proofs.Ytcpdaijlcjheaaa
open Go.RowKit

theorem maxLen_1 : 1 ≤ maxLen := by unfold maxLen; omega
def grpN (n f : Nat) : Nat := min n (f + 3) - f
def grpRow (f m : Nat) : List DGroup := (List.range m).map fun (j : Nat) => ⟨f, f + 1 + j⟩
def grpTo (n f : Nat) : List DGroup := (List.range f).flatMap fun i => grpRow i (grpN n i)
theorem grpRow_succ (f m : Nat) : grpRow f (m + 1) = grpRow f m ++ [⟨f, f + 1 + m⟩] := by simp [grpRow, List.range_succ]
theorem grpTo_succ (n f : Nat) : grpTo n (f + 1) = grpTo n f ++ grpRow f (grpN n f) := by simp [grpTo, List.range_succ]
theorem grpRow_len (f m : Nat) : (grpRow f m).length = m := by simp [grpRow]
theorem grpTo_len (n f : Nat) : (grpTo n f).length ≤ 3 * f := by
  induction f with
  | zero => simp [grpTo]
  | succ f ih => rw [grpTo_succ, List.length_append, grpRow_len]; have : grpN n f ≤ 3 := by unfold grpN; omega
                 omega
theorem infGroup : (Try.prog.info? 78).map (fun i => (i.zero, i.size, i.bytes)) = some (some (.agg #[.int .i64 0, .int .i64 0]), 2, 16) := by kernel_rfl

set_option maxHeartbeats 4000000 in
set_option maxRecDepth 100000 in
theorem l14Groups_any (n : Nat) (w : World) (hn : n ≤ 1000) : Calls Try.prog 53 #[.int .i64 n] w (RetOwn eGroup 78 (grpTo n n) w) := by
  go_enter Try.func53, Try.ntmps53
  go_wp2
  go_loopw [3, 4] (fun u i wr => ∃ f : Nat, f ≤ n ∧ i = .int .i64 f ∧ Own eGroup 78 w.heap.size wr u (grpTo n f) ∧ Below w.heap.size w wr) (fun _ i _ => n - (intOf i).toNat)
  case atStart => exact ⟨0, Nat.zero_le _, rfl, Own.empty _ _ (Nat.le_refl _), below_alloc _ _⟩
  case round =>
    obtain ⟨f, hf, rfl, ho, hb⟩ := hrel
    by_cases hlt : f < n
    · have hli : (f : Int) < (n : Int) := by omega
      go_wp2
      go_loopw [3, 5] (fun u i wq => ∃ j : Nat, j ≤ grpN n f ∧ i = .int .i64 (f + 1 + j) ∧ Own eGroup 78 w.heap.size wq u (grpTo n f ++ grpRow f j) ∧ Below w.heap.size w wq) (fun _ i _ => n + 1 - (intOf i).toNat)
      case atStart => exact ⟨0, Nat.zero_le _, by simp, by simpa [grpRow] using ho, hb⟩
      case round =>
        clear ho hb
        obtain ⟨j, hj, rfl, ho, hb⟩ := hrel
        have hbs := hb.size
        have hl1 := grpTo_len n f
        have hl2 := grpRow_len f j
        have hgn : grpN n f = min n (f + 3) - f := rfl
        have hlk : (grpTo n f ++ grpRow f j).length ≤ 1048576 := by rw [List.length_append]; omega
        clear hl1 hl2
        by_cases hjl : j < grpN n f
        · have h1 : (f : Int) + 1 + j ≤ (n : Int) := by omega
          have h2 : (f : Int) + 1 + j ≤ (f : Int) + 3 := by omega
          have HT := hid (grpRow_succ f j)
          go_wp2_with (at_builtin; (refine wpList_appA rfl _ _ 52 rfl w.heap.size 78 _ 16 infGroup Try.underlying52 rfl _ _ rfl (ho.alloc _) _ [⟨(f : Int), (f : Int) + 1 + j⟩] rfl (by exact arr_block1 (E := eGroup) (n := 1) [⟨(f : Int), (f : Int) + 1 + j⟩] #[.int .i64 f, .int .i64 (f + 1 + j)] rfl rfl maxLen_1 (by simp)) (by unfold maxLen; simp at hlk ⊢; omega) (by simp at hlk ⊢; omega) (by simp; omega) ?_; intro v' wA hoA hbA htA))
          have hbA' : Below w.heap.size w wA := (hb.alloc hbs _).trans hbA
          go_roundw
          case rel => exact ⟨j + 1, by omega, by go_num, by rw [HT.out, ← List.append_assoc]; exact hoA, hbA'⟩
          case measure => simp [intOf]; omega
        · obtain rfl : j = grpN n f := by omega
          have HT := hid (grpTo_succ n f)
          rw [← HT.out] at ho
          by_cases h1 : (f : Int) + 1 + (grpN n f : Nat) ≤ (n : Int)
          · have h2 : (f : Int) + 3 < (f : Int) + 1 + (grpN n f : Nat) := by omega
            go_wp2
            go_roundw
            case rel => exact ⟨f + 1, by omega, by go_num, ho, hb⟩
            case measure => simp [intOf]; omega
          · have h2 : (n : Int) < (f : Int) + 1 + (grpN n f : Nat) := by omega
            go_wp2
            go_roundw
            case rel => exact ⟨f + 1, by omega, by go_num, ho, hb⟩
            case measure => simp [intOf]; omega
    · obtain rfl : f = n := by omega
      go_wp2
      go_ret
      exact ⟨_, rfl, ho, hb⟩
set_option maxHeartbeats 4000000 in
set_option maxRecDepth 100000 in
theorem groupsOf_any (n : Nat) (w : World) (hn : n ≤ 1000) : Calls Try.prog 54 #[.int .i64 n] w (RetOwn eGroup 78 (grpTo n n) w) := by
  go_enter Try.func54, Try.ntmps54
  go_wp2
  go_loopw [3, 4] (fun u i wr => ∃ f : Nat, f ≤ n ∧ i = .int .i64 f ∧ Own eGroup 78 w.heap.size wr u (grpTo n f) ∧ Below w.heap.size w wr) (fun _ i _ => n - (intOf i).toNat)
  case atStart => exact ⟨0, Nat.zero_le _, rfl, Own.nil _ _ _, Below.refl _ _⟩
  case round =>
    obtain ⟨f, hf, rfl, ho, hb⟩ := hrel
    by_cases hlt : f < n
    · have hli : (f : Int) < (n : Int) := by omega
      go_wp2
      go_loopw [3, 5] (fun u i wq => ∃ j : Nat, j ≤ grpN n f ∧ i = .int .i64 (f + 1 + j) ∧ Own eGroup 78 w.heap.size wq u (grpTo n f ++ grpRow f j) ∧ Below w.heap.size w wq) (fun _ i _ => n + 1 - (intOf i).toNat)
      case atStart => exact ⟨0, Nat.zero_le _, by simp, by simpa [grpRow] using ho, hb⟩
      case round =>
        clear ho hb
        obtain ⟨j, hj, rfl, ho, hb⟩ := hrel
        have hbs := hb.size
        have hl1 := grpTo_len n f
        have hl2 := grpRow_len f j
        have hgn : grpN n f = min n (f + 3) - f := rfl
        have hlk : (grpTo n f ++ grpRow f j).length ≤ 1048576 := by rw [List.length_append]; omega
        clear hl1 hl2
        have hmin : min ((f : Int) + 3) (n : Int) = ((f + grpN n f : Nat) : Int) := by omega
        by_cases hjl : j < grpN n f
        · have h1 : (f : Int) + 1 + j ≤ ((f + grpN n f : Nat) : Int) := by omega
          have HT := hid (grpRow_succ f j)
          go_wp2_with (at_builtin; (refine wpList_appA rfl _ _ 52 rfl w.heap.size 78 _ 16 infGroup Try.underlying52 rfl _ _ rfl (ho.alloc _) _ [⟨(f : Int), (f : Int) + 1 + j⟩] rfl (by exact arr_block1 (E := eGroup) (n := 1) [⟨(f : Int), (f : Int) + 1 + j⟩] #[.int .i64 f, .int .i64 (f + 1 + j)] rfl rfl maxLen_1 (by simp)) (by unfold maxLen; simp at hlk ⊢; omega) (by simp at hlk ⊢; omega) (by simp; omega) ?_; intro v' wA hoA hbA htA))
          have hbA' : Below w.heap.size w wA := (hb.alloc hbs _).trans hbA
          go_roundw
          case rel => exact ⟨j + 1, by omega, by go_num, by rw [HT.out, ← List.append_assoc]; exact hoA, hbA'⟩
          case measure => simp [intOf]; omega
        · obtain rfl : j = grpN n f := by omega
          have HT := hid (grpTo_succ n f)
          rw [← HT.out] at ho
          have h2 : ((f + grpN n f : Nat) : Int) < (f : Int) + 1 + (grpN n f : Nat) := by omega
          go_wp2
          go_roundw
          case rel => exact ⟨f + 1, by omega, by go_num, ho, hb⟩
          case measure => simp [intOf]; omega
    · obtain rfl : f = n := by omega
      go_wp2
      go_ret
      exact ⟨_, rfl, ho, hb⟩
def grpX (X : XInk) : List DGroup := if validInk X then grpTo X.length X.length else []
def grpC (X : XInk) : Int := if validInk X then 0 else 1
theorem okGrp (X : XInk) : okGroupS (grpX X) := by
  unfold grpX
  split
  · rename_i hv
    have := validInk_len hv
    have := grpTo_len X.length X.length
    show (grpTo X.length X.length).length ≤ 1048576
    omega
  · show (0 : Nat) ≤ 1048576; omega
set_option maxHeartbeats 1000000 in
theorem specGroupsOf_any (v : Value) (x : XInk) (w : World) {lo hi : Nat} (h : rInk.at_ lo hi w v x) (ok : okInk x) (_ : goodInk x) :
    Calls Try.prog 25 #[v] w (RetNew rGroupS (grpX x) #[.int .i64 (grpC x)] w) := by
  obtain ⟨u, rfl, h⟩ := h
  replace h := strokes_at h
  obtain ⟨sa, sc, rfl⟩ : ∃ sa sc, u = .slice sa x.length sc := by obtain ⟨_, _, ao, cap, _, rfl, _⟩ := h.slice; exact ⟨_, _, rfl⟩
  have q0 : (w.alloc (.cells #[.slice sa x.length sc] 41)).cell? ⟨w.heap.size, 0, none⟩ = some (.slice sa x.length sc) := by simp
  have hA := h.alloc (.cells #[.slice sa x.length sc] 41)
  cases hv : validInk x
  · have HG : Hid (grpX x = [] ∧ grpC x = 1) := by show _ ∧ _; simp [grpX, grpC, hv]
    go_enter Try.func25, Try.ntmps25
    go_wp2_with fail
    refine (l02Ok_any _ _ _ x _ q0 hA ok).mono ?_
    rintro e w2 ⟨rfl, hb⟩
    rw [hv]
    go_wp2
    go_ret2
    rw [HG.out.1, HG.out.2]
    exact ⟨_, rfl, rGroupS_own (Own.nil _ _ w.heap.size) (Nat.le_refl _), (below_alloc _ _).trans (hb.mono (by simp))⟩
  · have HG : Hid (grpX x = grpTo x.length x.length ∧ grpC x = 0) := by show _ ∧ _; simp [grpX, grpC, hv]
    have hl := validInk_len hv
    go_enter Try.func25, Try.ntmps25
    go_wp2_with fail
    refine (l02Ok_any _ _ _ x _ q0 hA ok).mono ?_
    rintro e w2 ⟨rfl, hb⟩
    rw [hv]
    clear hv
    have q1 := cell_later hb q0
    go_wp2_with (go_at_call 53; refine (l14Groups_any x.length _ (by omega)).mono ?_; rintro e w3 ⟨u3, rfl, ho3, hb3⟩)
    go_ret2
    rw [HG.out.1, HG.out.2]
    have hs := hb.size
    simp at hs
    exact ⟨_, rfl, rGroupS_own ho3 (by omega), ((below_alloc _ _).trans (hb.mono (by simp))).trans (hb3.mono (by omega))⟩
set_option maxHeartbeats 1000000 in
theorem implGroupsOf_any (v : Value) (x : XInk) (w : World) {lo hi : Nat} (h : rInk.at_ lo hi w v x) (ok : okInk x) (_ : goodInk x) :
    Calls Try.prog 26 #[v] w (RetNew rGroupS (grpX x) #[.int .i64 (grpC x)] w) := by
  obtain ⟨u, rfl, h⟩ := h
  replace h := strokes_at h
  obtain ⟨sa, sc, rfl⟩ : ∃ sa sc, u = .slice sa x.length sc := by obtain ⟨_, _, ao, cap, _, rfl, _⟩ := h.slice; exact ⟨_, _, rfl⟩
  have q0 : (w.alloc (.cells #[.slice sa x.length sc] 41)).cell? ⟨w.heap.size, 0, none⟩ = some (.slice sa x.length sc) := by simp
  have hA := h.alloc (.cells #[.slice sa x.length sc] 41)
  cases hv : validInk x
  · have HG : Hid (grpX x = [] ∧ grpC x = 1) := by show _ ∧ _; simp [grpX, grpC, hv]
    go_enter Try.func26, Try.ntmps26
    go_wp2_with fail
    refine (implValidInk_any _ x _ hA ok).mono ?_
    rintro e w2 ⟨rfl, hb⟩
    rw [hv]
    go_wp2
    go_ret2
    rw [HG.out.1, HG.out.2]
    exact ⟨_, rfl, rGroupS_own (Own.nil _ _ w.heap.size) (Nat.le_refl _), (below_alloc _ _).trans (hb.mono (by simp))⟩
  · have HG : Hid (grpX x = grpTo x.length x.length ∧ grpC x = 0) := by show _ ∧ _; simp [grpX, grpC, hv]
    have hl := validInk_len hv
    go_enter Try.func26, Try.ntmps26
    go_wp2_with fail
    refine (implValidInk_any _ x _ hA ok).mono ?_
    rintro e w2 ⟨rfl, hb⟩
    rw [hv]
    clear hv
    have q1 := cell_later hb q0
    go_wp2_with (go_at_call 54; refine (groupsOf_any x.length _ (by omega)).mono ?_; rintro e w3 ⟨u3, rfl, ho3, hb3⟩)
    go_ret2
    rw [HG.out.1, HG.out.2]
    have hs := hb.size
    simp at hs
    exact ⟨_, rfl, rGroupS_own ho3 (by omega), ((below_alloc _ _).trans (hb.mono (by simp))).trans (hb3.mono (by omega))⟩
end Go.Proofs.Ytcpdaijlcjheaaa
