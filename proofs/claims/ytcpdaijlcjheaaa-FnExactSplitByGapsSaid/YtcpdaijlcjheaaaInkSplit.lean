/- SplitByGaps: the reference and the implementation. -/
import Derived.Test.YtcpdaijlcjheaaaInkGapAt
namespace Go.Proofs.Ytcpdaijlcjheaaa
open Go.RowKit

def cutsF (c : Nat → Bool) : Nat → List DGroup × Int
  | 0 => ([], 0)
  | k + 1 => if c (k + 1) then ((cutsF c k).1 ++ [⟨(cutsF c k).2, ((k + 1 : Nat) : Int)⟩], ((k + 1 : Nat) : Int)) else cutsF c k
def splitL (c : Nat → Bool) : Nat → List DGroup
  | 0 => []
  | k + 1 => (cutsF c k).1 ++ [⟨(cutsF c k).2, ((k + 1 : Nat) : Int)⟩]
theorem cutsF_len (c : Nat → Bool) : ∀ k, (cutsF c k).1.length ≤ k
  | 0 => by simp [cutsF]
  | k + 1 => by
    have := cutsF_len c k
    unfold cutsF
    split
    · simp; omega
    · omega
theorem splitL_len (c : Nat → Bool) (k : Nat) : (splitL c k).length ≤ k := by
  cases k with
  | zero => simp [splitL]
  | succ k => have := cutsF_len c k; simp [splitL]; omega
theorem cutsF_t {c : Nat → Bool} {k : Nat} (h : c (k + 1) = true) : cutsF c (k + 1) = ((cutsF c k).1 ++ [⟨(cutsF c k).2, ((k + 1 : Nat) : Int)⟩], ((k + 1 : Nat) : Int)) := by rw [cutsF, if_pos h]
theorem cutsF_f {c : Nat → Bool} {k : Nat} (h : c (k + 1) = false) : cutsF c (k + 1) = cutsF c k := by rw [cutsF, h, if_neg (by simp)]
def stS (c : Nat → Bool) (n j : Nat) : List DGroup × Int := if j < n then cutsF c j else (splitL c n, n)
theorem stS_lt {c : Nat → Bool} {n j : Nat} (h : j < n) : stS c n j = cutsF c j := if_pos h
theorem stS_end (c : Nat → Bool) (n : Nat) : stS c n n = (splitL c n, (n : Int)) := if_neg (by omega)
theorem stS_zero (c : Nat → Bool) (n : Nat) : stS c n 0 = ([], 0) := by
  unfold stS
  split
  · rfl
  · have : n = 0 := by omega
    subst this; rfl
theorem stS_last {c : Nat → Bool} {n j : Nat} (h : j + 1 = n) : stS c n (j + 1) = ((stS c n j).1 ++ [⟨(stS c n j).2, ((j + 1 : Nat) : Int)⟩], ((j + 1 : Nat) : Int)) := by
  subst h
  rw [stS_end, stS_lt (by omega)]; rfl
theorem stS_t {c : Nat → Bool} {n j : Nat} (h : j + 1 < n) (hc : c (j + 1) = true) : stS c n (j + 1) = ((stS c n j).1 ++ [⟨(stS c n j).2, ((j + 1 : Nat) : Int)⟩], ((j + 1 : Nat) : Int)) := by
  rw [stS_lt h, stS_lt (by omega), cutsF_t hc]
theorem stS_f {c : Nat → Bool} {n j : Nat} (h : j + 1 < n) (hc : c (j + 1) = false) : stS c n (j + 1) = stS c n j := by
  rw [stS_lt h, stS_lt (by omega), cutsF_f hc]
theorem stS_len (c : Nat → Bool) (n j : Nat) : (stS c n j).1.length ≤ n := by
  unfold stS
  split
  · have := cutsF_len c j; omega
  · exact splitL_len c n
theorem splitL_t {c : Nat → Bool} {p : Nat} (h : p = 0 ∨ c p = true) : splitL c (p + 1) = splitL c p ++ [⟨(p : Int), ((p + 1 : Nat) : Int)⟩] := by
  cases p with
  | zero => rfl
  | succ k =>
    have hc : c (k + 1) = true := by simpa using h
    show (cutsF c (k + 1)).1 ++ [⟨(cutsF c (k + 1)).2, _⟩] = _
    rw [cutsF_t hc]; rfl
theorem splitL_f {c : Nat → Bool} {k : Nat} (h : c (k + 1) = false) : splitL c (k + 2) = (cutsF c k).1 ++ [⟨(cutsF c k).2, ((k + 2 : Nat) : Int)⟩] := by
  show (cutsF c (k + 1)).1 ++ [⟨(cutsF c (k + 1)).2, _⟩] = _
  rw [cutsF_f h]
theorem set_last {α : Type} (A : List α) (x y : α) : (A ++ [x]).set A.length y = A ++ [y] := by simp
theorem get_last {α : Type} (A : List α) (x : α) : (A ++ [x])[A.length]? = some x := by simp
def cutI (X : XInk) (g : Int) (k : Nat) : Bool := decide (g ≤ gapI X (orderI X) k)
def splitX (X : XInk) (g : Int) : List DGroup := if validInk X then if inB g (-4095) 4095 then splitL (cutI X g) X.length else [] else []
def splitC (X : XInk) (g : Int) : Int := if validInk X then if inB g (-4095) 4095 then 0 else 2 else 1
theorem split_inv {X : XInk} {n : Int} (h : validInk X = false) : splitX X n = [] ∧ splitC X n = 1 := by simp [splitX, splitC, h]
theorem split_out {X : XInk} {n : Int} (h : validInk X = true) (hi : inB n (-4095) 4095 = false) : splitX X n = [] ∧ splitC X n = 2 := by simp [splitX, splitC, h, hi]
theorem split_in {X : XInk} {n : Int} (h : validInk X = true) (hi : inB n (-4095) 4095 = true) : splitX X n = splitL (cutI X n) X.length ∧ splitC X n = 0 := by simp [splitX, splitC, h, hi]
theorem okSplit (X : XInk) (g : Int) : okGroupS (splitX X g) := by
  unfold splitX
  split
  · rename_i hv
    split
    · have := validInk_len hv
      have := splitL_len (cutI X g) X.length
      show (splitL (cutI X g) X.length).length ≤ 1048576
      omega
    · show (0 : Nat) ≤ 1048576; omega
  · show (0 : Nat) ≤ 1048576; omega

set_option maxHeartbeats 4000000 in
set_option maxRecDepth 100000 in
theorem specSplitByGaps_any (v : Value) (x : XInk) (n : Int) (w : World) {lo hi : Nat} (h : rInk.at_ lo hi w v x) (ok : okInk x) (_ : goodInk x) :
    Calls Try.prog 32 #[v, .int .i64 n] w (RetNew rGroupS (splitX x n) #[.int .i64 (splitC x n)] w) := by
  obtain ⟨u, rfl, h⟩ := h
  replace h := strokes_at h
  obtain ⟨sa, sc, rfl⟩ := strokes_shape h
  have finish : ∀ (w' : World) (u : Value) (z : List DGroup) (c : Int), Hid (splitX x n = z ∧ splitC x n = c) → Own eGroup 78 w.heap.size w' u z → Below w.heap.size w w' → RetNew rGroupS (splitX x n) #[.int .i64 (splitC x n)] w (.returned (.tuple #[u, .int .i64 c])) w' := by
    intro w' u z c hz ho hb
    rw [hz.out.1, hz.out.2]
    exact ⟨_, rfl, rGroupS_own ho (Nat.le_refl _), hb⟩
  have q0 : (w.alloc (.cells #[.slice sa x.length sc] 41)).cell? ⟨w.heap.size, 0, none⟩ = some (.slice sa x.length sc) := by simp
  have hA := h.alloc (.cells #[.slice sa x.length sc] 41)
  have hbA : Below w.heap.size w (w.alloc (.cells #[.slice sa x.length sc] 41)) := below_alloc _ _
  cases hv : validInk x
  · have HG := hid (split_inv (n := n) hv)
    go_enter Try.func32, Try.ntmps32
    go_wp2_with fail
    refine (l02Ok_any _ _ _ x _ q0 hA ok).mono ?_
    rintro e w2 ⟨rfl, hb⟩
    rw [hv]
    go_wp2
    go_ret2
    exact finish _ _ _ _ HG (Own.nil _ _ _) (hbA.trans (hb.mono hbA.size))
  cases hi : inB n (-4095) 4095
  · have HG := hid (split_out hv hi)
    have HI : ∀ w', Calls Try.prog 56 #[.int .i64 n, .int .i64 (-4095), .int .i64 4095] w' fun e w'' => e = .returned (.bool false) ∧ w' = w'' := fun w' => hi ▸ l00In_any _ _ _ w'
    clear hi
    go_enter Try.func32, Try.ntmps32
    go_wp2_with fail
    refine (l02Ok_any _ _ _ x _ q0 hA ok).mono ?_
    rintro e w2 ⟨rfl, hb⟩
    rw [hv]
    go_wp2_with (go_at_call 56; refine (HI _).mono ?_; rintro e w' ⟨rfl, rfl⟩)
    go_ret2
    exact finish _ _ _ _ HG (Own.nil _ _ _) (hbA.trans (hb.mono hbA.size))
  have HG := hid (split_in hv hi)
  have HI : ∀ w', Calls Try.prog 56 #[.int .i64 n, .int .i64 (-4095), .int .i64 4095] w' fun e w'' => e = .returned (.bool true) ∧ w' = w'' := fun w' => hi ▸ l00In_any _ _ _ w'
  clear hi
  have hX := validInk_len hv
  go_enter Try.func32, Try.ntmps32
  go_wp2_with fail
  refine (l02Ok_any _ _ _ x _ q0 hA ok).mono ?_
  rintro e w2 ⟨rfl, hb⟩
  rw [hv]
  have q1 := cell_later hb q0
  replace hA := hA.below hb
  have hb0 := hbA.trans (hb.mono hbA.size)
  have HV := hid hv
  clear hv hb q0 hbA h
  go_wp2_with (go_at_call 56; refine (HI _).mono ?_; rintro e w' ⟨rfl, rfl⟩)
  refine (l14Order_any _ _ _ x _ q1 hA ok HV.out).mono ?_
  rintro e w3 ⟨u3, rfl, ho3, hb3⟩
  have q2 := cell_later hb3 q1
  replace hA := hA.below hb3
  replace hb0 := hb0.trans (hb3.mono hb0.size)
  have hL := ho3.arr
  have hLL := orderI_len x
  have hLf : fitsL x (orderI x) := orderI_in x
  have HC : Hid (∀ k, cutI x n k = decide (n ≤ gapI x (orderI x) k)) := fun _ => rfl
  obtain ⟨c, hc⟩ : ∃ c, c = cutI x n := ⟨_, rfl⟩
  rw [← hc] at HC HG
  obtain ⟨L, hLe⟩ : ∃ L, L = orderI x := ⟨_, rfl⟩
  rw [← hLe] at hL hLL hLf HC
  obtain ⟨oa, oc, hu3⟩ := hL.isSlice
  subst hu3
  rw [hLL] at hL ⊢
  have HLL := hid hLL
  clear hLL hc hLe ho3 q1 hb3 HI
  have hbs := hb0.size
  go_wp2
  go_loopw [7, 8, 9] (fun u f i wr => ∃ j : Nat, j ≤ x.length ∧ i = .int .i64 (j + 1) ∧ f = .int .i64 (stS c x.length j).2 ∧ Own eGroup 78 w3.heap.size wr u (stS c x.length j).1 ∧ Below w3.heap.size w3 wr) (fun _ _ i _ => x.length + 1 - (intOf i).toNat)
  case atStart => exact ⟨0, Nat.zero_le _, rfl, by rw [stS_zero], by rw [stS_zero]; exact Own.empty _ _ (Nat.le_refl _), below_alloc _ _⟩
  case round =>
    obtain ⟨j, hj, rfl, rfl, ho, hb⟩ := hrel
    have hln := stS_len c x.length j
    have hqs := hb.size
    by_cases hlt : j < x.length
    · have h1 : (j : Int) + 1 ≤ (x.length : Int) := by omega
      obtain ⟨F, hF⟩ : ∃ F, F = (stS c x.length j).2 := ⟨_, rfl⟩
      obtain ⟨A, hAe⟩ : ∃ A, A = (stS c x.length j).1 := ⟨_, rfl⟩
      by_cases hlast : j + 1 = x.length
      · have HS := hid (stS_last (c := c) hlast)
        rw [← hF, ← hAe] at HS
        rw [← hF]
        rw [← hAe] at ho hln
        have h2 : ((j : Int) + 1 == (x.length : Int)) = true := by rw [beq_iff_eq]; omega
        clear hF hAe hlast
        go_wp2_with (at_builtin; (refine wpList_appA rfl _ _ 52 rfl w3.heap.size 78 _ 16 infGroup Try.underlying52 rfl _ A rfl (ho.alloc _) _ [⟨F, (j : Int) + 1⟩] rfl (by exact arr_block1 (E := eGroup) (n := 1) [⟨F, (j : Int) + 1⟩] #[.int .i64 F, .int .i64 (j + 1)] rfl rfl maxLen_1 (by simp)) (by unfold maxLen; simp <;> omega) (by simp <;> omega) (by simp <;> omega) ?_; intro v' wA hoA hbA htA))
        have hbB := (hb.alloc hqs _).trans hbA
        go_roundw
        case rel => exact ⟨j + 1, by omega, by go_num, by rw [HS.out]; rfl, by rw [HS.out]; exact hoA, hbB⟩
        case measure => simp [intOf]; omega
      · have h2 : ((j : Int) + 1 == (x.length : Int)) = false := by rw [beq_eq_false_iff_ne]; omega
        have q3 := cell_later hb q2
        obtain ⟨k1, hk1⟩ : ∃ k1 : Nat, k1 = j + 1 := ⟨_, rfl⟩
        have hG := l14Gap_any _ _ _ _ x L k1 _ q3 (hA.below hb) (hL.below hb) hLf (by rw [HLL.out]; omega) ok HV.out
        have hjk : ((k1 : Nat) : Int) = (j : Int) + 1 := by omega
        rw [hjk] at hG
        obtain ⟨gv, hgv⟩ : ∃ gv, gv = gapI x L k1 := ⟨_, rfl⟩
        rw [← hgv] at hG
        by_cases hcut : n ≤ gv
        · have HS := hid (stS_t (c := c) (n := x.length) (j := j) (by omega) (by rw [← hk1, HC.out, ← hgv]; simpa using hcut))
          rw [← hF, ← hAe] at HS
          rw [← hF]
          rw [← hAe] at ho hln
          clear hF hAe hlast hgv hk1
          go_wp2_with fail
          refine hG.mono ?_
          rintro e w4 ⟨rfl, hb4⟩
          replace ho := ho.below hb4
          have hb5 := hb.trans (hb4.mono hb.size)
          have hqs5 := hb5.size
          clear q3 hG
          go_wp2_with (at_builtin; (refine wpList_appA rfl _ _ 52 rfl w3.heap.size 78 _ 16 infGroup Try.underlying52 rfl _ A rfl (ho.alloc _) _ [⟨F, (j : Int) + 1⟩] rfl (by exact arr_block1 (E := eGroup) (n := 1) [⟨F, (j : Int) + 1⟩] #[.int .i64 F, .int .i64 (j + 1)] rfl rfl maxLen_1 (by simp)) (by unfold maxLen; simp <;> omega) (by simp <;> omega) (by simp <;> omega) ?_; intro v' wA hoA hbA htA))
          have hbB := (hb5.alloc hqs5 _).trans hbA
          go_roundw
          case rel => exact ⟨j + 1, by omega, by go_num, by rw [HS.out]; rfl, by rw [HS.out]; exact hoA, hbB⟩
          case measure => simp [intOf]; omega
        · have HS := hid (stS_f (c := c) (n := x.length) (j := j) (by omega) (by rw [← hk1, HC.out, ← hgv]; simpa using hcut))
          clear hF hAe hlast hgv hk1
          go_wp2_with fail
          refine hG.mono ?_
          rintro e w4 ⟨rfl, hb4⟩
          replace ho := ho.below hb4
          have hb5 := hb.trans (hb4.mono hb.size)
          clear q3 hG
          go_wp2
          go_roundw
          case rel => exact ⟨j + 1, by omega, by go_num, by rw [HS.out], by rw [HS.out]; exact ho, hb5⟩
          case measure => simp [intOf]; omega
    · obtain rfl : j = x.length := by omega
      rw [stS_end] at ho ⊢
      go_wp2
      go_ret2
      exact finish _ _ _ _ HG (ho.mono hbs) (hb0.trans (hb.mono hbs))
set_option maxHeartbeats 4000000 in
set_option maxRecDepth 100000 in
theorem implSplitByGaps_any (v : Value) (x : XInk) (n : Int) (w : World) {lo hi : Nat} (h : rInk.at_ lo hi w v x) (ok : okInk x) (_ : goodInk x) :
    Calls Try.prog 33 #[v, .int .i64 n] w (RetNew rGroupS (splitX x n) #[.int .i64 (splitC x n)] w) := by
  obtain ⟨u, rfl, h⟩ := h
  replace h := strokes_at h
  obtain ⟨sa, sc, rfl⟩ := strokes_shape h
  have finish : ∀ (w' : World) (u : Value) (z : List DGroup) (c : Int), Hid (splitX x n = z ∧ splitC x n = c) → Own eGroup 78 w.heap.size w' u z → Below w.heap.size w w' → RetNew rGroupS (splitX x n) #[.int .i64 (splitC x n)] w (.returned (.tuple #[u, .int .i64 c])) w' := by
    intro w' u z c hz ho hb
    rw [hz.out.1, hz.out.2]
    exact ⟨_, rfl, rGroupS_own ho (Nat.le_refl _), hb⟩
  have q0 : (w.alloc (.cells #[.slice sa x.length sc] 41)).cell? ⟨w.heap.size, 0, none⟩ = some (.slice sa x.length sc) := by simp
  have hA := h.alloc (.cells #[.slice sa x.length sc] 41)
  have hbA : Below w.heap.size w (w.alloc (.cells #[.slice sa x.length sc] 41)) := below_alloc _ _
  cases hv : validInk x
  · have HG := hid (split_inv (n := n) hv)
    go_enter Try.func33, Try.ntmps33
    go_wp2_with fail
    refine (implValidInk_any _ x _ hA ok).mono ?_
    rintro e w2 ⟨rfl, hb⟩
    rw [hv]
    go_wp2
    go_ret2
    exact finish _ _ _ _ HG (Own.nil _ _ _) (hbA.trans (hb.mono hbA.size))
  cases hi : inB n (-4095) 4095
  · have HG := hid (split_out hv hi)
    have HI : ∀ w', Calls Try.prog 58 #[.int .i64 n, .int .i64 (-4095), .int .i64 4095] w' fun e w'' => e = .returned (.bool false) ∧ w' = w'' := fun w' => hi ▸ within_any _ _ _ w'
    clear hi
    go_enter Try.func33, Try.ntmps33
    go_wp2_with fail
    refine (implValidInk_any _ x _ hA ok).mono ?_
    rintro e w2 ⟨rfl, hb⟩
    rw [hv]
    go_wp2_with (go_at_call 58; refine (HI _).mono ?_; rintro e w' ⟨rfl, rfl⟩)
    go_ret2
    exact finish _ _ _ _ HG (Own.nil _ _ _) (hbA.trans (hb.mono hbA.size))
  have HG := hid (split_in hv hi)
  have HI : ∀ w', Calls Try.prog 58 #[.int .i64 n, .int .i64 (-4095), .int .i64 4095] w' fun e w'' => e = .returned (.bool true) ∧ w' = w'' := fun w' => hi ▸ within_any _ _ _ w'
  clear hi
  have hX := validInk_len hv
  go_enter Try.func33, Try.ntmps33
  go_wp2_with fail
  refine (implValidInk_any _ x _ hA ok).mono ?_
  rintro e w2 ⟨rfl, hb⟩
  rw [hv]
  have q1 := cell_later hb q0
  replace hA := hA.below hb
  have hb0 := hbA.trans (hb.mono hbA.size)
  have HV := hid hv
  clear hv hb q0 hbA h
  go_wp2_with (go_at_call 58; refine (HI _).mono ?_; rintro e w' ⟨rfl, rfl⟩)
  refine (orderOf_any _ x _ hA ok HV.out).mono ?_
  rintro e w3 ⟨u3, rfl, ho3, hb3⟩
  have q2 := cell_later hb3 q1
  replace hA := hA.below hb3
  replace hb0 := hb0.trans (hb3.mono hb0.size)
  have hL := ho3.arr
  have hLL := orderI_len x
  have hLf : fitsL x (orderI x) := orderI_in x
  have HC : Hid (∀ k, cutI x n k = decide (n ≤ gapI x (orderI x) k)) := fun _ => rfl
  obtain ⟨c, hc⟩ : ∃ c, c = cutI x n := ⟨_, rfl⟩
  rw [← hc] at HC HG
  obtain ⟨L, hLe⟩ : ∃ L, L = orderI x := ⟨_, rfl⟩
  rw [← hLe] at hL hLL hLf HC
  obtain ⟨oa, oc, hu3⟩ := hL.isSlice
  subst hu3
  rw [hLL] at hL ⊢
  have HLL := hid hLL
  clear hLL hc hLe ho3 q1 hb3 HI
  have hbs := hb0.size
  have last : ∀ (wq : World) (vq : Value) (A : List DGroup) (f : Int) (z : Int), Own eGroup 78 w3.heap.size wq vq (A ++ [⟨f, z⟩]) → ∃ g cap, vq = .slice (some ⟨g, 0, none⟩) (A.length + 1) cap ∧ (∃ u, wq.cell? ⟨g, A.length * 2 + 1, none⟩ = some u) ∧ (∀ o, wq.frozen? ⟨g, o, none⟩ = false) ∧
      ∀ y : Int, Own eGroup 78 w3.heap.size (wq.setCell ⟨g, A.length * 2 + 1, none⟩ (.int .i64 y)) (.slice (some ⟨g, 0, none⟩) (A.length + 1) cap) (A ++ [⟨f, y⟩]) ∧ (∀ {w0 : World}, Below w3.heap.size w0 wq → Below w3.heap.size w0 (wq.setCell ⟨g, A.length * 2 + 1, none⟩ (.int .i64 y))) := by
    intro wq vq A f z ho
    rcases ho.shape with ⟨_, h0⟩ | ⟨g, cap, rfl, hl, hs⟩
    · simp at h0
    · have hl2 : (A ++ [(⟨f, z⟩ : DGroup)]).length = A.length + 1 := by simp
      have ho' := ho
      rw [hl2] at ho ⊢
      refine ⟨g, cap, rfl, ho.slot hl2.symm A.length (by omega) 1 (by decide), ho.free hl2.symm, fun y => ⟨?_, fun hb => hb.setCell hl _⟩⟩
      have := (ho.set1 hl2.symm (get_last A ⟨f, z⟩) (j := 1) (x' := (⟨f, y⟩ : DGroup)) (u := .int .i64 y) (by decide) rfl).1
      rw [set_last] at this
      exact this
  go_wp2
  go_loopw [7, 19] (fun u i wr => ∃ p : Nat, p ≤ x.length ∧ i = .int .i64 p ∧ Own eGroup 78 w3.heap.size wr u (splitL c p) ∧ Below w3.heap.size w3 wr) (fun _ i _ => x.length - (intOf i).toNat)
  case atStart => exact ⟨0, Nat.zero_le _, rfl, Own.nil _ _ _, Below.refl _ _⟩
  case round =>
    obtain ⟨p, hp, rfl, ho, hb⟩ := hrel
    have hln := splitL_len c p
    have hqs := hb.size
    by_cases hlt : p < x.length
    · have h1 : (p : Int) < (x.length : Int) := by omega
      obtain ⟨S, hS⟩ : ∃ S, S = splitL c p := ⟨_, rfl⟩
      by_cases hz : p = 0
      · have HS := hid (splitL_t (c := c) (p := p) (.inl hz))
        have h2 : ((p : Int) == 0) = true := by rw [beq_iff_eq]; omega
        rw [← hS] at HS ho hln
        clear hS hz
        go_wp2_with (at_builtin; (refine wpList_appA rfl _ _ 52 rfl w3.heap.size 78 _ 16 infGroup Try.underlying52 rfl _ S rfl (ho.alloc _) _ [⟨(p : Int), 0⟩] rfl (by exact arr_block1 (E := eGroup) (n := 1) [⟨(p : Int), 0⟩] #[.int .i64 p, .int .i64 0] rfl rfl maxLen_1 (by simp)) (by unfold maxLen; simp <;> omega) (by simp <;> omega) (by simp <;> omega) ?_; intro v' wA hoA hbA htA; obtain ⟨g, gc, hv', hcell, hfree, hset⟩ := last _ _ _ _ _ hoA; subst hv'; obtain ⟨uu, hcell⟩ := hcell))
        have hbB := (hb.alloc hqs _).trans hbA
        have hfin := hset ((p : Int) + 1)
        go_roundw
        case rel => exact ⟨p + 1, by omega, by go_num, by rw [HS.out]; exact hfin.1, hfin.2 hbB⟩
        case measure => simp [intOf]; omega
      · have h2 : ((p : Int) == 0) = false := by rw [beq_eq_false_iff_ne]; omega
        have q3 := cell_later hb q2
        have hG := gapAt_any _ _ x L p _ (hA.below hb) (hL.below hb) hLf (by rw [HLL.out]; omega) ok HV.out
        obtain ⟨gv, hgv⟩ : ∃ gv, gv = gapI x L p := ⟨_, rfl⟩
        rw [← hgv] at hG
        by_cases hcut : n ≤ gv
        · have HS := hid (splitL_t (c := c) (p := p) (.inr (by rw [HC.out, ← hgv]; simpa using hcut)))
          rw [← hS] at HS ho hln
          clear hS hz hgv
          go_wp2_with fail
          refine hG.mono ?_
          rintro e w4 ⟨rfl, hb4⟩
          replace ho := ho.below hb4
          have hb5 := hb.trans (hb4.mono hb.size)
          have hqs5 := hb5.size
          clear q3 hG
          go_wp2_with (at_builtin; (refine wpList_appA rfl _ _ 52 rfl w3.heap.size 78 _ 16 infGroup Try.underlying52 rfl _ S rfl (ho.alloc _) _ [⟨(p : Int), 0⟩] rfl (by exact arr_block1 (E := eGroup) (n := 1) [⟨(p : Int), 0⟩] #[.int .i64 p, .int .i64 0] rfl rfl maxLen_1 (by simp)) (by unfold maxLen; simp <;> omega) (by simp <;> omega) (by simp <;> omega) ?_; intro v' wA hoA hbA htA; obtain ⟨g, gc, hv', hcell, hfree, hset⟩ := last _ _ _ _ _ hoA; subst hv'; obtain ⟨uu, hcell⟩ := hcell))
          have hbB := (hb5.alloc hqs5 _).trans hbA
          have hfin := hset ((p : Int) + 1)
          go_roundw
          case rel => exact ⟨p + 1, by omega, by go_num, by rw [HS.out]; exact hfin.1, hfin.2 hbB⟩
          case measure => simp [intOf]; omega
        · obtain ⟨q, rfl⟩ : ∃ q, p = q + 1 := ⟨p - 1, by omega⟩
          have h2' : ((q : Int) + 1 == 0) = false := by rw [beq_eq_false_iff_ne]; omega
          have h1' : (q : Int) + 1 < (x.length : Int) := by omega
          have h3' : ¬ ((q : Int) + 1 = 0) := by omega
          have HS := hid (splitL_f (c := c) (k := q) (by rw [HC.out, ← hgv]; simpa using hcut))
          have ho' : Own eGroup 78 w3.heap.size wr _ ((cutsF c q).1 ++ [⟨(cutsF c q).2, ((q + 1 : Nat) : Int)⟩]) := ho
          have hlA := cutsF_len c q
          obtain ⟨A, hAe⟩ : ∃ A, A = (cutsF c q).1 := ⟨_, rfl⟩
          obtain ⟨F, hF⟩ : ∃ F, F = (cutsF c q).2 := ⟨_, rfl⟩
          rw [← hF, ← hAe] at HS ho'
          rw [← hAe] at hlA
          obtain ⟨g, gc, hv', _, _, _⟩ := last _ _ _ _ _ ho'
          subst hv'
          clear hS hz hgv hAe hF ho
          go_wp2_with fail
          refine hG.mono ?_
          rintro e w4 ⟨rfl, hb4⟩
          replace ho' := ho'.below hb4
          have hb5 := hb.trans (hb4.mono hb.size)
          clear q3 hG
          obtain ⟨g2, gc2, hv2, hcell, hfree, hset⟩ := last _ _ _ _ _ ho'
          simp only [Value.slice.injEq, Option.some.injEq, Addr.mk.injEq] at hv2
          obtain ⟨⟨rfl, -, -⟩, -, rfl⟩ := hv2
          obtain ⟨uu, hcell⟩ := hcell
          go_wp2
          have hfin := hset ((q : Int) + 1 + 1)
          go_roundw
          case rel => exact ⟨q + 2, by omega, by go_num, by rw [HS.out]; exact hfin.1, hfin.2 hb5⟩
          case measure => simp [intOf]; omega
    · obtain rfl : p = x.length := by omega
      go_wp2
      go_ret2
      exact finish _ _ _ _ HG (ho.mono hbs) (hb0.trans (hb.mono hbs))
end Go.Proofs.Ytcpdaijlcjheaaa
