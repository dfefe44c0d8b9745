/- Two lists of hypotheses one behind the other, and the implementation's merge. -/
import Derived.Test.YtnanegdcoegahaaHySort
import Derived.Lib.AppendZeros
namespace Go.Proofs.Ytnanegdcoegahaa
open Go.RowKit Go.Sort
attribute [local go_sem ↓] Go.wp_at_zero Go.wp_at_succ

set_option maxHeartbeats 1000000 in
set_option maxRecDepth 100000 in
theorem growHy_any (n : Nat) (w : World) (hn : n ≤ 1000) :
    Calls Try.prog 133 #[.slice none 0 0, .int .i64 n] w fun e w' => ∃ u, e = .returned u ∧ Own eHyp 130 w.heap.size w' u [] ∧ Below w.heap.size w w' := by
  obtain ⟨i0, hi, hz0, hz1, hz2⟩ := info_parts infHyp
  have hni : (n : Int) ≤ 1000 := by omega
  have hn0 : (0 : Int) ≤ (n : Int) := by omega
  by_cases h0 : n = 0
  · subst h0
    go_enter Try.func133, Try.ntmps133
    go_wp2
    go_ret
    exact ⟨_, rfl, Own.nil _ _ _, Below.refl _ _⟩
  · have hpos : (0 : Int) < (n : Int) := by omega
    have hr := Lib.run_append_nil_zeros (P := Try.prog) w 78 3 78 130 i0 _ .i64 .i64 Try.underlying78 Try.underlying3 hi hz0 n (by omega) (by rw [hz1]; decide) (by omega) (by rw [hz2]; omega)
    have hown : Own eHyp 130 w.heap.size (w.drew.alloc (.cells (Builtin.zeroCells (Value.agg #[.string ByteArray.empty, .int .i64 0]).cells n ++ Builtin.zeroCells (Value.agg #[.string ByteArray.empty, .int .i64 0]).cells (grownCap w n 0 130 - n)) 130)) (.slice (some ⟨w.heap.size, 0, none⟩) 0 (grownCap w n 0 130)) [] := by
      have hge := grownCap_ge w n 0 130
      refine ⟨by simp [Enc.flat_nil], .inr ⟨w.heap.size, grownCap w n 0 130, _, rfl, Nat.le_refl _, heap_alloc_new _ _, Nat.zero_le _, grownCap_le_maxLen w n 0 _ (by unfold maxLen; omega), ?_, by simp [Enc.flat_nil]⟩⟩
      rw [Array.size_append, size_zeroCells, size_zeroCells]
      show n * 2 + (grownCap w n 0 130 - n) * 2 = grownCap w n 0 130 * 2
      omega
    have hb : Below w.heap.size w (w.drew.alloc (.cells (Builtin.zeroCells (Value.agg #[.string ByteArray.empty, .int .i64 0]).cells n ++ Builtin.zeroCells (Value.agg #[.string ByteArray.empty, .int .i64 0]).cells (grownCap w n 0 130 - n)) 130)) := (Below.refl _ _).drew.alloc (by exact Nat.le_refl _) _
    generalize w.drew.alloc (.cells (Builtin.zeroCells (Value.agg #[.string ByteArray.empty, .int .i64 0]).cells n ++ Builtin.zeroCells (Value.agg #[.string ByteArray.empty, .int .i64 0]).cells (grownCap w n 0 130 - n)) 130) = w1 at hr hown hb
    generalize grownCap w n 0 130 = cap at hr hown
    have HR := hid hr
    clear hr hi hz0 hz1 hz2
    go_enter Try.func133, Try.ntmps133
    go_wp2_with (at_builtin; refine Lib.wpList_append_run _ rfl _ _ _ _ rfl _ _ rfl rfl _ _ HR.out ?_)
    go_ret
    exact ⟨_, rfl, hown, hb⟩
def totH (a b : List DHyp) : Nat → Nat
  | 0 => 0
  | 1 => a.length
  | _ => a.length + b.length
def partH (a b : List DHyp) : Nat → List DHyp
  | 0 => []
  | 1 => a
  | _ => a ++ b
set_option maxHeartbeats 4000000 in
set_option maxRecDepth 100000 in
theorem concatHy_any (q : Nat) (sa1 sa2 : Option Addr) (sc1 sc2 : Nat) (a b : List DHyp) (w : World) (c0 : w.cell? ⟨q, 0, none⟩ = some (.slice sa1 a.length sc1)) (c1 : w.cell? ⟨q, 1, none⟩ = some (.slice sa2 b.length sc2)) (h1 : Arr eHyp w (.slice sa1 a.length sc1) a) (h2 : Arr eHyp w (.slice sa2 b.length sc2) b) (la : a.length ≤ 8) (lb : b.length ≤ 8) :
    Calls Try.prog 100 #[.slice (some ⟨q, 0, none⟩) 2 2] w (RetOwn eHyp 130 (a ++ b) w) := by
  have hq := cell_lt c0
  go_enter Try.func100, Try.ntmps100
  go_wp2
  go_loopw [3, 11] (fun s i wr => ∃ j : Nat, j ≤ 2 ∧ i = .int .i64 j ∧ s = .int .i64 (totH a b j) ∧ wr = w) (fun _ i _ => 2 - (intOf i).toNat)
  case atStart => exact ⟨0, by omega, rfl, rfl, rfl⟩
  case round =>
    obtain ⟨j, hj, rfl, rfl, rfl⟩ := hrel
    match j, hj with
    | 0, _ =>
      have hd : decide ((a.length : Int) < 0) = false := by simp
      have hl8 : (a.length : Int) ≤ 8 := by omega
      simp only [totH]
      go_wp2
      go_roundw
      case rel => exact ⟨1, by omega, rfl, by simp⟩
      case measure => simp [intOf]
    | 1, _ =>
      have hd : decide ((a.length : Int) + (b.length : Int) < 0) = false := by simp; omega
      have hl8 : (a.length : Int) ≤ 8 := by omega
      have hl9 : (b.length : Int) ≤ 8 := by omega
      simp only [totH]
      go_wp2
      go_roundw
      case rel => exact ⟨2, by omega, rfl, by simp⟩
      case measure => simp [intOf]
    | 2, _ =>
      have hn : (a.length : Int) + (b.length : Int) = ((a.length + b.length : Nat) : Int) := by omega
      have HG := hid (growHy_any (a.length + b.length) wr (by omega))
      obtain ⟨n, hnn⟩ : ∃ n : Nat, n = a.length + b.length := ⟨_, rfl⟩
      rw [← hnn] at HG
      simp only [totH]
      rw [← hnn]
      have hn16 : (n : Int) ≤ 16 := by omega
      clear hnn hn
      obtain ⟨w0, rfl⟩ : ∃ w0, w0 = wr := ⟨wr, rfl⟩
      go_wp2_with (go_at_call 133; refine HG.out.mono ?_; rintro e w1 ⟨u, rfl, ho, hb1⟩)
      obtain ⟨H, hH⟩ : ∃ H, H = w0.heap.size := ⟨_, rfl⟩
      rw [← hH] at ho hb1 hq
      have HH := hid hH
      clear hH
      go_loopw [6, 27] (fun l i wr => ∃ j : Nat, j ≤ 2 ∧ i = .int .i64 j ∧ Own eHyp 130 H wr l (partH a b j) ∧ Below H w0 wr) (fun _ i _ => 2 - (intOf i).toNat)
      case atStart => exact ⟨0, by omega, rfl, ho, hb1⟩
      case round =>
        clear ho hb1
        obtain ⟨j, hj, rfl, ho, hb⟩ := hrel
        have t0 := below_cell hb hq c0
        have t1 := below_cell hb hq c1
        have hHr : H ≤ wr.heap.size := by rw [HH.out]; exact hb.size
        have hA := h1.below (HH.out ▸ hb)
        have hB := h2.below (HH.out ▸ hb)
        match j, hj with
        | 0, _ =>
          simp only [partH] at ho
          obtain ⟨sl, sc, hls⟩ := ho.isSlice
          subst hls
          go_wp2_with (at_builtin; (refine wpList_appA rfl _ _ 78 rfl H 130 _ 24 infHyp Try.underlying78 rfl _ [] rfl ho _ a rfl hA (by unfold maxLen; simp; omega) (by simp; omega) hHr ?_; intro v' wA hoA hbA htA))
          go_roundw
          case rel => exact ⟨1, by omega, rfl, by simpa [partH] using hoA, hb.trans hbA⟩
          case measure => simp [intOf]
        | 1, _ =>
          simp only [partH] at ho
          obtain ⟨sl, sc, hls⟩ := ho.isSlice
          subst hls
          go_wp2_with (at_builtin; (refine wpList_appA rfl _ _ 78 rfl H 130 _ 24 infHyp Try.underlying78 rfl _ a rfl ho _ b rfl hB (by unfold maxLen; omega) (by omega) hHr ?_; intro v' wA hoA hbA htA))
          go_roundw
          case rel => exact ⟨2, by omega, rfl, by simpa [partH] using hoA, hb.trans hbA⟩
          case measure => simp [intOf]
        | 2, _ =>
          go_wp2
          go_ret
          exact ⟨_, rfl, by rw [← HH.out]; exact ho, by rw [← HH.out]; exact hb⟩
set_option maxHeartbeats 4000000 in
set_option maxRecDepth 100000 in
theorem implMergeHyps_any (v1 : Value) (a : XHypS) (v2 : Value) (b : XHypS) (k : Int) (w : World) {lo1 hi1 lo2 hi2 : Nat} (h1 : rHypS.at_ lo1 hi1 w v1 a) (h2 : rHypS.at_ lo2 hi2 w v2 b) (ok1 : okHypS a) (ok2 : okHypS b) (g1 : goodHypS a) (g2 : goodHypS b) :
    Calls Try.prog 44 #[v1, v2, .int .i64 k] w (RetNew rHypS (mergeHy a b k) #[.int .i64 (mergeC a b k)] w) := by
  have hA := ArrIn.arr h1
  have hB := ArrIn.arr h2
  obtain ⟨sa1, sc1, hu⟩ := hA.isSlice
  subst hu
  obtain ⟨sa2, sc2, hu⟩ := hB.isSlice
  subst hu
  have finish : ∀ (w' : World) (u : Value) (z : List DHyp) (c : Int), Hid (mergeHy a b k = z ∧ mergeC a b k = c) → Own eHyp 130 w.heap.size w' u z → Below w.heap.size w w' → RetNew rHypS (mergeHy a b k) #[.int .i64 (mergeC a b k)] w (.returned (.tuple #[u, .int .i64 c])) w' := by
    intro w' u z c hz ho hb
    rw [hz.out.1, hz.out.2]
    exact ⟨_, rfl, rHypS_own ho (Nat.le_refl _), hb⟩
  have C1 := implValidHyps_any (.slice sa1 a.length sc1) a w h1 ok1 g1
  have C2 := fun w' (hb : Below w.heap.size w w') => implValidHyps_any (.slice sa2 b.length sc2) b w' (show rHypS.at_ 0 w'.heap.size w' _ b from (hB.below hb).in_) ok2 g2
  cases hv1 : validHy a
  · have HZ : Hid (mergeHy a b k = [] ∧ mergeC a b k = 1) := by show _ ∧ _; simp [mergeHy, mergeC, hv1]
    rw [hv1] at C1
    go_enter Try.func44, Try.ntmps44
    go_wp2_with fail
    refine C1.mono ?_
    rintro e w3 ⟨rfl, hb⟩
    go_wp2_with fail
    go_ret2
    exact finish _ _ _ _ HZ (Own.nil _ _ _) hb
  rw [hv1] at C1
  cases hv2 : validHy b
  · have HZ : Hid (mergeHy a b k = [] ∧ mergeC a b k = 1) := by show _ ∧ _; simp [mergeHy, mergeC, hv1, hv2]
    rw [hv2] at C2
    go_enter Try.func44, Try.ntmps44
    go_wp2_with fail
    refine C1.mono ?_
    rintro e w3 ⟨rfl, hb⟩
    go_wp2_with fail
    refine (C2 w3 hb).mono ?_
    rintro e w4 ⟨rfl, hb4⟩
    go_wp2_with fail
    go_ret2
    exact finish _ _ _ _ HZ (Own.nil _ _ _) (hb.trans (hb4.mono hb.size))
  rw [hv2] at C2
  have HI : ∀ w', Calls Try.prog 62 #[.int .i64 k, .int .i64 1, .int .i64 8] w' fun e w'' => e = .returned (.bool (inB k 1 8)) ∧ w' = w'' := fun w' => within_any _ _ _ w'
  cases hk : inB k 1 8
  · have HZ : Hid (mergeHy a b k = [] ∧ mergeC a b k = 2) := by show _ ∧ _; simp [mergeHy, mergeC, hv1, hv2, hk]
    rw [hk] at HI
    go_enter Try.func44, Try.ntmps44
    go_wp2_with fail
    refine C1.mono ?_
    rintro e w3 ⟨rfl, hb⟩
    go_wp2_with fail
    refine (C2 w3 hb).mono ?_
    rintro e w4 ⟨rfl, hb4⟩
    go_wp2_with (go_at_call 62; refine (HI _).mono ?_; rintro e w' ⟨rfl, rfl⟩)
    go_ret2
    exact finish _ _ _ _ HZ (Own.nil _ _ _) (hb.trans (hb4.mono hb.size))
  rw [hk] at HI
  obtain ⟨hk1, hk2⟩ := inB_true.1 hk
  obtain ⟨kn, rfl⟩ : ∃ kn : Nat, k = kn := ⟨k.toNat, by omega⟩
  have hk8 : kn ≤ 8 := by omega
  have la : a.length ≤ 8 := by have h := hv1; rw [validHy, Bool.and_eq_true] at h; simpa using h.2
  have lb : b.length ≤ 8 := by have h := hv2; rw [validHy, Bool.and_eq_true] at h; simpa using h.2
  have HV1 := hid hv1
  have HZ : Hid (mergeHy a b (kn : Int) = (b.foldl insH a).take kn ∧ mergeC a b (kn : Int) = 0) := by show _ ∧ _; simp [mergeHy, mergeC, hv1, hv2, hk]
  clear hv1 hv2 hk
  go_enter Try.func44, Try.ntmps44
  go_wp2_with fail
  refine C1.mono ?_
  rintro e w3 ⟨rfl, hb⟩
  go_wp2_with fail
  refine (C2 w3 hb).mono ?_
  rintro e w4 ⟨rfl, hb4⟩
  have hb5 := hb.trans (hb4.mono hb.size)
  have hm : Below w4.heap.size w4 (w4.alloc (.cells #[.slice sa1 a.length sc1, .slice sa2 b.length sc2] 78)) := below_alloc _ _
  have HC := hid (concatHy_any w4.heap.size sa1 sa2 sc1 sc2 a b (w4.alloc (.cells #[.slice sa1 a.length sc1, .slice sa2 b.length sc2] 78)) (by simp) (by simp) ((hA.below hb5).alloc _) ((hB.below hb5).alloc _) la lb)
  have hb6 : Below w.heap.size w (w4.alloc (.cells #[.slice sa1 a.length sc1, .slice sa2 b.length sc2] 78)) := hb5.trans (hm.mono hb5.size)
  go_wp2_with (first | (go_at_call 62; refine (HI _).mono ?_; rintro e w' ⟨rfl, rfl⟩) | (go_at_call 100; refine HC.out.mono ?_; rintro e w5 ⟨u, rfl, ho, hb7⟩; have hb8 := hb6.trans (hb7.mono hb6.size)) | (go_at_call 99; refine (hypsOf_any u (a ++ b) kn w5 ho.arr hk8 (by simp; omega)).mono ?_; rintro e w6 ⟨Y, hperm, hup, u2, rfl, ho2, hb9⟩))
  go_ret2
  refine finish _ _ _ _ HZ ?_ (hb8.trans (hb9.mono hb8.size))
  rw [← merge_eq HV1.out hperm hup]
  exact ho2.mono hb8.size
end Go.Proofs.Ytnanegdcoegahaa
