/- GapAt: the reference and the implementation. -/
import Derived.Test.YtcpdaijlcjheaaaInkGap
import Derived.Deep.RegionHeld3
namespace Go.Proofs.Ytcpdaijlcjheaaa
open Go.RowKit

def gapX (X : XInk) (n : Int) : Int := if validInk X then if inB n 1 (X.length - 1) then gapI X (orderI X) n.toNat else 0 else 0
def gapC (X : XInk) (n : Int) : Int := if validInk X then if inB n 1 (X.length - 1) then 0 else 2 else 1
theorem gap_inv {X : XInk} {n : Int} (h : validInk X = false) : gapX X n = 0 ∧ gapC X n = 1 := by simp [gapX, gapC, h]
theorem gap_out {X : XInk} {n : Int} (h : validInk X = true) (hi : inB n 1 (X.length - 1) = false) : gapX X n = 0 ∧ gapC X n = 2 := by simp [gapX, gapC, h, hi]
theorem gap_in {X : XInk} {n : Int} (h : validInk X = true) (hi : inB n 1 (X.length - 1) = true) : gapX X n = gapI X (orderI X) n.toNat ∧ gapC X n = 0 := by simp [gapX, gapC, h, hi]

set_option maxHeartbeats 1000000 in
theorem specGapAt_any (v : Value) (x : XInk) (n : Int) (w : World) {lo hi : Nat} (h : rInk.at_ lo hi w v x) (ok : okInk x) (_ : goodInk x) :
    Calls Try.prog 30 #[v, .int .i64 n] w (Ret (.tuple #[.int .i64 (gapX x n), .int .i64 (gapC x n)]) w) := by
  obtain ⟨u, rfl, h⟩ := h
  replace h := strokes_at h
  obtain ⟨sa, sc, rfl⟩ := strokes_shape h
  have q0 : (w.alloc (.cells #[.slice sa x.length sc] 41)).cell? ⟨w.heap.size, 0, none⟩ = some (.slice sa x.length sc) := by simp
  have hA := h.alloc (.cells #[.slice sa x.length sc] 41)
  have hbA : Below w.heap.size w (w.alloc (.cells #[.slice sa x.length sc] 41)) := below_alloc _ _
  have hX : x.length ≤ 1048576 := by unfold okInk at ok; omega
  cases hv : validInk x
  · have HG := hid (gap_inv (n := n) hv)
    go_enter Try.func30, Try.ntmps30
    go_wp2_with fail
    refine (l02Ok_any _ _ _ x _ q0 hA ok).mono ?_
    rintro e w2 ⟨rfl, hb⟩
    rw [hv]
    go_wp2
    go_ret2
    exact ⟨by rw [HG.out.1, HG.out.2]; rfl, hbA.trans (hb.mono hbA.size)⟩
  cases hi : inB n 1 (x.length - 1)
  · have HG := hid (gap_out hv hi)
    have HI : ∀ w', Calls Try.prog 56 #[.int .i64 n, .int .i64 1, .int .i64 (x.length - 1)] w' fun e w'' => e = .returned (.bool false) ∧ w' = w'' := fun w' => hi ▸ l00In_any _ _ _ w'
    clear hi
    go_enter Try.func30, Try.ntmps30
    go_wp2_with fail
    refine (l02Ok_any _ _ _ x _ q0 hA ok).mono ?_
    rintro e w2 ⟨rfl, hb⟩
    rw [hv]
    have q1 := cell_later hb q0
    go_wp2_with (go_at_call 56; refine (HI _).mono ?_; rintro e w' ⟨rfl, rfl⟩)
    go_ret2
    exact ⟨by rw [HG.out.1, HG.out.2]; rfl, hbA.trans (hb.mono hbA.size)⟩
  · have HG := hid (gap_in hv hi)
    have HI : ∀ w', Calls Try.prog 56 #[.int .i64 n, .int .i64 1, .int .i64 (x.length - 1)] w' fun e w'' => e = .returned (.bool true) ∧ w' = w'' := fun w' => hi ▸ l00In_any _ _ _ w'
    have hin := inB_true.1 hi
    clear hi
    obtain ⟨m, rfl⟩ : ∃ m : Nat, n = m := ⟨n.toNat, by omega⟩
    have hm : m < (orderI x).length := by rw [orderI_len]; omega
    rw [Int.toNat_natCast] at HG
    clear hin
    go_enter Try.func30, Try.ntmps30
    go_wp2_with fail
    refine (l02Ok_any _ _ _ x _ q0 hA ok).mono ?_
    rintro e w2 ⟨rfl, hb⟩
    rw [hv]
    have q1 := cell_later hb q0
    replace hA := hA.below hb
    have hb0 := hbA.trans (hb.mono hbA.size)
    have HV := hid hv
    clear hv hb q0
    go_wp2_with (go_at_call 56; refine (HI _).mono ?_; rintro e w' ⟨rfl, rfl⟩)
    refine (l14Order_any _ _ _ x _ q1 hA ok HV.out).mono ?_
    rintro e w3 ⟨u3, rfl, ho3, hb3⟩
    have q2 := cell_later hb3 q1
    replace hA := hA.below hb3
    replace hb0 := hb0.trans (hb3.mono hb0.size)
    clear q1 hb3
    go_wp2_with fail
    refine (l14Gap_any _ _ _ _ x _ m _ q2 hA ho3.arr (orderI_in x) hm ok HV.out).mono ?_
    rintro e w4 ⟨rfl, hb4⟩
    go_wp2
    go_ret2
    exact ⟨by rw [HG.out.1, HG.out.2]; rfl, hb0.trans (hb4.mono hb0.size)⟩
set_option maxHeartbeats 1000000 in
theorem implGapAt_any (v : Value) (x : XInk) (n : Int) (w : World) {lo hi : Nat} (h : rInk.at_ lo hi w v x) (ok : okInk x) (_ : goodInk x) :
    Calls Try.prog 31 #[v, .int .i64 n] w (Ret (.tuple #[.int .i64 (gapX x n), .int .i64 (gapC x n)]) w) := by
  obtain ⟨u, rfl, h⟩ := h
  replace h := strokes_at h
  obtain ⟨sa, sc, rfl⟩ := strokes_shape h
  have q0 : (w.alloc (.cells #[.slice sa x.length sc] 41)).cell? ⟨w.heap.size, 0, none⟩ = some (.slice sa x.length sc) := by simp
  have hA := h.alloc (.cells #[.slice sa x.length sc] 41)
  have hbA : Below w.heap.size w (w.alloc (.cells #[.slice sa x.length sc] 41)) := below_alloc _ _
  have hX : x.length ≤ 1048576 := by unfold okInk at ok; omega
  cases hv : validInk x
  · have HG := hid (gap_inv (n := n) hv)
    go_enter Try.func31, Try.ntmps31
    go_wp2_with fail
    refine (implValidInk_any _ x _ hA ok).mono ?_
    rintro e w2 ⟨rfl, hb⟩
    rw [hv]
    go_wp2
    go_ret2
    exact ⟨by rw [HG.out.1, HG.out.2]; rfl, hbA.trans (hb.mono hbA.size)⟩
  cases hi : inB n 1 (x.length - 1)
  · have HG := hid (gap_out hv hi)
    have HI : ∀ w', Calls Try.prog 58 #[.int .i64 n, .int .i64 1, .int .i64 (x.length - 1)] w' fun e w'' => e = .returned (.bool false) ∧ w' = w'' := fun w' => hi ▸ within_any _ _ _ w'
    clear hi
    go_enter Try.func31, Try.ntmps31
    go_wp2_with fail
    refine (implValidInk_any _ x _ hA ok).mono ?_
    rintro e w2 ⟨rfl, hb⟩
    rw [hv]
    have q1 := cell_later hb q0
    go_wp2_with (go_at_call 58; refine (HI _).mono ?_; rintro e w' ⟨rfl, rfl⟩)
    go_ret2
    exact ⟨by rw [HG.out.1, HG.out.2]; rfl, hbA.trans (hb.mono hbA.size)⟩
  · have HG := hid (gap_in hv hi)
    have HI : ∀ w', Calls Try.prog 58 #[.int .i64 n, .int .i64 1, .int .i64 (x.length - 1)] w' fun e w'' => e = .returned (.bool true) ∧ w' = w'' := fun w' => hi ▸ within_any _ _ _ w'
    have hin := inB_true.1 hi
    clear hi
    obtain ⟨m, rfl⟩ : ∃ m : Nat, n = m := ⟨n.toNat, by omega⟩
    have hm : m < (orderI x).length := by rw [orderI_len]; omega
    rw [Int.toNat_natCast] at HG
    clear hin
    go_enter Try.func31, Try.ntmps31
    go_wp2_with fail
    refine (implValidInk_any _ x _ hA ok).mono ?_
    rintro e w2 ⟨rfl, hb⟩
    rw [hv]
    have q1 := cell_later hb q0
    replace hA := hA.below hb
    have hb0 := hbA.trans (hb.mono hbA.size)
    have HV := hid hv
    clear hv hb q0
    go_wp2_with (go_at_call 58; refine (HI _).mono ?_; rintro e w' ⟨rfl, rfl⟩)
    go_region_held3 (fun w' => w'.cell? ⟨w.heap.size, 0, none⟩ = some (.slice sa x.length sc)) (first | go_keep | exact cell_later (by assumption) (by assumption))
      (first | (go_at_call 51; refine (orderOf_any _ x _ (by first | exact hA | exact hA.below (Below.refl _ _).drew) ok HV.out).mono ?_; rintro e w3 ⟨u3, rfl, ho3, hb3⟩) | (go_at_call 59; refine (gapAt_any _ _ x _ m _ (by first | exact (hA.below hb3) | exact (hA.below (Below.refl _ _).drew).below hb3) (by exact ho3.arr) (orderI_in x) hm ok HV.out).mono ?_; rintro e w4 ⟨rfl, hb4⟩))
    go_wp2
    go_ret2
    exact ⟨by rw [HG.out.1, HG.out.2]; rfl, hb0.drew.trans ((hb3.trans (hb4.mono hb3.size)).mono hb0.size)⟩
end Go.Proofs.Ytcpdaijlcjheaaa
