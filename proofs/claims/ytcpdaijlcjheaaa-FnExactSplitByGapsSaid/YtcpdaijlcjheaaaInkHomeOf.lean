/- HomeOf: the reference and the implementation. -/
import Derived.Test.YtcpdaijlcjheaaaInkHome
namespace Go.Proofs.Ytcpdaijlcjheaaa
open Go.RowKit

def homeX (X : XInk) (n : Int) : Int := if validInk X then if inB n 0 (X.length - 1) then homeI X n.toNat else 0 else 0
def homeC (X : XInk) (n : Int) : Int := if validInk X then if inB n 0 (X.length - 1) then 0 else 2 else 1
theorem home_inv {X : XInk} {n : Int} (h : validInk X = false) : homeX X n = 0 ∧ homeC X n = 1 := by simp [homeX, homeC, h]
theorem home_out {X : XInk} {n : Int} (h : validInk X = true) (hi : inB n 0 (X.length - 1) = false) : homeX X n = 0 ∧ homeC X n = 2 := by simp [homeX, homeC, h, hi]
theorem home_in {X : XInk} {n : Int} (h : validInk X = true) (hi : inB n 0 (X.length - 1) = true) : homeX X n = homeI X n.toNat ∧ homeC X n = 0 := by simp [homeX, homeC, h, hi]
theorem strokes_shape {w : World} {u : Value} {x : XInk} (h : Strokes w u x) : ∃ sa sc, u = .slice sa x.length sc := by obtain ⟨_, _, ao, cap, _, rfl, _⟩ := h.slice; exact ⟨_, _, rfl⟩

set_option maxHeartbeats 1000000 in
theorem specHomeOf_any (v : Value) (x : XInk) (n : Int) (w : World) {lo hi : Nat} (h : rInk.at_ lo hi w v x) (ok : okInk x) (_ : goodInk x) :
    Calls Try.prog 15 #[v, .int .i64 n] w (Ret (.tuple #[.int .i64 (homeX x n), .int .i64 (homeC x n)]) w) := by
  obtain ⟨u, rfl, h⟩ := h
  replace h := strokes_at h
  obtain ⟨sa, sc, rfl⟩ := strokes_shape h
  have q0 : (w.alloc (.cells #[.slice sa x.length sc] 41)).cell? ⟨w.heap.size, 0, none⟩ = some (.slice sa x.length sc) := by simp
  have hA := h.alloc (.cells #[.slice sa x.length sc] 41)
  cases hv : validInk x
  · have HG := hid (home_inv (n := n) hv)
    go_enter Try.func15, Try.ntmps15
    go_wp2_with fail
    refine (l02Ok_any _ _ _ x _ q0 hA ok).mono ?_
    rintro e w2 ⟨rfl, hb⟩
    rw [hv]
    go_wp2
    go_ret2
    exact ⟨by rw [HG.out.1, HG.out.2]; rfl, (below_alloc _ _).trans (hb.mono (by simp))⟩
  cases hi : inB n 0 (x.length - 1)
  · have HG := hid (home_out hv hi)
    go_enter Try.func15, Try.ntmps15
    go_wp2_with fail
    refine (l02Ok_any _ _ _ x _ q0 hA ok).mono ?_
    rintro e w2 ⟨rfl, hb⟩
    rw [hv]
    have q1 := cell_later hb q0
    replace hA := hA.below hb
    have hb0 := (below_alloc w (.cells #[.slice sa x.length sc] 41)).trans (hb.mono (by simp))
    go_wp2_with fail
    refine (l14Has_any _ _ _ x n _ q1 hA ok).mono ?_
    rintro e w3 ⟨rfl, hb3⟩
    rw [hi]
    go_wp2
    go_ret2
    exact ⟨by rw [HG.out.1, HG.out.2]; rfl, hb0.trans (hb3.mono hb0.size)⟩
  · have HG := hid (home_in hv hi)
    have hin := inB_true.1 hi
    obtain ⟨m, rfl⟩ : ∃ m : Nat, n = m := ⟨n.toNat, by omega⟩
    have hm : m < x.length := by omega
    rw [Int.toNat_natCast] at HG
    go_enter Try.func15, Try.ntmps15
    go_wp2_with fail
    refine (l02Ok_any _ _ _ x _ q0 hA ok).mono ?_
    rintro e w2 ⟨rfl, hb⟩
    rw [hv]
    have q1 := cell_later hb q0
    replace hA := hA.below hb
    have hb0 := (below_alloc w (.cells #[.slice sa x.length sc] 41)).trans (hb.mono (by simp))
    go_wp2_with fail
    refine (l14Has_any _ _ _ x m _ q1 hA ok).mono ?_
    rintro e w3 ⟨rfl, hb3⟩
    rw [hi]
    replace q1 := cell_later hb3 q1
    replace hA := hA.below hb3
    replace hb0 := hb0.trans (hb3.mono hb0.size)
    go_wp2_with fail
    refine (l14Home_any _ _ _ x m _ q1 hA ok hv hm).mono ?_
    rintro e w4 ⟨rfl, hb4⟩
    clear hi hv
    go_wp2
    go_ret2
    exact ⟨by rw [HG.out.1, HG.out.2]; rfl, hb0.trans (hb4.mono hb0.size)⟩
set_option maxHeartbeats 1000000 in
theorem implHomeOf_any (v : Value) (x : XInk) (n : Int) (w : World) {lo hi : Nat} (h : rInk.at_ lo hi w v x) (ok : okInk x) (_ : goodInk x) :
    Calls Try.prog 17 #[v, .int .i64 n] w (Ret (.tuple #[.int .i64 (homeX x n), .int .i64 (homeC x n)]) w) := by
  obtain ⟨u, rfl, h⟩ := h
  replace h := strokes_at h
  obtain ⟨sa, sc, rfl⟩ := strokes_shape h
  have q0 : (w.alloc (.cells #[.slice sa x.length sc] 41)).cell? ⟨w.heap.size, 0, none⟩ = some (.slice sa x.length sc) := by simp
  have hA := h.alloc (.cells #[.slice sa x.length sc] 41)
  cases hv : validInk x
  · have HG := hid (home_inv (n := n) hv)
    go_enter Try.func17, Try.ntmps17
    go_wp2_with fail
    refine (implValidInk_any _ x _ hA ok).mono ?_
    rintro e w2 ⟨rfl, hb⟩
    rw [hv]
    go_wp2
    go_ret2
    exact ⟨by rw [HG.out.1, HG.out.2]; rfl, (below_alloc _ _).trans (hb.mono (by simp))⟩
  cases hi : inB n 0 (x.length - 1)
  · have HG := hid (home_out hv hi)
    go_enter Try.func17, Try.ntmps17
    go_wp2_with fail
    refine (implValidInk_any _ x _ hA ok).mono ?_
    rintro e w2 ⟨rfl, hb⟩
    rw [hv]
    have q1 := cell_later hb q0
    replace hA := hA.below hb
    have hb0 := (below_alloc w (.cells #[.slice sa x.length sc] 41)).trans (hb.mono (by simp))
    go_wp2_with fail
    refine (isStroke_any _ x n _ hA ok).mono ?_
    rintro e w3 ⟨rfl, hb3⟩
    rw [hi]
    go_wp2
    go_ret2
    exact ⟨by rw [HG.out.1, HG.out.2]; rfl, hb0.trans (hb3.mono hb0.size)⟩
  · have HG := hid (home_in hv hi)
    have hin := inB_true.1 hi
    obtain ⟨m, rfl⟩ : ∃ m : Nat, n = m := ⟨n.toNat, by omega⟩
    have hm : m < x.length := by omega
    rw [Int.toNat_natCast] at HG
    go_enter Try.func17, Try.ntmps17
    go_wp2_with fail
    refine (implValidInk_any _ x _ hA ok).mono ?_
    rintro e w2 ⟨rfl, hb⟩
    rw [hv]
    have q1 := cell_later hb q0
    replace hA := hA.below hb
    have hb0 := (below_alloc w (.cells #[.slice sa x.length sc] 41)).trans (hb.mono (by simp))
    go_wp2_with fail
    refine (isStroke_any _ x m _ hA ok).mono ?_
    rintro e w3 ⟨rfl, hb3⟩
    rw [hi]
    replace q1 := cell_later hb3 q1
    replace hA := hA.below hb3
    replace hb0 := hb0.trans (hb3.mono hb0.size)
    go_wp2_with fail
    refine (homeOf_any _ x m _ hA ok hv hm).mono ?_
    rintro e w4 ⟨rfl, hb4⟩
    clear hi hv
    go_wp2
    go_ret2
    exact ⟨by rw [HG.out.1, HG.out.2]; rfl, hb0.trans (hb4.mono hb0.size)⟩
end Go.Proofs.Ytcpdaijlcjheaaa
