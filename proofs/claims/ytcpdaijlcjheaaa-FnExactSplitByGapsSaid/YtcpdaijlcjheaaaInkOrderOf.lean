/- OrderOf: the reference and the implementation. -/
import Derived.Test.YtcpdaijlcjheaaaInkOrder
namespace Go.Proofs.Ytcpdaijlcjheaaa
open Go.RowKit

def orderX (X : XInk) : List Int := if validInk X then orderI X else []
theorem orderI_bd {X : XInk} (hv : validInk X = true) : (orderI X).length ≤ 272 := ordTo_bd (validInk_len hv) (by rw [homesTo_len]; exact validInk_len hv)
theorem okOrder (X : XInk) : okInt64S (orderX X) := by
  unfold orderX
  split
  · rename_i hv
    have := orderI_bd hv
    show (orderI X).length ≤ 1048576
    omega
  · show (0 : Nat) ≤ 1048576; omega
set_option maxHeartbeats 1000000 in
theorem specOrderOf_any (v : Value) (x : XInk) (w : World) {lo hi : Nat} (h : rInk.at_ lo hi w v x) (ok : okInk x) (_ : goodInk x) :
    Calls Try.prog 19 #[v] w (RetNew rInt64S (orderX x) #[.int .i64 (grpC x)] w) := by
  obtain ⟨u, rfl, h⟩ := h
  replace h := strokes_at h
  obtain ⟨sa, sc, rfl⟩ : ∃ sa sc, u = .slice sa x.length sc := by obtain ⟨_, _, ao, cap, _, rfl, _⟩ := h.slice; exact ⟨_, _, rfl⟩
  have q0 : (w.alloc (.cells #[.slice sa x.length sc] 41)).cell? ⟨w.heap.size, 0, none⟩ = some (.slice sa x.length sc) := by simp
  have hA := h.alloc (.cells #[.slice sa x.length sc] 41)
  cases hv : validInk x
  · have HG : Hid (orderX x = [] ∧ grpC x = 1) := by show _ ∧ _; simp [orderX, grpC, hv]
    go_enter Try.func19, Try.ntmps19
    go_wp2_with fail
    refine (l02Ok_any _ _ _ x _ q0 hA ok).mono ?_
    rintro e w2 ⟨rfl, hb⟩
    rw [hv]
    go_wp2
    go_ret2
    rw [HG.out.1, HG.out.2]
    exact ⟨_, rfl, rInt64S_own (Own.nil _ _ w.heap.size) (Nat.le_refl _), (below_alloc _ _).trans (hb.mono (by simp))⟩
  · have HG : Hid (orderX x = orderI x ∧ grpC x = 0) := by show _ ∧ _; simp [orderX, grpC, hv]
    have HV := hid hv
    go_enter Try.func19, Try.ntmps19
    go_wp2_with fail
    refine (l02Ok_any _ _ _ x _ q0 hA ok).mono ?_
    rintro e w2 ⟨rfl, hb⟩
    rw [hv]
    clear hv
    have q1 := cell_later hb q0
    go_wp2_with (go_at_call 50; refine (l14Order_any _ _ _ x _ q1 (hA.below hb) ok HV.out).mono ?_; rintro e w3 ⟨u3, rfl, ho3, hb3⟩)
    go_ret2
    rw [HG.out.1, HG.out.2]
    have hs := hb.size
    simp at hs
    exact ⟨_, rfl, rInt64S_own ho3 (by omega), ((below_alloc _ _).trans (hb.mono (by simp))).trans (hb3.mono (by omega))⟩
set_option maxHeartbeats 1000000 in
theorem implOrderOf_any (v : Value) (x : XInk) (w : World) {lo hi : Nat} (h : rInk.at_ lo hi w v x) (ok : okInk x) (_ : goodInk x) :
    Calls Try.prog 20 #[v] w (RetNew rInt64S (orderX x) #[.int .i64 (grpC x)] w) := by
  obtain ⟨u, rfl, h⟩ := h
  replace h := strokes_at h
  obtain ⟨sa, sc, rfl⟩ : ∃ sa sc, u = .slice sa x.length sc := by obtain ⟨_, _, ao, cap, _, rfl, _⟩ := h.slice; exact ⟨_, _, rfl⟩
  have q0 : (w.alloc (.cells #[.slice sa x.length sc] 41)).cell? ⟨w.heap.size, 0, none⟩ = some (.slice sa x.length sc) := by simp
  have hA := h.alloc (.cells #[.slice sa x.length sc] 41)
  cases hv : validInk x
  · have HG : Hid (orderX x = [] ∧ grpC x = 1) := by show _ ∧ _; simp [orderX, grpC, hv]
    go_enter Try.func20, Try.ntmps20
    go_wp2_with fail
    refine (implValidInk_any _ x _ hA ok).mono ?_
    rintro e w2 ⟨rfl, hb⟩
    rw [hv]
    go_wp2
    go_ret2
    rw [HG.out.1, HG.out.2]
    exact ⟨_, rfl, rInt64S_own (Own.nil _ _ w.heap.size) (Nat.le_refl _), (below_alloc _ _).trans (hb.mono (by simp))⟩
  · have HG : Hid (orderX x = orderI x ∧ grpC x = 0) := by show _ ∧ _; simp [orderX, grpC, hv]
    have HV := hid hv
    go_enter Try.func20, Try.ntmps20
    go_wp2_with fail
    refine (implValidInk_any _ x _ hA ok).mono ?_
    rintro e w2 ⟨rfl, hb⟩
    rw [hv]
    clear hv
    have q1 := cell_later hb q0
    go_wp2_with (go_at_call 51; refine (orderOf_any _ x _ (hA.below hb) ok HV.out).mono ?_; rintro e w3 ⟨u3, rfl, ho3, hb3⟩)
    go_ret2
    rw [HG.out.1, HG.out.2]
    have hs := hb.size
    simp at hs
    exact ⟨_, rfl, rInt64S_own ho3 (by omega), ((below_alloc _ _).trans (hb.mono (by simp))).trans (hb3.mono (by omega))⟩
end Go.Proofs.Ytcpdaijlcjheaaa
