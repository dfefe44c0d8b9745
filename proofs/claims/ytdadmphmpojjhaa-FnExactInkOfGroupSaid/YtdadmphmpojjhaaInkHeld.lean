/- The laws' function that counts the marks of ink. -/
import Derived.Test.YtdadmphmpojjhaaWrInk
namespace Go.Proofs.Ytdadmphmpojjhaa
open Go.RowKit

theorem mkPoint_len' (k : Int) (n : Nat) : (mkPoint k n).length = n := by simp [mkPoint]
set_option maxRecDepth 100000 in
set_option maxHeartbeats 1000000 in
theorem heldStrokeS_any (v : Value) (X : XInk) (k : Int) (w : World) (h : Strokes w v (mkXInk k X)) (hn : okInk X) (hk0 : 0 ≤ k) (hk1 : k ≤ 10000000) :
    Calls Try.prog 21 #[v, .int .i64 k] w (Ret (.int .i64 (k + cntInk X)) w) := by
  obtain ⟨b, off, ao, cap, us, rfl, hnc, hcm, hao, hc, hul, hin⟩ := h.slice
  rw [mkXInk_len] at hnc hao hul
  have hX : X.length ≤ 1048576 := by unfold okInk at hn; omega
  unfold maxLen at hcm
  simp only [mkXInk_len]
  go_enter Try.func21, Try.ntmps21
  go_wp2
  go_loopw [1, 5] (fun kv iv wr => ∃ (i : Nat), i ≤ X.length ∧ iv = .int .i64 i ∧ kv = .int .i64 (k + 3 * (totI (X.take i) : Int)) ∧ Below w.heap.size w wr) (fun _ i _ => X.length - (intOf i).toNat)
  case atStart => exact ⟨0, Nat.zero_le _, rfl, by simp [totI, sumOf], Below.refl _ _⟩
  case round =>
    obtain ⟨i, hk, rfl, rfl, hb⟩ := hrel
    by_cases hlt : i < X.length
    · obtain ⟨hao', hbw⟩ := hao (by omega)
      subst hao'
      clear hao
      obtain ⟨x, hx⟩ : ∃ x, X[i]? = some x := ⟨_, List.getElem?_eq_getElem hlt⟩
      obtain ⟨s, hsv⟩ : ∃ s, us[i]? = some s := ⟨_, List.getElem?_eq_getElem (by omega)⟩
      have c0 := eS1_cells (hc.below hb hbw) hsv
      have hA := (hin i s _ hsv (mkXInk_get k hx)).below hb
      have hok := okInk_st hn hx
      have hsum := sumOf_take List.length hx
      have hle := sumOf_take_le List.length X i
      have hb0 : (totI (X.take i)) ≤ 1048576 := by unfold okInk at hn; unfold totI at hn ⊢; omega
      have HS : Hid (totI (X.take (i + 1)) = totI (X.take i) + x.length) := hid hsum
      have HIN := hid hin
      obtain ⟨sa, sn, sc⟩ := s
      obtain ⟨_, _, hsl⟩ := hA.isSlice
      simp only [SV.val, Value.slice.injEq, mkPoint_len'] at hsl
      obtain ⟨e1, rfl, e2⟩ := hsl
      clear e1 e2
      simp only at c0
      obtain ⟨kk, hkk⟩ : ∃ kk : Int, kk = k + 3 * (totI (X.take i) : Int) := ⟨_, rfl⟩
      have hk3 : 0 ≤ kk := by omega
      have hk4 : kk ≤ 20000000 := by omega
      have HKK := hid hkk
      have hlen0 : x.length ≤ 1048576 := hok
      have CH := heldPointS_any (.slice sa x.length sc) x.length kk wr (by rw [hkk]; exact hA) hlen0 hk3 hk4
      rw [← hkk]
      clear hsum hle hx hin hkk hb0
      have hlen : (x.length : Int) ≤ 1048576 := by omega
      go_wp2_with fail
      refine CH.mono ?_
      rintro e w2 ⟨rfl, hb2⟩
      go_wp2_with fail
      go_roundw
      case rel => exact ⟨i + 1, by omega, by go_num, by rw [HS.out, HKK.out]; congr 1; push_cast; omega, hb.trans (hb2.mono hb.size)⟩
      case measure => simp [intOf]; omega
    · obtain rfl : i = X.length := by omega
      rw [List.take_length]
      go_wp2
      go_ret
      exact ret_int rfl hb
set_option maxRecDepth 100000 in
set_option maxHeartbeats 400000 in
theorem heldInk_any (v : Value) (x : XInk) (k : Int) (w : World) {lo hi : Nat} (h : rInk.at_ lo hi w v (mkXInk k x)) (hn : okInk x) (hk0 : 0 ≤ k) (hk1 : k ≤ 10000000) :
    Calls Try.prog 11 #[v, .int .i64 k] w (Ret (.int .i64 (k + cntInk x)) w) := by
  obtain ⟨u, rfl, h⟩ := h
  replace h := strokes_at h
  have hc := cntInk_bd hn
  go_enter Try.func11, Try.ntmps11
  go_wp2_with (go_at_call 21; refine (heldStrokeS_any _ x _ _ (h.alloc _) hn hk0 hk1).mono ?_; rintro e w2 ⟨rfl, hb⟩)
  go_ret
  exact ret_int rfl (((Below.refl _ _).alloc (Nat.le_refl _) _).trans (hb.mono (by simp)))
end Go.Proofs.Ytdadmphmpojjhaa
