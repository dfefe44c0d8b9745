/- The cost of the reading with a text: both calls. -/
import Derived.Test.YtkgfonchklnckaaLtText3
import Derived.Test.YtkgfonchklnckaaWrLattice
namespace Go.Proofs.Ytkgfonchklnckaa
open Go.RowKit
attribute [local go_sem ↓] Go.wp_at_zero Go.wp_at_succ

theorem textR_val {m : Nat} {x : List DEdge} (s : ByteArray) (hv : validLt ((m : Int), x) = true) : (textR ((m : Int), x) s = NW ∧ enc1 (textR ((m : Int), x) s) = -1) ∨ (textR ((m : Int), x) s < NW ∧ enc1 (textR ((m : Int), x) s) = textR ((m : Int), x) s ∧ 0 ≤ textR ((m : Int), x) s) := by
  obtain ⟨n1, n2, x2⟩ := valid_bd hv
  have e := NW_eq
  have := okC_row (valid_good hv) s s.size (m - 1)
  have hr : textR ((m : Int), x) s = rowC s x s.size (m - 1) := by unfold textR; simp only [Int.toNat_natCast]
  rw [hr]
  rcases this with h | h
  · exact .inl ⟨h, by rw [h]; exact enc1_no⟩
  · have : rowC s x s.size (m - 1) ≠ NW := by omega
    exact .inr ⟨by omega, enc1_yes this, h.1⟩
set_option maxHeartbeats 4000000 in
theorem specTextCost_any (v : Value) (x : XLattice) (s : ByteArray) (w : World) {lo hi : Nat} (h : rLattice.at_ lo hi w v x) (ok : okLattice x) (g : goodLattice x) (hs : s.size ≤ 1048576) :
    Calls Try.prog 18 #[v, .string s] w (Ret (.tuple #[.int .i64 (textN x s), .int .i64 (textC x s)]) w) := by
  obtain ⟨u, rfl, h⟩ := h
  replace h := ArrIn.arr h
  obtain ⟨n, x⟩ := x
  obtain ⟨ao, cap, hu⟩ := h.isSlice
  subst hu
  simp only at h
  have q0 : (w.alloc (.cells #[.int .i64 n, .slice ao x.length cap] 29)).cell? ⟨w.heap.size, 0, none⟩ = some (.int .i64 n) := by simp
  have q1 : (w.alloc (.cells #[.int .i64 n, .slice ao x.length cap] 29)).cell? ⟨w.heap.size, 1, none⟩ = some (.slice ao x.length cap) := by simp
  cases hv : validLt (n, x)
  · go_enter Try.func18, Try.ntmps18
    go_wp2_with (go_at_call 31; refine (l15Ok_any _ n _ x _ q0 q1 (h.alloc _) ok g).mono ?_; rintro e w2 ⟨rfl, hb⟩; rw [hv])
    go_ret2
    exact ⟨by simp [textN, textC, hv], (below_alloc _ _).trans (hb.mono (by simp))⟩
  obtain ⟨n1, n2, x2⟩ := valid_bd hv
  obtain ⟨m, rfl⟩ : ∃ m : Nat, n = m := ⟨n.toNat, by omega⟩
  have hss : (s.size : Int) ≤ 1048576 := by omega
  by_cases hbig : 20 < s.size
  · have hr : textR ((m : Int), x) s = NW := by unfold textR; simp only [Int.toNat_natCast]; exact row_far (valid_good hv) s _ _ (by omega)
    have hbi : (20 : Int) < (s.size : Int) := by omega
    go_enter Try.func18, Try.ntmps18
    go_wp2_with (go_at_call 31; refine (l15Ok_any _ (m : Int) _ x _ q0 q1 (h.alloc _) ok g).mono ?_; rintro e w2 ⟨rfl, hb⟩; rw [hv])
    go_ret2
    exact ⟨by simp [textN, textC, hv, hr], (below_alloc _ _).trans (hb.mono (by simp))⟩
  have hbi : decide ((20 : Int) < (s.size : Int)) = false := by simp; omega
  have hl : s.size ≤ 20 := by omega
  have hr := textR_val s hv
  have hrr : textR ((m : Int), x) s = rowC s x s.size (m - 1) := by unfold textR; simp only [Int.toNat_natCast]
  clear hbig
  obtain ⟨r, hrd⟩ : ∃ r, r = textR ((m : Int), x) s := ⟨_, rfl⟩
  rw [← hrd] at hr hrr
  rcases hr with ⟨h1, h2⟩ | ⟨h1, h2, h3⟩
  · have HF : Hid ((textN ((m : Int), x) s = 0) ∧ textC ((m : Int), x) s = 3) := by
      show _ ∧ _
      simp [textN, textC, hv, ← hrd, h1]
    rw [hrr] at h2
    clear h1 hrd
    go_enter Try.func18, Try.ntmps18
    go_wp2_with (first | (go_at_call 31; refine (l15Ok_any _ (m : Int) _ x _ q0 q1 (h.alloc _) ok g).mono ?_; rintro e w2 ⟨rfl, hb⟩; rw [hv]; have s0 := cell_later hb q0; have s1 := cell_later hb q1; have hA2 := (h.alloc _).below hb) | (go_at_call 37; refine (l15TextCost_any _ _ m x s _ s0 s1 hA2 hv hl).mono ?_; rintro e w3 ⟨rfl, hb3⟩; rw [h2]))
    go_ret2
    exact ⟨by rw [HF.out.1, HF.out.2]; rfl, (below_alloc _ _).trans ((hb.trans (hb3.mono hb.size)).mono (by simp))⟩
  · have HF : Hid ((textN ((m : Int), x) s = r) ∧ textC ((m : Int), x) s = 0) := by
      show _ ∧ _
      simp [textN, textC, hv, ← hrd, h1]
    have hd : decide (r < 0) = false := by simp; omega
    have HRR := hid hrr
    clear h1 hrd hrr
    go_enter Try.func18, Try.ntmps18
    go_wp2_with (first | (go_at_call 31; refine (l15Ok_any _ (m : Int) _ x _ q0 q1 (h.alloc _) ok g).mono ?_; rintro e w2 ⟨rfl, hb⟩; rw [hv]; have s0 := cell_later hb q0; have s1 := cell_later hb q1; have hA2 := (h.alloc _).below hb) | (go_at_call 37; refine (l15TextCost_any _ _ m x s _ s0 s1 hA2 hv hl).mono ?_; rintro e w3 ⟨rfl, hb3⟩; rw [← HRR.out, h2]))
    go_ret2
    exact ⟨by rw [HF.out.1, HF.out.2]; rfl, (below_alloc _ _).trans ((hb.trans (hb3.mono hb.size)).mono (by simp))⟩
set_option maxHeartbeats 4000000 in
theorem implTextCost_any (v : Value) (x : XLattice) (s : ByteArray) (w : World) {lo hi : Nat} (h : rLattice.at_ lo hi w v x) (ok : okLattice x) (g : goodLattice x) (hs : s.size ≤ 1048576) :
    Calls Try.prog 19 #[v, .string s] w (Ret (.tuple #[.int .i64 (textN x s), .int .i64 (textC x s)]) w) := by
  have hR := h
  obtain ⟨u, rfl, h⟩ := h
  replace h := ArrIn.arr h
  obtain ⟨n, x⟩ := x
  obtain ⟨ao, cap, hu⟩ := h.isSlice
  subst hu
  simp only at h
  have q0 : (w.alloc (.cells #[.int .i64 n, .slice ao x.length cap] 29)).cell? ⟨w.heap.size, 0, none⟩ = some (.int .i64 n) := by simp
  have q1 : (w.alloc (.cells #[.int .i64 n, .slice ao x.length cap] 29)).cell? ⟨w.heap.size, 1, none⟩ = some (.slice ao x.length cap) := by simp
  cases hv : validLt (n, x)
  · go_enter Try.func19, Try.ntmps19
    go_wp2_with (go_at_call 15; refine (implValidLattice_any _ (n, x) _ (rLattice.at_alloc hR _) ok g).mono ?_; rintro e w2 ⟨rfl, hb⟩; rw [hv])
    go_ret2
    exact ⟨by simp [textN, textC, hv], (below_alloc _ _).trans (hb.mono (by simp))⟩
  obtain ⟨n1, n2, x2⟩ := valid_bd hv
  obtain ⟨m, rfl⟩ : ∃ m : Nat, n = m := ⟨n.toNat, by omega⟩
  have hr := textR_val s hv
  have hrr : textR ((m : Int), x) s = rowC s x s.size (m - 1) := by unfold textR; simp only [Int.toNat_natCast]
  obtain ⟨r, hrd⟩ : ∃ r, r = textR ((m : Int), x) s := ⟨_, rfl⟩
  rw [← hrd] at hr hrr
  rcases hr with ⟨h1, h2⟩ | ⟨h1, h2, h3⟩
  · have HF : Hid ((textN ((m : Int), x) s = 0) ∧ textC ((m : Int), x) s = 3) := by
      show _ ∧ _
      simp [textN, textC, hv, ← hrd, h1]
    rw [h1, NW_eq] at hrr
    clear h1 h2 hrd
    go_enter Try.func19, Try.ntmps19
    go_wp2_with (first | (go_at_call 15; refine (implValidLattice_any _ ((m : Int), x) _ (rLattice.at_alloc hR _) ok g).mono ?_; rintro e w2 ⟨rfl, hb⟩; rw [hv]; have s0 := cell_later hb q0; have s1 := cell_later hb q1; have hA2 := (h.alloc _).below hb) | (go_at_call 38; refine (implText_any m _ x s _ hA2 hv hs).mono ?_; rintro e w3 ⟨rfl, hb3⟩; rw [← hrr]))
    go_ret2
    exact ⟨by rw [HF.out.1, HF.out.2]; rfl, (below_alloc _ _).trans ((hb.trans (hb3.mono hb.size)).mono (by simp))⟩
  · have HF : Hid ((textN ((m : Int), x) s = r) ∧ textC ((m : Int), x) s = 0) := by
      show _ ∧ _
      simp [textN, textC, hv, ← hrd, h1]
    have hd : (r == 1099511627776) = false := by rw [beq_eq_false_iff_ne]; rw [NW_eq] at h1; omega
    have HRR := hid hrr
    clear h1 h2 hrd hrr
    go_enter Try.func19, Try.ntmps19
    go_wp2_with (first | (go_at_call 15; refine (implValidLattice_any _ ((m : Int), x) _ (rLattice.at_alloc hR _) ok g).mono ?_; rintro e w2 ⟨rfl, hb⟩; rw [hv]; have s0 := cell_later hb q0; have s1 := cell_later hb q1; have hA2 := (h.alloc _).below hb) | (go_at_call 38; refine (implText_any m _ x s _ hA2 hv hs).mono ?_; rintro e w3 ⟨rfl, hb3⟩; rw [← HRR.out]))
    go_ret2
    exact ⟨by rw [HF.out.1, HF.out.2]; rfl, (below_alloc _ _).trans ((hb.trans (hb3.mono hb.size)).mono (by simp))⟩
end Go.Proofs.Ytkgfonchklnckaa
