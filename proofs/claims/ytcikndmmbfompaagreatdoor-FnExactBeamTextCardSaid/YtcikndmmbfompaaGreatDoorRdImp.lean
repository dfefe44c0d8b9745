/- What a beam keeps, with its code: the calls of the implementation. -/
import Derived.Test.YtcikndmmbfompaaGreatDoorLtValid
import Derived.Test.YtcikndmmbfompaaGreatDoorLxCost
import Derived.Test.YtcikndmmbfompaaGreatDoorApp
import Derived.Test.YtcikndmmbfompaaGreatDoorRdBeam
import Derived.Test.YtcikndmmbfompaaGreatDoorWrReadingS
import Derived.Test.YtcikndmmbfompaaGreatDoorWrInt64S
import Derived.Test.YtcikndmmbfompaaGreatDoorRep
namespace Go.Proofs.YtcikndmmbfompaaGreatDoor
open Go.RowKit

def codeB (x : XLattice) (y : XLexicon) (k : Int) : Int := if validLt x && validLx y then (if inB k 1 30 then 0 else 2) else 1
theorem codeB_0 {x : XLattice} {y : XLexicon} {k : Int} (h : codeB x y k = 0) : validLt x = true ∧ validLx y = true ∧ 1 ≤ k ∧ k ≤ 30 := by
  unfold codeB at h
  split at h
  · rename_i h1
    rw [Bool.and_eq_true] at h1
    split at h
    · rename_i h2
      have := inB_true.1 h2
      exact ⟨h1.1, h1.2, this.1, this.2⟩
    · omega
  · omega
set_option maxHeartbeats 2000000 in
theorem l17Code_any (p1 p2 : Nat) (n : Int) (v1 v2 : Value) (x : List DEdge) (y : XLexicon) (k : Int) (w : World) (m0 : w.cell? ⟨p1, 0, none⟩ = some (.int .i64 n)) (m1 : w.cell? ⟨p1, 1, none⟩ = some v1) (m2 : w.cell? ⟨p2, 0, none⟩ = some v2) (hx : Arr eEdge w v1 x) (hy : Arr eEntry w v2 y) (okx : okLattice (n, x)) (gx : goodLattice (n, x)) (oky : okLexicon y) (gy : goodLexicon y) :
    Calls Tryz.prog 14 #[.pointer (some ⟨p1, 0, none⟩), .pointer (some ⟨p2, 0, none⟩), .int .i64 k] w (Ret (.int .i64 (codeB (n, x) y k)) w) := by
  have C1 := l15Ok_any p1 n v1 x w m0 m1 hx okx gx
  have C2 := fun w' (hb : Below w.heap.size w w') => l16Ok_any p2 v2 y w' (cell_later hb m2) (hy.below hb) oky gy
  have CI : ∀ w', Calls Tryz.prog 30 #[.int .i64 k, .int .i64 1, .int .i64 30] w' fun e w'' => e = .returned (.bool (inB k 1 30)) ∧ w' = w'' := fun w' => l00In_any _ _ _ w'
  cases h1 : validLt (n, x)
  · rw [h1] at C1
    have HZ : Hid (codeB (n, x) y k = 1) := by show _ = _; simp [codeB, h1]
    go_enter Tryz.func14, Tryz.ntmps14
    go_wp2_with (go_at_call 28; refine C1.mono ?_; rintro e w2 ⟨rfl, hb⟩)
    go_ret
    exact ret_int HZ.out.symm hb
  rw [h1] at C1
  cases h2 : validLx y
  · rw [h2] at C2
    have HZ : Hid (codeB (n, x) y k = 1) := by show _ = _; simp [codeB, h1, h2]
    go_enter Tryz.func14, Tryz.ntmps14
    go_wp2_with (first | (go_at_call 28; refine C1.mono ?_; rintro e w2 ⟨rfl, hb⟩) | (go_at_call 29; refine (C2 _ hb).mono ?_; rintro e w3 ⟨rfl, hb3⟩))
    go_ret
    exact ret_int HZ.out.symm (hb.trans (hb3.mono hb.size))
  rw [h2] at C2
  cases h3 : inB k 1 30
  all_goals
    rw [h3] at CI
    go_enter Tryz.func14, Tryz.ntmps14
    go_wp2_with (first | (go_at_call 28; refine C1.mono ?_; rintro e w2 ⟨rfl, hb⟩) | (go_at_call 29; refine (C2 _ hb).mono ?_; rintro e w3 ⟨rfl, hb3⟩) | (go_at_call 30; refine (CI _).mono ?_; rintro e w' ⟨rfl, rfl⟩))
    go_ret
    exact ret_int (by simp [codeB, h1, h2, h3]) (hb.trans (hb3.mono hb.size))
set_option maxHeartbeats 2000000 in
theorem beamable_any (v1 : Value) (x : XLattice) (v2 : Value) (y : XLexicon) (k : Int) (w : World) {lo1 hi1 lo2 hi2 : Nat} (h1 : rLattice.at_ lo1 hi1 w v1 x) (h2 : rLexicon.at_ lo2 hi2 w v2 y) (okx : okLattice x) (oky : okLexicon y) (gx : goodLattice x) (gy : goodLexicon y) :
    Calls Tryz.prog 20 #[v1, v2, .int .i64 k] w (Ret (.int .i64 (codeB x y k)) w) := by
  have a1 := h1
  have a2 := h2
  obtain ⟨u1, rfl, h1⟩ := h1
  obtain ⟨u2, rfl, h2⟩ := h2
  obtain ⟨n, x⟩ := x
  obtain ⟨W, hW⟩ : ∃ W, W = (w.alloc (.cells #[.int .i64 n, u1] 33)).alloc (.cells #[u2] 37) := ⟨_, rfl⟩
  have hbW : Below w.heap.size w W := by rw [hW]; exact (below_alloc _ _).trans ((below_alloc _ _).mono (by simp))
  have c0 : W.cell? ⟨w.heap.size, 0, none⟩ = some (.int .i64 n) := by rw [hW]; simp
  have c1 : W.cell? ⟨w.heap.size, 1, none⟩ = some u1 := by rw [hW]; simp
  have c2 : W.cell? ⟨w.heap.size + 1, 0, none⟩ = some u2 := by rw [hW]; simp
  have A1 := rLattice.at_below a1 hbW
  have A2 := rLexicon.at_below a2 hbW
  have C1 := implValidLattice_any _ (n, x) W A1 okx gx
  have C2 := fun w' (hb : Below W.heap.size W w') => implValidLexicon_any _ y w' (rLexicon.at_below A2 hb) oky gy
  have CI : ∀ w', Calls Tryz.prog 40 #[.int .i64 k, .int .i64 1, .int .i64 30] w' fun e w'' => e = .returned (.bool (inB k 1 30)) ∧ w' = w'' := fun w' => within_any _ _ _ w'
  have HW := hid hW
  have hlt := hbW.size
  clear hW
  cases h1' : validLt (n, x)
  · rw [h1'] at C1
    have HZ : Hid (codeB (n, x) y k = 1) := by show _ = _; simp [codeB, h1']
    go_enter Tryz.func20, Tryz.ntmps20
    go_wp2_with (go_at_call 38; rw [← HW.out]; refine C1.mono ?_; rintro e w2 ⟨rfl, hb⟩; have d2 := cell_later hb c2)
    go_ret
    exact ret_int HZ.out.symm (hbW.trans (hb.mono hlt))
  rw [h1'] at C1
  cases h2' : validLx y
  · rw [h2'] at C2
    have HZ : Hid (codeB (n, x) y k = 1) := by show _ = _; simp [codeB, h1', h2']
    go_enter Tryz.func20, Tryz.ntmps20
    go_wp2_with (first | (go_at_call 38; rw [← HW.out]; refine C1.mono ?_; rintro e w2 ⟨rfl, hb⟩; have d2 := cell_later hb c2) | (go_at_call 39; refine (C2 _ hb).mono ?_; rintro e w3 ⟨rfl, hb3⟩))
    go_ret
    exact ret_int HZ.out.symm (hbW.trans ((hb.trans (hb3.mono hb.size)).mono hlt))
  rw [h2'] at C2
  cases h3 : inB k 1 30
  all_goals
    rw [h3] at CI
    go_enter Tryz.func20, Tryz.ntmps20
    go_wp2_with (first | (go_at_call 38; rw [← HW.out]; refine C1.mono ?_; rintro e w2 ⟨rfl, hb⟩; have d2 := cell_later hb c2) | (go_at_call 39; refine (C2 _ hb).mono ?_; rintro e w3 ⟨rfl, hb3⟩) | (go_at_call 40; refine (CI _).mono ?_; rintro e w' ⟨rfl, rfl⟩))
    go_ret
    exact ret_int (by simp [codeB, h1', h2', h3]) (hbW.trans ((hb.trans (hb3.mono hb.size)).mono hlt))
end Go.Proofs.YtcikndmmbfompaaGreatDoor
namespace Go.Proofs.YtcikndmmbfompaaGreatDoor
open Go.RowKit Go.Sort
attribute [local go_sem ↓] Go.wp_at_zero Go.wp_at_succ

theorem infI64 : (Tryz.prog.info? 2).map (fun i => (i.zero, i.size, i.bytes)) = some (some (.int .i64 0), eI.sz, 8) := by kernel_rfl
def stB (x : XLattice) (y : XLexicon) (m : Nat) : SR := statesR m (begLx y) (beg0 y) x.2
def bsL (x : XLattice) (y : XLexicon) (k v : Int) : List DReading := if codeB x y k = 0 ∧ inB v 0 (x.1 - 1) = true then stB x y k.toNat v.toNat else []
def bsC (x : XLattice) (y : XLexicon) (k v : Int) : Int := if codeB x y k = 0 then (if inB v 0 (x.1 - 1) then 0 else 2) else codeB x y k
def bzL (x : XLattice) (y : XLexicon) (k : Int) : List Int := if codeB x y k = 0 then (List.range x.1.toNat).map fun v => ((stB x y k.toNat v).length : Int) else []
theorem stB_ok {n : Nat} {x : List DEdge} {y : XLexicon} {m : Nat} (hv : validLt ((n : Int), x) = true) (hm : 1 ≤ m) (v : Nat) : (stB ((n : Int), x) y m v).length ≤ m := by
  unfold stB
  rcases Nat.eq_zero_or_pos v with h | h
  · subst h
    rw [states_zero (valid_good hv) (valid_rises hv)]
    unfold beg0
    split
    · simpa using hm
    · simp
  · rw [states_pos (valid_good hv) (valid_rises hv) _ _ _ h]
    exact topR_len _ _
theorem okBs {x : XLattice} {y : XLexicon} {k v : Int} : okReadingS (bsL x y k v) := by
  unfold bsL okReadingS
  split
  · rename_i h
    obtain ⟨n, x⟩ := x
    obtain ⟨h1, _, h3, h4⟩ := codeB_0 h.1
    obtain ⟨b1, b2, b3⟩ := valid_bd h1
    obtain ⟨m, rfl⟩ : ∃ m : Nat, n = m := ⟨n.toNat, by omega⟩
    have := stB_ok (y := y) (m := k.toNat) h1 (by omega) v.toNat
    omega
  · simp
theorem okBz {x : XLattice} {y : XLexicon} {k : Int} : okInt64S (bzL x y k) := by
  unfold bzL okInt64S
  split
  · rename_i h
    obtain ⟨n, x⟩ := x
    obtain ⟨h1, _, h3, h4⟩ := codeB_0 h
    obtain ⟨b1, b2, b3⟩ := valid_bd h1
    simp; omega
  · simp
end Go.Proofs.YtcikndmmbfompaaGreatDoor
