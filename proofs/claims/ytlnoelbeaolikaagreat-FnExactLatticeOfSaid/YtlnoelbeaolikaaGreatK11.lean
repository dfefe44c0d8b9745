/- slices.reverseRangeOrdered, partialInsertionSortOrdered (of few elements), order2Ordered, medianOrdered, choosePivotOrdered at int64. -/
import Derived.Test.YtlnoelbeaolikaaGreatK10
import Derived.Deep.CutBlock
import Derived.Deep.DeepCutAuto
import Derived.Shelf.Small.Bits
import Derived.Shelf.Strconv.Itoa0
import Derived.Shelf.Strings.Search1
import Derived.Shelf.Strings.Search2
import Derived.Shelf.Strings.Search3
import Derived.Shelf.LaysM
import Derived.Shelf.Strings.Shaped
import Derived.Ground.SlgnProg
import Derived.Shelf.SlicesG.SearchI
import Derived.Ground.SlgcProg
import Derived.Shelf.SlicesG.Cmp
import Derived.Test.YtlnoelbeaolikaaGreatProg
import Derived.WalkSmall
namespace Go.Proofs.YtlnoelbeaolikaaGreat
open Go.RowKit
set_option maxRecDepth 100000 in
set_option maxHeartbeats 4000000 in
theorem reverseI_any (g o cap a b : Nat) (d : List Int) (w : World) (h : HoldI w g o d) (hab : a < b) (hb : b ≤ d.length) (hd : d.length ≤ 1000000) :
  Calls Tryz.prog 169 #[.slice (some ⟨g, o, none⟩) d.length cap, .int .i64 a, .int .i64 b] w (fun e w' => e = .returned (.tuple #[]) ∧ ∃ d', HoldI w' g o d' ∧ POn a b d d' ∧ Fr g w w') := by
 have HH := hid h
 clear h
 go_enter Tryz.func169, Tryz.ntmps169
 go_wp2_with fail
 go_loopw [6, 7] (fun vi vj wr => ∃ (i j : Nat) (dk : List Int), vi = .int .i64 i ∧ vj = .int .i64 j ∧ a ≤ i ∧ j < b ∧ i ≤ j + 1 ∧ HoldI wr g o dk ∧ POn a b d dk ∧ Fr g w wr) (fun vi vj _ => (intOf vj).toNat + 1 - (intOf vi).toNat)
 case atStart => exact ⟨a, b - 1, d, rfl, by congr 1; omega, Nat.le_refl _, by omega, by omega, HH.out, POn.refl _ _ _, Chg.refl _ _ _⟩
 case round =>
  clear HH
  obtain ⟨i, j, dk, rfl, rfl, hai, hjb, hij, hH, hP, hF⟩ := hrel
  by_cases hlt : i < j
  ·have hli : (i : Int) < (j : Int) := by omega
   have hdl := hP.len
   have sI : i < dk.length := by omega
   have sJ : j < dk.length := by omega
   have tI : i < d.length := by omega
   have tJ : j < d.length := by omega
   have s0 := hH.cell i sI
   have s1 := hH.cell j sJ
   have s2 := (hH.set sI (gI dk j)).cell j (by rw [List.length_set]; exact sJ)
   have s3 := hH.free (o + i)
   have s4 := (hH.set sI (gI dk j)).free (o + j)
   have s5 := hH.free (o + j)
   have HH := hid hH
   have HP := hid hP
   have HF := hid hF
   clear hH hP hF hdl
   go_upto_region 3 with fail
   go_cut [6] from 11 to 31 (fun v wx => v = .int .i64 i ∧ HoldI wx g o (swL dk i j) ∧ Fr g w wx)
   case first =>
    go_region
    all_goals go_wp2_with fail
    go_meet
    exact ⟨rfl, (HH.out.drewN _).sw sI sJ, Fr.sw (Fr.drewN HF.out _) _ _ _ _⟩
   case rest =>
   obtain ⟨h8, hH, hF⟩ := hcut
   subst h8
   clear s0 s1 s2 s3 s4 s5
   go_wp2_with fail
   go_roundw
   case rel => exact ⟨i + 1, j - 1, swL dk i j, by go_num, by congr 1; omega, by omega, by omega, by omega, hH, HP.out.trans (POn.sw (by have := HP.out.len; omega) hai (by omega) (by omega) hjb), hF⟩
   case measure => simp [intOf]; omega
  ·have hli : ¬ ((i : Int) < (j : Int)) := by omega
   go_wp2_with fail
   go_end0
   exact ⟨rfl, dk, hH, hP, hF⟩
set_option maxRecDepth 100000 in
set_option maxHeartbeats 4000000 in
theorem partialI_any (g o cap a b : Nat) (d : List Int) (w : World) (h : HoldI w g o d) (hab : a < b) (hb : b ≤ d.length) (hd : d.length ≤ 1000000) (hs : b - a < 50) :
  Calls Tryz.prog 170 #[.slice (some ⟨g, o, none⟩) d.length cap, .int .i64 a, .int .i64 b] w (fun e w' => ∃ c, e = .returned (.bool c) ∧ (c = true → SortOn a b d) ∧ HoldI w' g o d ∧ Fr g w w') := by
 have HH := hid h
 clear h
 have hs50 : (b : Int) - (a : Int) < 50 := by omega
 go_enter Tryz.func170, Tryz.ntmps170
 go_wp2_with fail
 go_loopw [7, 8] (fun vi vj wr => vi = .int .i64 ((a : Int) + 1) ∧ vj = .int .i64 0 ∧ wr = w) (fun _ _ _ => 0)
 case atStart => exact ⟨rfl, rfl, rfl⟩
 case round =>
  obtain ⟨rfl, rfl, rfl⟩ := hrel
  go_wp2_with fail
  obtain ⟨wo, rfl⟩ : ∃ x, x = wr := ⟨wr, rfl⟩
  go_loopw [7] (fun vi wr => ∃ k : Nat, vi = .int .i64 k ∧ a < k ∧ k ≤ b ∧ SortOn a k d ∧ HoldI wr g o d ∧ Fr g wo wr) (fun vi _ => b - (intOf vi).toNat)
  case atStart => exact ⟨a + 1, by go_num, by omega, by omega, SortOn.short _ (Nat.le_refl _), HH.out, Chg.refl _ _ _⟩
  case round =>
   obtain ⟨k, rfl, hak, hkb, hS, hH, hF⟩ := hrel
   by_cases hlt : k < b
   ·have c0 := hH.cell k (by omega)
    have c1 := hH.cell (k - 1) (by omega)
    have hkd : k < d.length := by omega
    have hk1 : k - 1 < d.length := by omega
    obtain ⟨x, hx⟩ : ∃ x, x = gI d k := ⟨_, rfl⟩
    obtain ⟨y, hy⟩ : ∃ x, x = gI d (k - 1) := ⟨_, rfl⟩
    rw [← hx] at c0
    rw [← hy] at c1
    have HX := hid hx
    have HY := hid hy
    have HS := hid hS
    have hw : IntKind.i64.wrap ((k : Int) - 1) = ((k - 1 : Nat) : Int) := by rw [IntWalk.i64_in _ (by omega)]; omega
    have hli : (k : Int) < (b : Int) := by omega
    have hne : ((k : Int) == (b : Int)) = false := by rw [beq_eq_false_iff_ne]; omega
    clear hx hy hS
    go_wp2_with fail
    go_quiet (first | (go_at_call 171; refine Calls.quiet_of_same ((lessI_any _ _ _).mono fun _ _ h => ⟨h.1, h.2.symm⟩)))
    go_wp2_with fail
    ·have hxy : y ≤ x := by first | assumption | omega | (rename_i hq; simpa using hq)
     go_roundw
     case rel =>
      refine ⟨k + 1, by go_num, by omega, by omega, ?_, hH.drewN _, hF.drewN _⟩
      intro p q h1 h2 h3
      by_cases e : q = k
      ·subst e
       by_cases e2 : p = q - 1
       ·rw [e2, ← HX.out, ← HY.out]; exact hxy
       ·have := HS.out p (q - 1) h1 (by omega) (by omega)
        rw [← HY.out] at this
        rw [← HX.out]; omega
      ·exact HS.out p q h1 h2 (by omega)
     case measure => simp [intOf]; omega
    ·go_wp2_with fail
     go_ret
     exact ⟨false, rfl, fun h => (by cases h), hH.drewN _, hF.drewN _⟩
   ·obtain rfl : k = b := by omega
    have hli : decide ((k : Int) < (k : Int)) = false := by simp
    have hne : ((k : Int) == (k : Int)) = true := by simp
    go_wp2_with fail
    go_quiet (first | (go_at_call 171; refine Calls.quiet_of_same ((lessI_any _ _ _).mono fun _ _ h => ⟨h.1, h.2.symm⟩)))
    go_wp2_with fail
    go_ret
    exact ⟨true, rfl, fun _ => hS, hH.drewN _, hF.drewN _⟩
/-- a cell of its own that counts -/
def CntAt (w : World) (s : Nat) : Prop := ∃ n T, Box w s #[.int .i64 n] T
set_option maxRecDepth 100000 in
set_option maxHeartbeats 4000000 in
theorem order2I_any (g o cap a b s : Nat) (d : List Int) (w : World) (h : HoldI w g o d) (ha : a < d.length) (hb : b < d.length) (hs : CntAt w s) (_ : s ≠ g) :
  Calls Tryz.prog 223 #[.slice (some ⟨g, o, none⟩) d.length cap, .int .i64 a, .int .i64 b, .pointer (some ⟨s, 0, none⟩)] w (fun e w' => ∃ p q : Nat, e = .returned (.tuple #[.int .i64 p, .int .i64 q]) ∧ (p = a ∨ p = b) ∧ (q = a ∨ q = b) ∧ CntAt w' s ∧ Chg s (s + 1) w w') := by
 obtain ⟨n, T, hs⟩ := hs
 have c0 := h.cell a ha
 have c1 := h.cell b hb
 have k0 := hs.cell (j := 0) rfl
 have kf := hs.free
 obtain ⟨x, hx⟩ : ∃ x, x = gI d a := ⟨_, rfl⟩
 obtain ⟨y, hy⟩ : ∃ x, x = gI d b := ⟨_, rfl⟩
 rw [← hx] at c0
 rw [← hy] at c1
 clear hx hy
 go_enter Tryz.func223, Tryz.ntmps223
 go_wp2_with fail
 go_quiet (first | (go_at_call 171; refine Calls.quiet_of_same ((lessI_any _ _ _).mono fun _ _ h => ⟨h.1, h.2.symm⟩)))
 go_wp2_with fail
 ·go_ret2
  exact ⟨b, a, rfl, .inr rfl, .inl rfl, ⟨_, T, Box.set (w := w.drewN nq) hs 0 _⟩, (show Chg s (s + 1) w (w.drewN nq) from ⟨rfl, rfl, rfl, Nat.le_refl _, fun _ _ _ => rfl⟩).trans (chg_set _ s 0 _)⟩
 ·go_ret2
  exact ⟨a, b, rfl, .inl rfl, .inr rfl, ⟨n, T, hs⟩, ⟨rfl, rfl, rfl, Nat.le_refl _, fun _ _ _ => rfl⟩⟩
theorem CntAt.hold {w w' : World} {g o s : Nat} {d : List Int} (h : HoldI w g o d) (hc : Chg s (s + 1) w w') (hne : s ≠ g) : HoldI w' g o d := by
 obtain ⟨cs, T, h1, h2⟩ := h
 refine ⟨cs, T, ?_, h2⟩
 unfold Box at *
 rw [hc.block g (Array.getElem?_eq_some_iff.1 h1).1 (by omega)]
 exact h1
set_option maxRecDepth 100000 in
set_option maxHeartbeats 4000000 in
theorem medianI_any (g o cap a b c s : Nat) (d : List Int) (w : World) (h : HoldI w g o d) (ha : a < d.length) (hb : b < d.length) (hc : c < d.length) (hs : CntAt w s) (hne : s ≠ g) :
  Calls Tryz.prog 209 #[.slice (some ⟨g, o, none⟩) d.length cap, .int .i64 a, .int .i64 b, .int .i64 c, .pointer (some ⟨s, 0, none⟩)] w (fun e w' => ∃ p : Nat, e = .returned (.int .i64 p) ∧ (p = a ∨ p = b ∨ p = c) ∧ CntAt w' s ∧ Chg s (s + 1) w w') := by
 have HH := hid h
 have HS := hid hs
 clear h hs
 go_enter Tryz.func209, Tryz.ntmps209
 go_wp2_with fail
 refine (order2I_any g o cap a b s d w HH.out ha hb HS.out hne).mono ?_
 rintro e w1 ⟨p1, q1, rfl, hp1, hq1, hs1, hF1⟩
 have lp1 : p1 < d.length := by omega
 have lq1 : q1 < d.length := by omega
 have HH1 := hid (CntAt.hold HH.out hF1 hne)
 have HS1 := hid hs1
 have HF1 := hid hF1
 clear hs1 hF1
 go_wp2_with fail
 refine (order2I_any g o cap q1 c s d w1 HH1.out lq1 hc HS1.out hne).mono ?_
 rintro e w2 ⟨p2, q2, rfl, hp2, hq2, hs2, hF2⟩
 have lp2 : p2 < d.length := by omega
 have HH2 := hid (CntAt.hold HH1.out hF2 hne)
 have HS2 := hid hs2
 have HF2 := hid hF2
 clear hs2 hF2
 go_wp2_with fail
 refine (order2I_any g o cap p1 p2 s d w2 HH2.out lp1 lp2 HS2.out hne).mono ?_
 rintro e w3 ⟨p3, q3, rfl, hp3, hq3, hs3, hF3⟩
 go_wp2_with fail
 go_ret
 exact ⟨q3, rfl, by omega, hs3, (HF1.out.trans HF2.out).trans hF3⟩
end Go.Proofs.YtlnoelbeaolikaaGreat
namespace Go.Proofs.YtlnoelbeaolikaaGreat
open Go.RowKit
set_option maxRecDepth 100000 in
set_option maxHeartbeats 4000000 in
theorem pivotI_any (g o cap a b : Nat) (d : List Int) (w : World) (h : HoldI w g o d) (hab : a + 8 ≤ b) (hb : b ≤ d.length) (hd : d.length ≤ 1000000) (hs : b - a < 50) :
  Calls Tryz.prog 168 #[.slice (some ⟨g, o, none⟩) d.length cap, .int .i64 a, .int .i64 b] w (fun e w' => ∃ (p : Nat) (hint : Int), e = .returned (.tuple #[.int .i64 p, .int .i64 hint]) ∧ a ≤ p ∧ p < b ∧ (hint = 0 ∨ hint = 1 ∨ hint = 2) ∧ HoldI w' g o d ∧ Fr g w w') := by
 obtain ⟨K, hK⟩ : ∃ K, K = (b - a) / 4 := ⟨_, rfl⟩
 have hK1 : 2 ≤ K := by omega
 have hK2 : K * 4 ≤ b - a := by omega
 have hq : ((b : Int) - (a : Int)).tdiv 4 = (K : Int) := by
  have e1 : (b : Int) - (a : Int) = ((b - a : Nat) : Int) := by omega
  rw [e1, Int.tdiv_eq_ediv_of_nonneg (by omega)]
  omega
 have h8 : 8 ≤ (b : Int) - (a : Int) := by omega
 have h50 : (b : Int) - (a : Int) < 50 := by omega
 obtain ⟨w1, hw1⟩ : ∃ u, u = w.alloc (.cells #[.int .i64 0] 3) := ⟨_, rfl⟩
 obtain ⟨s, hs'⟩ : ∃ s, s = w.heap.size := ⟨_, rfl⟩
 have hgs : s ≠ g := by have := h.lt; omega
 have hF1 : Fr g w w1 := by rw [hw1]; exact Chg.of_below (below_alloc _ _)
 have hH1 : HoldI w1 g o d := by rw [hw1]; exact CntAt.hold (s := s) h (Chg.of_below (below_alloc _ _)) hgs
 have hS1 : CntAt w1 s := by rw [hw1, hs']; exact ⟨0, 3, Box.new _ _ _⟩
 have CM := medianI_any g o cap (a + K) (a + K * 2) (a + K * 3) s d w1 hH1 (by omega) (by omega) (by omega) hS1 hgs
 have ec1 : ((a + K : Nat) : Int) = (a : Int) + (K : Int) := by omega
 have ec2 : ((a + K * 2 : Nat) : Int) = (a : Int) + (K : Int) * 2 := by omega
 have ec3 : ((a + K * 3 : Nat) : Int) = (a : Int) + (K : Int) * 3 := by omega
 rw [ec1, ec2, ec3] at CM
 have HF1 := hid hF1
 have HH1 := hid hH1
 have HW1 := hid hw1
 have HS' := hid hs'
 clear hK ec1 ec2 ec3 hF1 hH1 hS1 hw1 hs' h
 go_enter Tryz.func168, Tryz.ntmps168
 go_upto_region 3 with fail
 rw [← HS'.out, ← HW1.out]
 go_wp2_with fail
 refine CM.mono ?_
 rintro e w2 ⟨p, rfl, hp, ⟨n, T, hs2⟩, hF2⟩
 have k0 := hs2.cell (j := 0) rfl
 have HH2 := CntAt.hold HH1.out hF2 hgs
 have hF3 : Fr g w w2 := ⟨hF2.os.trans HF1.out.os, hF2.tape.trans HF1.out.tape, hF2.output.trans HF1.out.output, Nat.le_trans HF1.out.size hF2.size, fun k hk hj => by
  have hsw := HS'.out
  rw [hF2.block k (Nat.lt_of_lt_of_le hk HF1.out.size) (by omega)]
  exact HF1.out.block k hk hj⟩
 have HF3 := hid hF3
 have HH3 := hid HH2
 clear hF2 hF3 HH2 CM
 go_wp2_with fail
 all_goals
  go_ret2
  first
   | exact ⟨p, 1, rfl, by omega, by omega, by omega, HH3.out, HF3.out⟩
   | exact ⟨p, 2, rfl, by omega, by omega, by omega, HH3.out, HF3.out⟩
   | exact ⟨p, 0, rfl, by omega, by omega, by omega, HH3.out, HF3.out⟩
end Go.Proofs.YtlnoelbeaolikaaGreat
namespace Go.Proofs
open Go.Shelf
def Tryz.lays125_ren : Go.Shelf.Ren := ⟨fun | 125 => 83 | 128 => 132 | 129 => 133 | n => n, fun | 46 => 145 | 3 => 3 | 51 => 195 | 53 => 197 | 4 => 4 | 5 => 5 | 9 => 9 | n => n, fun | n => n⟩
theorem Tryz.lays125 : Go.Proofs.Lays.n125 Tryz.prog Tryz.lays125_ren := {
 mixed := by kernel_rfl
 f125 := Tryz.func83.trans (congrArg some (by kernel_rfl))
 f128 := Tryz.func132.trans (congrArg some (by kernel_rfl))
 f129 := Tryz.func133.trans (congrArg some (by kernel_rfl))
 t3 := Tryz.underlying3
 a3 := Tryz.isAgg3
 z3 := Tryz.sizeOf3
 v3 := Tryz.zeroValue3
 t4 := Tryz.underlying4
 a4 := Tryz.isAgg4
 z4 := Tryz.sizeOf4
 v4 := Tryz.zeroValue4
 t5 := Tryz.underlying5
 a5 := Tryz.isAgg5
 z5 := Tryz.sizeOf5
 v5 := Tryz.zeroValue5
 t9 := Tryz.underlying9
 a9 := Tryz.isAgg9
 z9 := Tryz.sizeOf9
 v9 := Tryz.zeroValue9
 t46 := Tryz.underlying145
 a46 := Tryz.isAgg145
 z46 := Tryz.sizeOf145
 v46 := Tryz.zeroValue145
 t51 := Tryz.underlying195
 a51 := Tryz.isAgg195
 z51 := Tryz.sizeOf195
 v51 := Tryz.zeroValue195
 t53 := Tryz.underlying197
 a53 := Tryz.isAgg197
 z53 := Tryz.sizeOf197
 v53 := Tryz.zeroValue197 }
/-- bits.Len: "Len returns the minimum number of bits required to represent x; the result is 0 for x == 0.": IT RETURNS 'Lib.bitLen x'; the world is as it was. (A uint has 64 bits in the model.) ITS CALLEE bits.Len64 IS MET BY ITS OWN CONTRACT OFF THE SHELF (lay that first). (LAID: no walk: one application.) -/
theorem Tryz.bits_Len (x : Int) (w : World) (h0 : 0 ≤ x) (h1 : x ≤ 18446744073709551615) :
  Calls Tryz.prog 83 #[.int .u64 x] w fun e w' => e = .returned (.int .i64 (Lib.bitLen x.toNat)) ∧ w' = w := Any.bits_Len Tryz.lays125 x w h0 h1
def Tryz.lays129_ren : Go.Shelf.Ren := ⟨fun | 129 => 133 | n => n, fun | 53 => 197 | 3 => 3 | 4 => 4 | 46 => 145 | 5 => 5 | 9 => 9 | n => n, fun | n => n⟩
theorem Tryz.lays129 : Go.Proofs.Lays.n129 Tryz.prog Tryz.lays129_ren := {
 mixed := by kernel_rfl
 f129 := Tryz.func133.trans (congrArg some (by kernel_rfl))
 t3 := Tryz.underlying3
 a3 := Tryz.isAgg3
 z3 := Tryz.sizeOf3
 v3 := Tryz.zeroValue3
 t4 := Tryz.underlying4
 a4 := Tryz.isAgg4
 z4 := Tryz.sizeOf4
 v4 := Tryz.zeroValue4
 t5 := Tryz.underlying5
 a5 := Tryz.isAgg5
 z5 := Tryz.sizeOf5
 v5 := Tryz.zeroValue5
 t9 := Tryz.underlying9
 a9 := Tryz.isAgg9
 z9 := Tryz.sizeOf9
 v9 := Tryz.zeroValue9
 t46 := Tryz.underlying145
 a46 := Tryz.isAgg145
 z46 := Tryz.sizeOf145
 v46 := Tryz.zeroValue145
 t53 := Tryz.underlying197
 a53 := Tryz.isAgg197
 z53 := Tryz.sizeOf197
 v53 := Tryz.zeroValue197 }
/-- bits.Len64: "Len64 returns the minimum number of bits required to represent x; the result is 0 for x == 0.": IT RETURNS 'Lib.bitLen x'; the world is as it was. ('h0', 'h1': x is a uint64.) (LAID: no walk: one application.) -/
theorem Tryz.bits_Len64 (x : Int) (w : World) (h0 : 0 ≤ x) (h1 : x ≤ 18446744073709551615) :
  Calls Tryz.prog 133 #[.int .u64 x] w fun e w' => e = .returned (.int .i64 (Lib.bitLen x.toNat)) ∧ w' = w := Any.bits_Len64 Tryz.lays129 x w h0 h1
end Go.Proofs
namespace Go.Proofs.YtlnoelbeaolikaaGreat
open Go.RowKit
set_option maxRecDepth 100000 in
set_option maxHeartbeats 4000000 in
theorem nextPow_any (n : Nat) (w : World) (h1 : 8 ≤ n) (h2 : n ≤ 16) : Calls Tryz.prog 175 #[.int .i64 n] w fun e w' => e = .returned (.int .u64 (if n = 16 then 32 else 16)) ∧ w' = w := by
 have hn : n = 8 ∨ n = 9 ∨ n = 10 ∨ n = 11 ∨ n = 12 ∨ n = 13 ∨ n = 14 ∨ n = 15 ∨ n = 16 := by omega
 rcases hn with rfl | rfl | rfl | rfl | rfl | rfl | rfl | rfl | rfl
 all_goals
  have CB := fun (x : Int) (h0 : 0 ≤ x) (h1 : x ≤ 18446744073709551615) => Tryz.bits_Len x w h0 h1
  go_enter Tryz.func175, Tryz.ntmps175
  go_wp2_with fail
  refine (CB _ (by omega) (by omega)).mono ?_
  rintro e w' ⟨rfl, rfl⟩
  go_wp2_with fail
  go_ret
  exact ⟨congrArg (fun z => Ending.returned (Value.int .u64 z)) (by decide +kernel), rfl⟩
/-- the cell of the generator -/
def GenAt (w : World) (s : Nat) : Prop := ∃ r T, Box w s #[.int .u64 r] T ∧ 0 ≤ r ∧ r ≤ 18446744073709551615
theorem GenAt.drewN {w : World} {s : Nat} (h : GenAt w s) (n : Nat) : GenAt (w.drewN n) s := h
theorem bitsX (r : Int) (M : Nat) (h0 : 0 ≤ r) (h1 : r ≤ 18446744073709551615) (hM : M ≤ 1000) : ∃ q : Nat, bits BinOp.and IntKind.u64 r (M : Int) = (q : Int) ∧ q ≤ M := by
 have h := bits_and_u64_nat r.toNat M (by omega) (by omega)
 rw [Int.toNat_of_nonneg h0] at h
 exact ⟨_, h, Nat.and_le_right⟩
theorem bits_rng (a b : Int) : 0 ≤ bits BinOp.xor IntKind.u64 a b ∧ bits BinOp.xor IntKind.u64 a b ≤ 18446744073709551615 := by
 show 0 ≤ IntKind.u64.wrap _ ∧ IntKind.u64.wrap _ ≤ _
 rw [IntKind.wrap_u64]
 omega
set_option maxRecDepth 100000 in
set_option maxHeartbeats 4000000 in
theorem next_any (s : Nat) (w : World) (h : GenAt w s) : Calls Tryz.prog 176 #[.pointer (some ⟨s, 0, none⟩)] w fun e w' => ∃ r : Int, e = .returned (.int .u64 r) ∧ 0 ≤ r ∧ r ≤ 18446744073709551615 ∧ GenAt w' s ∧ Chg s (s + 1) w w' := by
 have h0 := h
 have HC0 : Hid (Chg s (s + 1) w w) := hid (Chg.refl _ _ _)
 clear h
 obtain ⟨r0, T0, hb0, _, _⟩ := h0
 have k0 := hb0.cell (j := 0) rfl
 have f0 := hb0.free
 go_enter Tryz.func176, Tryz.ntmps176
 go_upto_region 1 with fail
 go_cut [2] from 3 to 32 (fun v wx => v = .int .u64 0 ∧ GenAt wx s ∧ Chg s (s + 1) w wx)
 case first =>
  go_region
  all_goals go_wp2_with fail
  go_meet
  exact ⟨rfl, ⟨_, T0, Box.set hb0 0 _, (bits_rng _ _).1, (bits_rng _ _).2⟩, (HC0.out.trans (chg_set _ s 0 _)).trans ⟨rfl, rfl, rfl, Nat.le_refl _, fun _ _ _ => rfl⟩⟩
 case rest =>
 obtain ⟨hv, hg1, hc1⟩ := hcut
 subst hv
 have HC1 := hid hc1
 have HG1 := hid hg1
 clear k0 f0 hc1
 obtain ⟨r1, T1, hb1, hl1, hu1⟩ := hg1
 have k1 := hb1.cell (j := 0) rfl
 have f1 := hb1.free
 go_upto_region 2 with fail
 go_cut [2] from 3 to 32 (fun v wx => v = .int .u64 0 ∧ GenAt wx s ∧ Chg s (s + 1) w wx)
 case first =>
  go_region
  all_goals go_wp2_with fail
  go_meet
  exact ⟨rfl, ⟨_, T1, Box.set hb1 0 _, (bits_rng _ _).1, (bits_rng _ _).2⟩, (HC1.out.trans (chg_set _ s 0 _)).trans ⟨rfl, rfl, rfl, Nat.le_refl _, fun _ _ _ => rfl⟩⟩
 case rest =>
 obtain ⟨hv, hg2, hc2⟩ := hcut
 subst hv
 have HC2 := hid hc2
 have HG2 := hid hg2
 clear k1 f1 hc2
 obtain ⟨r2, T2, hb2, hl2, hu2⟩ := hg2
 have k2 := hb2.cell (j := 0) rfl
 have f2 := hb2.free
 go_upto_region 3 with fail
 go_cut [2] from 3 to 32 (fun v wx => v = .int .u64 0 ∧ GenAt wx s ∧ Chg s (s + 1) w wx)
 case first =>
  go_region
  all_goals go_wp2_with fail
  go_meet
  exact ⟨rfl, ⟨_, T2, Box.set hb2 0 _, (bits_rng _ _).1, (bits_rng _ _).2⟩, (HC2.out.trans (chg_set _ s 0 _)).trans ⟨rfl, rfl, rfl, Nat.le_refl _, fun _ _ _ => rfl⟩⟩
 case rest =>
 obtain ⟨hv, hg3, hc3⟩ := hcut
 subst hv
 have HC3 := hid hc3
 have HG3 := hid hg3
 clear k2 f2 hc3
 obtain ⟨r3, T3, hb3, hl3, hu3⟩ := hg3
 have k3 := hb3.cell (j := 0) rfl
 have f3 := hb3.free
 go_wp2_with fail
 go_ret
 exact ⟨r3, rfl, hl3, hu3, HG3.out, HC3.out⟩
theorem HoldI.off {w w' : World} {g o s : Nat} {d : List Int} (h : HoldI w g o d) (hc : Chg s (s + 1) w w') (hne : s ≠ g) : HoldI w' g o d := CntAt.hold h hc hne
theorem GenAt.off {w w' : World} {g s : Nat} (h : GenAt w s) (hc : Chg g (g + 1) w w') (hne : s ≠ g) : GenAt w' s := by
 obtain ⟨r, T, h1, h2⟩ := h
 refine ⟨r, T, ?_, h2⟩
 unfold Box at *
 rw [hc.block s (Array.getElem?_eq_some_iff.1 h1).1 (by omega)]
 exact h1
set_option maxRecDepth 100000 in
set_option maxHeartbeats 8000000 in
theorem breakI_any (g o cap a b : Nat) (d : List Int) (w : World) (h : HoldI w g o d) (hab : a + 13 ≤ b) (hb : b ≤ d.length) (hd : d.length ≤ 1000000) (hs : b - a ≤ 16) :
  Calls Tryz.prog 167 #[.slice (some ⟨g, o, none⟩) d.length cap, .int .i64 a, .int .i64 b] w (fun e w' => e = .returned (.tuple #[]) ∧ ∃ d', HoldI w' g o d' ∧ POn a b d d' ∧ Fr g w w') := by
 obtain ⟨L, hL⟩ : ∃ L, L = b - a := ⟨_, rfl⟩
 obtain ⟨K, hK⟩ : ∃ K, K = L / 4 := ⟨_, rfl⟩
 have hLi : (b : Int) - (a : Int) = (L : Int) := by omega
 have hLw : IntKind.i64.wrap ((b : Int) - (a : Int)) = (L : Int) := by rw [IntWalk.i64_in _ (by omega)]; exact hLi
 have hq : (L : Int).tdiv 4 = (K : Int) := by rw [Int.tdiv_eq_ediv_of_nonneg (by omega)]; omega
 have hL8 : (8 : Int) ≤ (L : Int) := by omega
 have hK3 : 3 ≤ K := by omega
 have hK4 : K ≤ 4 := by omega
 obtain ⟨M, hM⟩ : ∃ M : Int, M = if L = 16 then 32 else 16 := ⟨_, rfl⟩
 have CP := fun w' => nextPow_any L w' (by omega) (by omega)
 rw [← hM] at CP
 obtain ⟨m, hm⟩ : ∃ m : Nat, M - 1 = (m : Int) ∧ m ≤ 2 * L - 1 := by
  by_cases e : L = 16
  ·rw [if_pos e] at hM; exact ⟨31, by omega, by omega⟩
  ·rw [if_neg e] at hM; exact ⟨15, by omega, by omega⟩
 have hM1 : 0 ≤ M ∧ M ≤ 100 := by split at hM <;> omega
 have HMM := hid hM
 clear hM
 obtain ⟨w1, hw1⟩ : ∃ u, u = w.alloc (.cells #[.int .u64 (L : Int)] 231) := ⟨_, rfl⟩
 obtain ⟨s, hs'⟩ : ∃ s, s = w.heap.size := ⟨_, rfl⟩
 have hgs : s ≠ g := by have := h.lt; omega
 have hF1 : Fr g w w1 := by rw [hw1]; exact Chg.of_below (below_alloc _ _)
 have hH1 : HoldI w1 g o d := by rw [hw1]; exact CntAt.hold (s := s) h (Chg.of_below (below_alloc _ _)) hgs
 have hS1 : GenAt w1 s := by rw [hw1, hs']; exact ⟨L, _, Box.new _ _ _, by omega, by omega⟩
 have hsz1 : s < w1.heap.size := by rw [hw1, hs']; simp
 have HF1 := hid hF1
 have HH1 := hid hH1
 have HS1 := hid hS1
 have HW1 := hid hw1
 have HS' := hid hs'
 have hL1 : a + L ≤ b := by omega
 have hL2 : b ≤ a + L := by omega
 have hK1 : K * 4 ≤ L := by omega
 have hL16 : L ≤ 16 := by omega
 clear hF1 hH1 hS1 hw1 hs' h hL hK hs hab
 go_enter Tryz.func167, Tryz.ntmps167
 go_upto_region 3 with fail
 rw [← HS'.out, ← HW1.out]
 go_wp2_with fail
 refine (CP w1).mono ?_
 rintro e w2 ⟨rfl, rfl⟩
 go_wp2_with fail
 go_loopw [9] (fun vi wr => ∃ (k : Nat) (dk : List Int), vi = .int .i64 k ∧ a + K * 2 ≤ k + 1 ∧ k ≤ a + K * 2 + 2 ∧ HoldI wr g o dk ∧ POn a b d dk ∧ GenAt wr s ∧ Fr g w wr) (fun vi _ => a + K * 2 + 2 - (intOf vi).toNat)
 case atStart => exact ⟨a + K * 2 - 1, d, by congr 1; omega, by omega, by omega, HH1.out, POn.refl _ _ _, HS1.out, HF1.out⟩
 case round =>
  obtain ⟨k, dk, rfl, hk1, hk2, hH, hP, hG, hF⟩ := hrel
  by_cases hlt : k ≤ a + K * 2 + 1
  ·have hli : (k : Int) ≤ (a : Int) + (K : Int) * 2 + 1 := by omega
   have CN := next_any s wr hG
   have HH := hid hH
   have HP := hid hP
   have HF := hid hF
   clear hH hP hG hF
   go_wp2_with fail
   refine CN.mono ?_
   rintro e w3 ⟨r, rfl, hr0, hr1, hG3, hc3⟩
   obtain ⟨x, hx, hxm⟩ := bitsX r m hr0 hr1 (by omega)
   have hmc := hm.1
   have HG3 := hid hG3
   have HC3 := hid hc3
   clear hG3 hc3 CN
   by_cases hxl : L ≤ x
   ·obtain ⟨z, hz⟩ : ∃ z : Nat, (x : Int) - (L : Int) = (z : Int) := ⟨x - L, by omega⟩
    have hzL : z < L := by have := hm.2; omega
    have hxi : (L : Int) ≤ (x : Int) := by omega
    have hx' := hx
    clear hx hxl
    have hdl := HP.out.len
    have sI : k < dk.length := by omega
    have sJ : a + z < dk.length := by omega
    have tI : k < d.length := by omega
    have tJ : a + z < d.length := by omega
    have H3 := HH.out.off HC3.out hgs
    have F3 : Fr g w w3 := ⟨HC3.out.os.trans HF.out.os, HC3.out.tape.trans HF.out.tape, HC3.out.output.trans HF.out.output, Nat.le_trans HF.out.size HC3.out.size, fun k hk hj => by
     have hsw := HS'.out
     rw [HC3.out.block k (Nat.lt_of_lt_of_le hk HF.out.size) (by omega)]
     exact HF.out.block k hk hj⟩
    have s0 := H3.cell k sI
    have s1 := H3.cell (a + z) sJ
    have s2 := (H3.set sI (gI dk (a + z))).cell (a + z) (by rw [List.length_set]; exact sJ)
    have s3 := H3.free (o + k)
    have s4 := (H3.set sI (gI dk (a + z))).free (o + (a + z))
    have s5 := H3.free (o + (a + z))
    have HH3 := hid H3
    have HF3 := hid F3
    have haz : (a : Int) + (z : Int) < (d.length : Int) := by omega
    clear H3 F3 hdl
    go_upto_region 10 with fail
    all_goals first | (exfalso; omega) | skip
    go_region
    all_goals go_wp2_with fail
    go_roundw
    case rel => exact ⟨k + 1, swL dk k (a + z), by go_num, by omega, by omega, (HH3.out.drewN _).sw sI sJ, HP.out.trans (POn.sw (by have := HP.out.len; omega) (by omega) (by omega) (by omega) (by omega)), HG3.out.off (Fr.sw (Fr.drewN (Chg.refl _ _ _) _) _ _ _ _) hgs, Fr.sw (Fr.drewN HF3.out _) _ _ _ _⟩
    case measure => simp [intOf]; omega
   ·obtain ⟨z, hz⟩ : ∃ z : Nat, z = x := ⟨_, rfl⟩
    have hzL : z < L := by omega
    rw [← hz] at hx hxm hxl
    have hxi : ¬ ((L : Int) ≤ (z : Int)) := by omega
    clear hz
    have hx' := hx
    clear hx hxl
    have hdl := HP.out.len
    have sI : k < dk.length := by omega
    have sJ : a + z < dk.length := by omega
    have tI : k < d.length := by omega
    have tJ : a + z < d.length := by omega
    have H3 := HH.out.off HC3.out hgs
    have F3 : Fr g w w3 := ⟨HC3.out.os.trans HF.out.os, HC3.out.tape.trans HF.out.tape, HC3.out.output.trans HF.out.output, Nat.le_trans HF.out.size HC3.out.size, fun k hk hj => by
     have hsw := HS'.out
     rw [HC3.out.block k (Nat.lt_of_lt_of_le hk HF.out.size) (by omega)]
     exact HF.out.block k hk hj⟩
    have s0 := H3.cell k sI
    have s1 := H3.cell (a + z) sJ
    have s2 := (H3.set sI (gI dk (a + z))).cell (a + z) (by rw [List.length_set]; exact sJ)
    have s3 := H3.free (o + k)
    have s4 := (H3.set sI (gI dk (a + z))).free (o + (a + z))
    have s5 := H3.free (o + (a + z))
    have HH3 := hid H3
    have HF3 := hid F3
    have haz : (a : Int) + (z : Int) < (d.length : Int) := by omega
    clear H3 F3 hdl
    go_upto_region 10 with fail
    all_goals first | (exfalso; omega) | skip
    go_region
    all_goals go_wp2_with fail
    go_roundw
    case rel => exact ⟨k + 1, swL dk k (a + z), by go_num, by omega, by omega, (HH3.out.drewN _).sw sI sJ, HP.out.trans (POn.sw (by have := HP.out.len; omega) (by omega) (by omega) (by omega) (by omega)), HG3.out.off (Fr.sw (Fr.drewN (Chg.refl _ _ _) _) _ _ _ _) hgs, Fr.sw (Fr.drewN HF3.out _) _ _ _ _⟩
    case measure => simp [intOf]; omega
  ·have hli : ¬ ((k : Int) ≤ (a : Int) + (K : Int) * 2 + 1) := by omega
   go_wp2_with fail
   go_end0
   exact ⟨rfl, dk, hH, hP, hF⟩
end Go.Proofs.YtlnoelbeaolikaaGreat
namespace Go.Proofs.YtlnoelbeaolikaaGreat
open Go.RowKit
set_option maxRecDepth 100000 in
set_option maxHeartbeats 16000000 in
theorem pdqI_any (g o cap : Nat) : ∀ (n a b : Nat) (d : List Int) (w : World) (lim : Int), b - a ≤ n → HoldI w g o d → a ≤ b → b ≤ d.length → d.length ≤ 1000000 → b - a ≤ 16 → d.Nodup → LBo a b d → (b : Int) - (a : Int) - 11 ≤ lim → lim ≤ 100 →
  Calls Tryz.prog 121 #[.slice (some ⟨g, o, none⟩) d.length cap, .int .i64 a, .int .i64 b, .int .i64 lim] w (SrtPost g o a b d w) := by
 intro n
 induction n using Nat.strongRecOn with
 | _ n ih =>
 intro a b d w lim hn h hab hb hd hs hnd hlb hl1 hl2
 have hS0 : PdqSt g o a b d w a b d w := ⟨Nat.le_refl _, hab, Nat.le_refl _, h, POn.refl _ _ _, Chg.refl _ _ _, FrameO.start _ _ _, hlb⟩
 have HS0 := hid hS0
 have HND := hid hnd
 have IH := hid ih
 clear h hlb hnd hS0 ih
 go_enter Tryz.func121, Tryz.ntmps121
 go_wp2_with fail
 go_loopw [1, 2, 3, 8, 9] (fun va vb vl v8 v9 wr => ∃ (x y : Nat) (l : Int) (wb wp : Bool) (dk : List Int), va = .int .i64 x ∧ vb = .int .i64 y ∧ vl = .int .i64 l ∧ v8 = .bool wb ∧ v9 = .bool wp ∧ PdqSt g o a b d w x y dk wr ∧ y - x ≤ b - a ∧ (y : Int) - (x : Int) - 11 + (if wb = true then 0 else 1) ≤ l ∧ l ≤ 100) (fun va vb _ _ _ _ => (intOf vb).toNat - (intOf va).toNat)
 case atStart => exact ⟨a, b, lim, true, true, d, rfl, rfl, rfl, rfl, rfl, HS0.out, Nat.le_refl _, by simp; omega, hl2⟩
 case round =>
  clear HS0
  obtain ⟨x, y, l, wb, wp, dk, rfl, rfl, rfl, rfl, rfl, hS, hyx, hlw, hl9⟩ := hrel
  have hax := hS.ax
  have hxy := hS.xy
  have hyb := hS.yb
  have hdl := hS.pon.len
  obtain ⟨L, hL⟩ : ∃ L, L = y - x := ⟨_, rfl⟩
  have hLi : (y : Int) - (x : Int) = (L : Int) := by omega
  have hL16 : L ≤ 16 := by omega
  have hxL : x + L ≤ y := by omega
  have hxL2 : y ≤ x + L := by omega
  have hylen : y ≤ dk.length := by omega
  have HDL := hid hdl
  by_cases h12 : L ≤ 12
  ·have h12i : (L : Int) ≤ 12 := by omega
   have CI := insertionI_any g o cap x y dk wr hS.hold hxy hylen (by omega)
   rw [hdl] at CI
   have HS := hid hS
   clear hS hL hdl hlw
   go_wp2_with fail
   refine CI.mono ?_
   rintro e w2 ⟨rfl, d2, hH2, hP2, hS2, hF2⟩
   have hT := HS.out.turn hH2 hP2 hF2
   have HT := hid (show SrtPost g o a b d w (.returned (.tuple #[])) w2 from ⟨rfl, d2, hT.hold, hT.pon, hT.frm.done hS2, hT.fr⟩)
   clear hH2 hP2 hS2 hF2 hT CI
   go_wp2_with fail
   (try simp only [Exit.inBlock, Exit.then])
   refine bodyPost_ret (results_none rfl _ _ _) rfl ?_
   exact HT.out
  have h12i : ¬ ((L : Int) ≤ 12) := by omega
  have hl0 : (l == 0) = false := by
   rw [beq_eq_false_iff_ne]
   have : (0 : Int) ≤ (if wb = true then 0 else 1) := by split <;> omega
   omega
  have hl10 : (L : Int) - 11 ≤ l := by
   have : (0 : Int) ≤ (if wb = true then 0 else 1) := by split <;> omega
   omega
  have hlwb : wb = false → (L : Int) - 11 + 1 ≤ l := fun e => by rw [e] at hlw; simp at hlw; omega
  have hLp : x + 13 ≤ y := by omega
  have HS := hid hS
  have HLWB := hid hlwb
  clear hS hL hdl hlw hlwb
  go_upto_if 35 with fail
  all_goals first | (exfalso; omega) | skip
  go_cut [3] from 19 to 133 (fun v wx => ∃ (l' : Int) (d2 : List Int), v = .int .i64 l' ∧ PdqSt g o a b d w x y d2 wx ∧ (L : Int) - 11 ≤ l' ∧ l' ≤ 100)
  case first =>
   cases wb
   ·have CB := breakI_any g o cap x y dk wr HS.out.hold hLp hylen (by have := HDL.out; omega) (by omega)
    rw [HDL.out] at CB
    have h9 := HLWB.out rfl
    go_wp2_with fail
    refine CB.mono ?_
    rintro e w2 ⟨rfl, d2, hH2, hP2, hF2⟩
    have HT := hid (HS.out.turn hH2 hP2 hF2)
    clear hH2 hP2 hF2 CB
    go_wp2_with fail
    go_meet
    exact ⟨l - 1, d2, rfl, HT.out, by omega, by omega⟩
   ·go_wp2_with fail
    go_meet
    exact ⟨l, dk, rfl, HS.out, hl10, hl9⟩
  case rest =>
  clear HS HLWB HDL hl0 hl10 hl9
  obtain ⟨l', d2, hv, hS, hk10, hk9⟩ := hcut
  subst hv
  have hdl2 := hS.pon.len
  have CP := pivotI_any g o cap x y d2 wc hS.hold (by omega) (by omega) (by omega) (by omega)
  rw [hdl2] at CP
  have HS := hid hS
  clear hS hdl2 hylen
  go_wp2_with fail
  refine CP.mono ?_
  rintro e w3 ⟨p, hint, rfl, hp1, hp2, hh, hH3, hF3⟩
  have HS3 := hid (HS.out.turn hH3 (POn.refl _ _ _) hF3)
  clear HS hH3 hF3 CP
  go_upto_if 50 with fail
  go_cut [11, 12] from 19 to 133 (fun v11 v12 wx => ∃ (p' : Nat) (h' : Int) (d3 : List Int), v11 = .int .i64 p' ∧ v12 = .int .i64 h' ∧ x ≤ p' ∧ p' < y ∧ PdqSt g o a b d w x y d3 wx)
  case first =>
   rcases hh with rfl | rfl | rfl
   ·go_wp2_with fail
    go_meet
    exact ⟨p, 0, d2, rfl, rfl, hp1, hp2, HS3.out⟩
   ·go_wp2_with fail
    go_meet
    exact ⟨p, 1, d2, rfl, rfl, hp1, hp2, HS3.out⟩
   ·have hdl3 := HS3.out.pon.len
    have CR := reverseI_any g o cap x y d2 w3 HS3.out.hold (by omega) (by omega) (by omega)
    rw [hdl3] at CR
    clear hdl3
    go_wp2_with fail
    refine CR.mono ?_
    rintro e w4 ⟨rfl, d4, hH4, hP4, hF4⟩
    have HT := hid (HS3.out.turn hH4 hP4 hF4)
    clear hH4 hP4 hF4 CR
    go_wp2_with fail
    go_meet
    exact ⟨y - 1 - (p - x), 1, d4, by congr 1; omega, rfl, by omega, by omega, HT.out⟩
  case rest =>
  clear HS3
  obtain ⟨p', h', d3, hv1, hv2, hq1, hq2, hS⟩ := hcut
  subst hv1 hv2
  have HS := hid hS
  clear hS
  go_upto_region 15 with fail
  go_cut [68] from 19 to 133 (fun v wx => (∃ c : Bool, v = .bool c) ∧ wx = wc)
  case first =>
   cases wb <;> cases wp
   all_goals
    go_wp2_with fail
    go_meet
    exact ⟨⟨_, rfl⟩, rfl⟩
  case rest =>
  obtain ⟨⟨c, hv⟩, hwc⟩ := hcut
  subst hv hwc
  go_upto_if 68 with fail
  go_cut [10] from 19 to 133 (fun v wx => v = .int .i64 L ∧ PdqSt g o a b d w x y d3 wx)
  case first =>
   cases c
   ·go_wp2_with fail
    go_meet
    exact ⟨rfl, HS.out⟩
   ·have hdl3 := HS.out.pon.len
    have CR := partialI_any g o cap x y d3 _ HS.out.hold (by omega) (by omega) (by omega) (by omega)
    rw [hdl3] at CR
    clear hdl3
    go_wp2_with fail
    refine CR.mono ?_
    rintro e w5 ⟨c5, rfl, hc5, hH5, hF5⟩
    have HT := hid (HS.out.turn hH5 (POn.refl _ _ _) hF5)
    have HC5 := hid hc5
    clear hH5 hF5 CR hc5
    cases c5
    ·go_wp2_with fail
     go_meet
     exact ⟨rfl, HT.out⟩
    ·have HR := hid (show SrtPost g o a b d w (.returned (.tuple #[])) w5 from ⟨rfl, d3, HT.out.hold, HT.out.pon, HT.out.frm.done (HC5.out rfl), HT.out.fr⟩)
     go_wp2_with fail
     (try simp only [Exit.inBlock, Exit.then])
     refine bodyPost_ret (results_none rfl _ _ _) rfl ?_
     exact HR.out
  case rest =>
  clear HS
  obtain ⟨hv, hS⟩ := hcut
  subst hv
  have HS := hid hS
  have hdl3 := hS.pon.len
  go_upto_region 17 with fail
  go_cut [87] from 19 to 133 (fun v wx => v = .bool false ∧ ∃ n, wx = wc.drewN n)
  case first =>
   by_cases hx0 : 0 < x
   ·have c0 := hS.hold.cell (x - 1) (by omega)
    have c1 := hS.hold.cell p' (by omega)
    have hlt := nodup_lt (hS.pon.nodup HND.out) (i := x - 1) (j := p') (by omega) (by omega) (by omega) (hS.lb hx0 p' hq1 hq2)
    obtain ⟨u, hu⟩ : ∃ z, z = gI d3 (x - 1) := ⟨_, rfl⟩
    obtain ⟨v, hv⟩ : ∃ z, z = gI d3 p' := ⟨_, rfl⟩
    rw [← hu] at c0 hlt
    rw [← hv] at c1 hlt
    have hw : IntKind.i64.wrap ((x : Int) - 1) = ((x - 1 : Nat) : Int) := by rw [IntWalk.i64_in _ (by omega)]; omega
    have hx0i : (0 : Int) < (x : Int) := by omega
    have lx1 : x - 1 < d.length := by omega
    have lp1 : p' < d.length := by omega
    clear hS hdl3 hu hv
    go_wp2_with fail
    go_quiet (first | (go_at_call 171; refine Calls.quiet_of_same ((lessI_any _ _ _).mono fun _ _ h => ⟨h.1, h.2.symm⟩)))
    go_wp2_with fail
    go_meet
    exact ⟨by simp, _, rfl⟩
   ·have hx0i : decide ((0 : Int) < (x : Int)) = false := by simp; omega
    clear hS hdl3
    go_wp2_with fail
    go_quiet (first | (go_at_call 171; refine Calls.quiet_of_same ((lessI_any _ _ _).mono fun _ _ h => ⟨h.1, h.2.symm⟩)))
    go_wp2_with fail
    go_meet
    exact ⟨rfl, _, rfl⟩
  case rest =>
  clear hS
  obtain ⟨hv, nq, hwc⟩ := hcut
  subst hv hwc
  have HS2 := hid (HS.out.drewN nq)
  have CQ := partitionI_any g o cap x y p' d3 _ HS2.out.hold hq1 hq2 (by omega) (by omega)
  rw [hdl3] at CQ
  have HD3 := hid hdl3
  clear HS hdl3
  go_wp2_with fail
  refine CQ.mono ?_
  rintro e w6 ⟨m, c6, d6, rfl, hm1, hm2, hH6, hP6, hPart, hF6⟩
  have HT := hid (HS2.out.turn hH6 hP6 hF6)
  have HPT := hid hPart
  clear hH6 hP6 hPart hF6 CQ
  have hdl6 := HT.out.pon.len
  have hnd6 := HT.out.pon.nodup HND.out
  by_cases hlr : m - x < y - m
  ·have CR := IH.out (m - x) (by omega) x m d6 w6 l' (Nat.le_refl _) HT.out.hold hm1 (by omega) (by omega) (by omega) hnd6 (HT.out.lb.short (by omega)) (by omega) hk9
   rw [hdl6] at CR
   have hlri : (m : Int) - (x : Int) < (y : Int) - (m : Int) := by omega
   clear hdl6 hnd6
   go_wp2_with fail
   refine CR.mono ?_
   rintro e w7 ⟨rfl, d7, hH7, hP7, hS7, hF7⟩
   have HT7 := hid (show PdqSt g o a b d w (m + 1) y d7 w7 from
    ⟨by omega, by omega, hyb, hH7, HT.out.pon.trans (hP7.wide hax (by omega)), HT.out.fr.trans hF7, (HT.out.frm.pon (hP7.wide (Nat.le_refl _) (by omega)) hax hyb).left (HPT.out.ponL hP7) hS7 hm1 hm2, LBo.part (HPT.out.ponL hP7)⟩)
   clear hH7 hP7 hS7 hF7 CR
   go_wp2_with fail
   go_roundw
   case rel => exact ⟨m + 1, y, l', _, c6, d7, by go_num, rfl, rfl, rfl, rfl, HT7.out, by omega, by split <;> omega, hk9⟩
   case measure => simp [intOf]; omega
  ·have CR := IH.out (y - (m + 1)) (by omega) (m + 1) y d6 w6 l' (Nat.le_refl _) HT.out.hold (by omega) (by omega) (by omega) (by omega) hnd6 (LBo.part HPT.out) (by omega) hk9
   rw [hdl6, show ((m + 1 : Nat) : Int) = (m : Int) + 1 by omega] at CR
   have hlri : ¬ ((m : Int) - (x : Int) < (y : Int) - (m : Int)) := by omega
   clear hdl6 hnd6
   go_wp2_with fail
   refine CR.mono ?_
   rintro e w7 ⟨rfl, d7, hH7, hP7, hS7, hF7⟩
   have HT7 := hid (show PdqSt g o a b d w x m d7 w7 from
    ⟨hax, hm1, by omega, hH7, HT.out.pon.trans (hP7.wide (by omega) hyb), HT.out.fr.trans hF7, (HT.out.frm.pon (hP7.wide (by omega) (Nat.le_refl _)) hax hyb).right (HPT.out.ponR hP7) hS7 hm1 hm2, (HT.out.lb.pon (hP7.wide (by omega) (Nat.le_refl _))).short (by omega)⟩)
   clear hH7 hP7 hS7 hF7 CR
   go_wp2_with fail
   go_roundw
   case rel => exact ⟨x, m, l', _, c6, d7, rfl, rfl, rfl, rfl, rfl, HT7.out, by omega, by split <;> omega, hk9⟩
   case measure => simp [intOf]; omega
set_option maxRecDepth 100000 in
set_option maxHeartbeats 4000000 in
theorem sortI_any (g o cap : Nat) (d : List Int) (w : World) (h : HoldI w g o d) (hs : d.length ≤ 16) (hnd : d.Nodup) :
  Calls Tryz.prog 80 #[.slice (some ⟨g, o, none⟩) d.length cap] w (SrtPost g o 0 d.length d w) := by
 obtain ⟨n, hn⟩ : ∃ n, n = Lib.bitLen d.length := ⟨_, rfl⟩
 have hb : (d.length : Int) - 11 ≤ (n : Int) ∧ (n : Int) ≤ 100 := by
  have : d.length = 0 ∨ d.length = 1 ∨ d.length = 2 ∨ d.length = 3 ∨ d.length = 4 ∨ d.length = 5 ∨ d.length = 6 ∨ d.length = 7 ∨ d.length = 8 ∨ d.length = 9 ∨ d.length = 10 ∨ d.length = 11 ∨ d.length = 12 ∨ d.length = 13 ∨ d.length = 14 ∨ d.length = 15 ∨ d.length = 16 := by omega
  rw [hn]
  rcases this with e | e | e | e | e | e | e | e | e | e | e | e | e | e | e | e | e <;> (rw [e]; decide +kernel)
 have CP := pdqI_any g o cap d.length 0 d.length d w n (by omega) h (Nat.zero_le _) (Nat.le_refl _) (by omega) (by omega) hnd (fun h0 => by omega) (by omega) hb.2
 have CB := Tryz.bits_Len (d.length : Int) w (by omega) (by omega)
 rw [show ((d.length : Int).toNat) = d.length by omega, ← hn] at CB
 clear hn
 go_enter Tryz.func80, Tryz.ntmps80
 go_wp2_with fail
 refine CB.mono ?_
 rintro e w' ⟨rfl, rfl⟩
 go_wp2_with fail
 refine CP.mono ?_
 rintro e w2 ⟨rfl, hp⟩
 go_wp2_with fail
 go_end0
 exact ⟨rfl, hp⟩
end Go.Proofs.YtlnoelbeaolikaaGreat
