/- The lengths of a stroke up to its points: both calls. -/
import Derived.Test.YtlnoelbeaolikaaGreatK13
import Derived.Test.YtlnoelbeaolikaaGreatK06
import Derived.Test.YtlnoelbeaolikaaGreatK07
import Derived.Test.YtlnoelbeaolikaaGreatK09
import Derived.Test.YtlnoelbeaolikaaGreatK14
import Derived.Deep.Cut
namespace Go.Proofs.YtlnoelbeaolikaaGreat
open Go.RowKit
noncomputable def arcN (x : XStroke) : Nat → Nat
 | 0 => 0
 | k + 1 => arcN x k + (match x[k]?, x[k + 1]? with | some a, some b => lenP a b | _, _ => 0)
noncomputable def arcL (x : XStroke) (k : Nat) : List Int := (List.range k).map fun i => (arcN x i : Int)
theorem arcL_len (x : XStroke) (k : Nat) : (arcL x k).length = k := by simp [arcL]
theorem arcL_get (x : XStroke) {k i : Nat} (h : i < k) : (arcL x k)[i]? = some (arcN x i : Int) := by simp [arcL, h]
theorem arcL_push (x : XStroke) (k : Nat) : arcL x k ++ [(arcN x k : Int)] = arcL x (k + 1) := by simp [arcL, List.range_succ]
theorem arcN_succ {x : XStroke} {k : Nat} {a b : DPoint} (ha : x[k]? = some a) (hb : x[k + 1]? = some b) : arcN x (k + 1) = arcN x k + lenP a b := by
 show arcN x k + _ = _
 rw [ha, hb]
theorem validSt_okPt {x : XStroke} (h : validSt x = true) {k : Nat} {p : DPoint} (hp : x[k]? = some p) : okPt p := by
 unfold validSt at h
 rw [Bool.and_eq_true, List.all_eq_true] at h
 have h1 := h.1 k (List.mem_range.2 (List.getElem?_eq_some_iff.1 hp).1)
 rw [hp] at h1
 simp only [stOk, ptOk, Bool.and_eq_true] at h1
 have a1 := inB_true.1 h1.1.1.1
 have a2 := inB_true.1 h1.1.1.2
 exact ⟨a1.1, a1.2, a2.1, a2.2⟩
theorem arcN_bd {x : XStroke} (h : validSt x = true) : ∀ k, arcN x k ≤ 92659 * k
 | 0 => by simp [arcN]
 | k + 1 => by
  have ih := arcN_bd h k
  show arcN x k + _ ≤ _
  cases ha : x[k]? with
  | none => simp; omega
  | some a =>
   cases hb : x[k + 1]? with
   | none => simp; omega
   | some b => have := lenP_bd (validSt_okPt h ha) (validSt_okPt h hb); simp; omega
theorem arcN_mono {x : XStroke} {i k : Nat} (h : i ≤ k) : arcN x i ≤ arcN x k := by
 induction h with
 | refl => exact Nat.le_refl _
 | step _ ih => exact Nat.le_trans ih (Nat.le_add_right _ _)
theorem own_blockE {α : Type} {E : Enc α} {e : TypeId} {B : Nat} {w : World} (xs : List α) (n : Nat) (cells : Array Value) (hn : n = xs.length) (hc : cells.toList = E.flat xs) (hm : n ≤ maxLen) (hB : B ≤ w.heap.size) :
  Own E e B (w.alloc (.cells cells e)) (.slice (some ⟨w.heap.size, 0, none⟩) n n) xs := by
 subst hn
 refine ⟨E.flat_len xs, .inr ⟨w.heap.size, xs.length, cells, rfl, hB, heap_alloc_new _ _, Nat.le_refl _, hm, ?_, ?_⟩⟩
 ·rw [← Array.length_toList, hc, E.flat_len]
 ·rw [hc, ← E.flat_len xs, List.take_length]
theorem own_blockI (W : World) : Own eI 2 W.heap.size (W.alloc (.cells #[.int .i64 0] 2)) (.slice (some ⟨W.heap.size, 0, none⟩) 1 1) [(0 : Int)] :=
 own_blockE [(0 : Int)] 1 #[.int .i64 0] rfl rfl (by decide) (Nat.le_refl _)
set_option maxRecDepth 100000 in
set_option maxHeartbeats 4000000 in
theorem arcsOf_any (v : Value) (x : XStroke) (w : World) (h : Arr ePoint w v x) (hv : validSt x = true) :
  Calls Tryz.prog 192 #[.agg #[v]] w (RetOwn eI 2 (arcL x x.length) w) := by
 obtain ⟨hl0, hl1⟩ := validSt_len hv
 obtain ⟨b, off, ao, cap, rfl, hnc, hcm, hao, hc⟩ := h
 obtain ⟨hao', hbw⟩ := hao (by omega)
 subst hao'
 unfold maxLen at hcm
 have HV := hid hv
 clear hv hao
 obtain ⟨W, hW⟩ : ∃ u, u = (w.alloc (.cells #[.slice (some ⟨b, off, none⟩) x.length cap] 112)) := ⟨_, rfl⟩
 have hbW : Below w.heap.size w W := by rw [hW]; exact belowA1 _ _
 have q1 : Box W (w.heap.size) #[.slice (some ⟨b, off, none⟩) x.length cap] 112 := by
  have hq := Box.new w #[.slice (some ⟨b, off, none⟩) x.length cap] 112
  rw [hW]
  exact hq
 obtain ⟨p1, hp1⟩ : ∃ p, p = w.heap.size := ⟨_, rfl⟩
 rw [← hp1] at q1
 have hge1 : w.heap.size ≤ p1 := by omega
 have hlW : w.heap.size ≤ W.heap.size := hbW.size
 have hlp1 : p1 < W.heap.size := q1.lt
 have HP1 := hid hp1
 have HW := hid hW
 clear hW hp1
 have m0 := q1.cell (j := 0) rfl
 have hcW : Cells ePoint W b off x := hc.below hbW hbw
 have hbwW : b < W.heap.size := by omega
 go_enter Tryz.func192, Tryz.ntmps192
 go_upto_region 1 with fail
 rw [← HP1.out, ← HW.out]
 go_upto_region 3 with fail
 obtain ⟨w4, hw4⟩ : ∃ u, u = W.alloc (.cells #[.int .i64 0] 2) := ⟨_, rfl⟩
 rw [← hw4]
 have hb4 : Below W.heap.size W w4 := by rw [hw4]; exact below_alloc _ _
 have ho4 : Own eI 2 W.heap.size w4 (.slice (some ⟨W.heap.size, 0, none⟩) 1 1) (arcL x 1) := by
  rw [hw4]
  exact own_blockI W
 have m4 := cell_later hb4 m0
 have hq4 : W.heap.size < w4.heap.size := by rw [hw4]; simp
 clear hw4
 go_loopw [3, 4] (fun u i wr => ∃ j : Nat, j + 1 ≤ x.length ∧ i = .int .i64 (j + 1) ∧ Own eI 2 W.heap.size wr u (arcL x (j + 1)) ∧ Below W.heap.size w4 wr) (fun _ i _ => x.length - (intOf i).toNat)
 case atStart => exact ⟨0, by omega, rfl, ho4, Below.refl _ _⟩
 case round =>
  clear ho4
  obtain ⟨j, hj, rfl, hst, hbl⟩ := hrel
  have hb4r : Below W.heap.size W wr := hb4.trans hbl
  have m1 := cell_later hb4r m0
  have hbr : W.heap.size ≤ wr.heap.size := hb4r.size
  by_cases hlt : j + 1 < x.length
  ·have hli : (j : Int) + 1 < (x.length : Int) := by omega
   have hji : (j : Int) < (x.length : Int) := by omega
   obtain ⟨a, ha⟩ : ∃ a, x[j]? = some a := ⟨_, List.getElem?_eq_getElem (by omega)⟩
   obtain ⟨pt, hcc⟩ : ∃ c, x[j + 1]? = some c := ⟨_, List.getElem?_eq_getElem hlt⟩
   have hcr := hcW.below hb4r hbwW
   obtain ⟨a0, a1, a2⟩ := ePoint_cells hcr ha
   obtain ⟨c0, c1, c2⟩ := ePoint_cells hcr hcc
   have CL := fun w' => lengthOf_any a pt w' (validSt_okPt HV.out ha) (validSt_okPt HV.out hcc)
   have hlb := lenP_bd (validSt_okPt HV.out ha) (validSt_okPt HV.out hcc)
   have hab := arcN_bd HV.out j
   have hle := arcL_len x (j + 1)
   have hget := arcL_get x (Nat.lt_succ_self j)
   have HP := hid (show arcL x (j + 1) ++ [((arcN x j + lenP a pt : Nat) : Int)] = arcL x (j + 1 + 1) by rw [← arcN_succ ha hcc]; exact arcL_push x (j + 1))
   obtain ⟨A, hA⟩ : ∃ A, A = arcL x (j + 1) := ⟨_, rfl⟩
   rw [← hA] at hst hle hget HP
   obtain ⟨S, hS⟩ : ∃ S, S = arcN x j := ⟨_, rfl⟩
   rw [← hS] at hget HP hab
   obtain ⟨D, hD⟩ : ∃ D, D = lenP a pt := ⟨_, rfl⟩
   rw [← hD] at CL hlb HP
   have HLE := hid hle
   obtain ⟨gb, goff, ga, gc, hgv, hgn, hgm, hga, hgcells⟩ := hst.arr
   rw [hle] at hgv hgn hga
   obtain ⟨hga', hgw⟩ := hga (by omega)
   subst hga'
   subst hgv
   have g0 := eI_cell hgcells hget
   have ao : Hid (Own eI 2 W.heap.size wr (.slice (some ⟨gb, goff, none⟩) (j + 1) gc) A) := hid hst
   unfold maxLen at hgm
   have wr1 : IntKind.i64.wrap ((j : Int) + 1 - 1) = (j : Int) := by rw [Int.add_sub_cancel]; exact IntWalk.i64_in _ (by omega)
   have wr2 : IntKind.i64.wrap ((S : Int) + (D : Int)) = (S : Int) + (D : Int) := IntWalk.i64_in _ (by omega)
   have wr3 : IntKind.i64.wrap (j : Int) = (j : Int) := IntWalk.i64_in _ (by omega)
   have hj1 : (j : Int) < (j : Int) + 1 := by omega
   clear ha hcc hcr hA hS hD hget hle hga hgcells hst
   go_upto_region 5 with fail
   refine wp_region_stgy 18 20 (fun c w' => match c with | 0 => Below wr.heap.size wr w' | 1 => Below wr.heap.size wr w' | _ => Below W.heap.size w4 w') (fun c i v w' => match i with
         | 0 => v = .slice (some ⟨gb, goff, none⟩) (j + 1) gc
         | 1 => v = .slice (some ⟨gb, goff, none⟩) (j + 1) gc
         | 2 => v = .int .i64 (j + 1)
         | 3 => v = .int .i64 j
         | 4 => v = .pointer (some ⟨gb, goff + j, none⟩)
         | 5 => v = .int .i64 S
         | 6 => v = .pointer (some ⟨p1, 0, none⟩)
         | 7 => v = .slice (some ⟨b, off, none⟩) x.length cap
         | 8 => v = .int .i64 (j + 1)
         | 9 => v = .int .i64 j
         | 10 => v = .pointer (some ⟨b, off + j * 3, none⟩)
         | 11 => v = .agg #[.int .i64 a.x, .int .i64 a.y, .int .i64 a.t]
         | 12 => v = .pointer (some ⟨p1, 0, none⟩)
         | 13 => v = .slice (some ⟨b, off, none⟩) x.length cap
         | 14 => v = .int .i64 (j + 1)
         | 15 => v = .pointer (some ⟨b, off + (j + 1) * 3, none⟩)
         | 16 => v = .agg #[.int .i64 pt.x, .int .i64 pt.y, .int .i64 pt.t]
         | 17 => v = .int .i64 D
         | 18 => (match c with | 0 => True | 1 => v = .int .i64 (S + D) | _ => v = .int .i64 (S + D))
         | 19 => (match c with | 0 => False | 1 => Arr eI w' v [((S + D : Nat) : Int)] | _ => True)
         | 20 => (match c with | 0 => True | 1 => True | _ => (Own eI 2 W.heap.size w' v (A ++ [((S + D : Nat) : Int)])))
         | 21 => (match c with | 0 => False | 1 => False | _ => Own eI 2 W.heap.size w' v (A ++ [((S + D : Nat) : Int)]))
         | _ => True) (by kernel_rfl) (by kernel_rfl) (by kernel_rfl) (by kernel_rfl) (by kernel_rfl) ?_ ?_ ?_ ?_ ?_ ?_ (by decide) ?_
   ·exact (Below.refl _ wr).drew
   ·intro c w w' h hb
    match c, h with
    | 0, h => exact Below.trans (B := wr.heap.size) h (hb.mono (Below.size h))
    | 1, h => exact Below.trans (B := wr.heap.size) h (hb.mono (Below.size h))
    | (k + 2), h => exact (h.trans (hb.mono (Nat.le_trans hb4.size h.size)))
   ·intro c i v w w' h hb
    match i, h with
    | 0, h => exact h
    | 1, h => exact h
    | 2, h => exact h
    | 3, h => exact h
    | 4, h => exact h
    | 5, h => exact h
    | 6, h => exact h
    | 7, h => exact h
    | 8, h => exact h
    | 9, h => exact h
    | 10, h => exact h
    | 11, h => exact h
    | 12, h => exact h
    | 13, h => exact h
    | 14, h => exact h
    | 15, h => exact h
    | 16, h => exact h
    | 17, h => exact h
    | 18, h =>
     match c, h with
     | 0, h => exact trivial
     | 1, h => exact h
     | (k + 2), h => exact h
    | 19, h =>
     match c, h with
     | 0, h => exact h
     | 1, h => exact (h.below hb)
     | (k + 2), h => exact trivial
    | 20, h =>
     match c, h with
     | 0, h => exact trivial
     | 1, h => exact trivial
     | (k + 2), h => exact (h.below hb)
    | 21, h =>
     match c, h with
     | 0, h => exact h
     | 1, h => exact h
     | (k + 2), h => exact (h.below hb)
    | (k + 22), h => exact h
   ·refine ⟨?_, ?_, ?_, ?_, ?_, ?_, ?_, ?_, ?_, ?_, ?_, ?_, ?_, ?_, ?_, ?_, ?_, ?_, ?_, ?_, ?_, ?_, trivial⟩
    ·refine .inr (.inr ⟨fun _ => ?_, fun _ => ?_, can_no (by kernel_rfl)⟩)
     ·intro ρ w' hbw ht hcs hfn hgl hpr hdep G hG
      replace hbw : Below wr.heap.size wr w' := hbw
      refine ⟨fun _ => ?_, fun h => by cases h⟩
      have s3 : ρ (.tmp 3) = .slice (some ⟨gb, goff, none⟩) (j + 1) gc := hpr 21 3 rfl (by kernel_rfl)
      clear ht hdep hgl hpr
      go_simp
      exact hG _ _ (Below.refl _ _) rfl
     ·intro ρ w' hbw ht hcs hfn hgl hpr hdep G hG
      replace hbw : Below wr.heap.size wr w' := hbw
      refine ⟨fun _ => ?_, fun h => by cases h⟩
      have s3 : ρ (.tmp 3) = .slice (some ⟨gb, goff, none⟩) (j + 1) gc := hpr 21 3 rfl (by kernel_rfl)
      clear ht hdep hgl hpr
      go_simp
      exact hG _ _ (Below.refl _ _) rfl
    ·refine .inr (.inr ⟨fun _ => ?_, can_no (by kernel_rfl), can_no (by kernel_rfl)⟩)
     ·intro ρ w' hbw ht hcs hfn hgl hpr hdep G hG
      replace hbw : Below wr.heap.size wr w' := hbw
      refine ⟨fun _ => ?_, fun h => by cases h⟩
      have s3 : ρ (.tmp 3) = .slice (some ⟨gb, goff, none⟩) (j + 1) gc := hpr 21 3 rfl (by kernel_rfl)
      clear ht hdep hgl hpr
      go_simp
      exact hG _ _ (Below.refl _ _) rfl
    ·refine .inr (.inr ⟨fun _ => ?_, can_no (by kernel_rfl), can_no (by kernel_rfl)⟩)
     ·intro ρ w' hbw ht hcs hfn hgl hpr hdep G hG
      replace hbw : Below wr.heap.size wr w' := hbw
      refine ⟨fun _ => ?_, fun h => by cases h⟩
      have s4 : ρ (.tmp 4) = .int .i64 (j + 1) := ht 4 rfl
      clear ht hdep hgl hpr
      go_simp
      exact hG _ _ (Below.refl _ _) rfl
    ·refine .inr (.inr ⟨fun _ => ?_, can_no (by kernel_rfl), can_no (by kernel_rfl)⟩)
     ·intro ρ w' hbw ht hcs hfn hgl hpr hdep G hG
      replace hbw : Below wr.heap.size wr w' := hbw
      refine ⟨fun _ => ?_, fun h => by cases h⟩
      have s15 : ρ (.tmp 15) = .int .i64 (j + 1) := hdep ⟨2, .data⟩ (by simp) rfl 15 rfl
      clear ht hdep hgl hpr
      go_simp
      exact hG _ _ (Below.refl _ _) rfl
    ·refine .inr (.inr ⟨fun _ => ?_, can_no (by kernel_rfl), can_no (by kernel_rfl)⟩)
     ·intro ρ w' hbw ht hcs hfn hgl hpr hdep G hG
      replace hbw : Below wr.heap.size wr w' := hbw
      refine ⟨fun _ => ?_, fun h => by cases h⟩
      have s14 : ρ (.tmp 14) = .slice (some ⟨gb, goff, none⟩) (j + 1) gc := hdep ⟨1, .data⟩ (by simp) rfl 14 rfl
      have s16 : ρ (.tmp 16) = .int .i64 j := hdep ⟨3, .data⟩ (by simp) rfl 16 rfl
      clear ht hdep hgl hpr
      go_simp
      exact hG _ _ (Below.refl _ _) rfl
    ·refine .inr (.inr ⟨fun _ => ?_, can_no (by kernel_rfl), can_no (by kernel_rfl)⟩)
     ·intro ρ w' hbw ht hcs hfn hgl hpr hdep G hG
      replace hbw : Below wr.heap.size wr w' := hbw
      refine ⟨fun _ => ?_, fun h => by cases h⟩
      have s17 : ρ (.tmp 17) = .pointer (some ⟨gb, goff + j, none⟩) := hdep ⟨4, .data⟩ (by simp) rfl 17 rfl
      have m1 := cell_later hbw m1
      have g0 := cell_later hbw g0
      have a0 := cell_later hbw a0
      have a1 := cell_later hbw a1
      have a2 := cell_later hbw a2
      have c0 := cell_later hbw c0
      have c1 := cell_later hbw c1
      have c2 := cell_later hbw c2
      clear ht hdep hgl hpr
      go_simp
      exact hG _ _ (Below.refl _ _) rfl
    ·refine .inr (.inr ⟨fun _ => ?_, can_no (by kernel_rfl), can_no (by kernel_rfl)⟩)
     ·intro ρ w' hbw ht hcs hfn hgl hpr hdep G hG
      replace hbw : Below wr.heap.size wr w' := hbw
      refine ⟨fun _ => ?_, fun h => by cases h⟩
      have s1 : ρ (.tmp 1) = .pointer (some ⟨p1, 0, none⟩) := ht 1 rfl
      clear ht hdep hgl hpr
      go_simp
      exact hG _ _ (Below.refl _ _) rfl
    ·refine .inr (.inr ⟨fun _ => ?_, can_no (by kernel_rfl), can_no (by kernel_rfl)⟩)
     ·intro ρ w' hbw ht hcs hfn hgl hpr hdep G hG
      replace hbw : Below wr.heap.size wr w' := hbw
      refine ⟨fun _ => ?_, fun h => by cases h⟩
      have s19 : ρ (.tmp 19) = .pointer (some ⟨p1, 0, none⟩) := hdep ⟨6, .data⟩ (by simp) rfl 19 rfl
      have m1 := cell_later hbw m1
      have g0 := cell_later hbw g0
      have a0 := cell_later hbw a0
      have a1 := cell_later hbw a1
      have a2 := cell_later hbw a2
      have c0 := cell_later hbw c0
      have c1 := cell_later hbw c1
      have c2 := cell_later hbw c2
      clear ht hdep hgl hpr
      go_simp
      exact hG _ _ (Below.refl _ _) rfl
    ·refine .inr (.inr ⟨fun _ => ?_, can_no (by kernel_rfl), can_no (by kernel_rfl)⟩)
     ·intro ρ w' hbw ht hcs hfn hgl hpr hdep G hG
      replace hbw : Below wr.heap.size wr w' := hbw
      refine ⟨fun _ => ?_, fun h => by cases h⟩
      have s4 : ρ (.tmp 4) = .int .i64 (j + 1) := ht 4 rfl
      clear ht hdep hgl hpr
      go_simp
      exact hG _ _ (Below.refl _ _) rfl
    ·refine .inr (.inr ⟨fun _ => ?_, can_no (by kernel_rfl), can_no (by kernel_rfl)⟩)
     ·intro ρ w' hbw ht hcs hfn hgl hpr hdep G hG
      replace hbw : Below wr.heap.size wr w' := hbw
      refine ⟨fun _ => ?_, fun h => by cases h⟩
      have s21 : ρ (.tmp 21) = .int .i64 (j + 1) := hdep ⟨8, .data⟩ (by simp) rfl 21 rfl
      clear ht hdep hgl hpr
      go_simp
      exact hG _ _ (Below.refl _ _) rfl
    ·refine .inr (.inr ⟨fun _ => ?_, can_no (by kernel_rfl), can_no (by kernel_rfl)⟩)
     ·intro ρ w' hbw ht hcs hfn hgl hpr hdep G hG
      replace hbw : Below wr.heap.size wr w' := hbw
      refine ⟨fun _ => ?_, fun h => by cases h⟩
      have s20 : ρ (.tmp 20) = .slice (some ⟨b, off, none⟩) x.length cap := hdep ⟨7, .data⟩ (by simp) rfl 20 rfl
      have s22 : ρ (.tmp 22) = .int .i64 j := hdep ⟨9, .data⟩ (by simp) rfl 22 rfl
      clear ht hdep hgl hpr
      go_simp
      exact hG _ _ (Below.refl _ _) rfl
    ·refine .inr (.inr ⟨fun _ => ?_, can_no (by kernel_rfl), can_no (by kernel_rfl)⟩)
     ·intro ρ w' hbw ht hcs hfn hgl hpr hdep G hG
      replace hbw : Below wr.heap.size wr w' := hbw
      refine ⟨fun _ => ?_, fun h => by cases h⟩
      have s23 : ρ (.tmp 23) = .pointer (some ⟨b, off + j * 3, none⟩) := hdep ⟨10, .data⟩ (by simp) rfl 23 rfl
      have m1 := cell_later hbw m1
      have g0 := cell_later hbw g0
      have a0 := cell_later hbw a0
      have a1 := cell_later hbw a1
      have a2 := cell_later hbw a2
      have c0 := cell_later hbw c0
      have c1 := cell_later hbw c1
      have c2 := cell_later hbw c2
      clear ht hdep hgl hpr
      go_simp
      exact hG _ _ (Below.refl _ _) rfl
    ·refine .inr (.inr ⟨fun _ => ?_, can_no (by kernel_rfl), can_no (by kernel_rfl)⟩)
     ·intro ρ w' hbw ht hcs hfn hgl hpr hdep G hG
      replace hbw : Below wr.heap.size wr w' := hbw
      refine ⟨fun _ => ?_, fun h => by cases h⟩
      have s1 : ρ (.tmp 1) = .pointer (some ⟨p1, 0, none⟩) := ht 1 rfl
      clear ht hdep hgl hpr
      go_simp
      exact hG _ _ (Below.refl _ _) rfl
    ·refine .inr (.inr ⟨fun _ => ?_, can_no (by kernel_rfl), can_no (by kernel_rfl)⟩)
     ·intro ρ w' hbw ht hcs hfn hgl hpr hdep G hG
      replace hbw : Below wr.heap.size wr w' := hbw
      refine ⟨fun _ => ?_, fun h => by cases h⟩
      have s25 : ρ (.tmp 25) = .pointer (some ⟨p1, 0, none⟩) := hdep ⟨12, .data⟩ (by simp) rfl 25 rfl
      have m1 := cell_later hbw m1
      have g0 := cell_later hbw g0
      have a0 := cell_later hbw a0
      have a1 := cell_later hbw a1
      have a2 := cell_later hbw a2
      have c0 := cell_later hbw c0
      have c1 := cell_later hbw c1
      have c2 := cell_later hbw c2
      clear ht hdep hgl hpr
      go_simp
      exact hG _ _ (Below.refl _ _) rfl
    ·refine .inr (.inr ⟨fun _ => ?_, can_no (by kernel_rfl), can_no (by kernel_rfl)⟩)
     ·intro ρ w' hbw ht hcs hfn hgl hpr hdep G hG
      replace hbw : Below wr.heap.size wr w' := hbw
      refine ⟨fun _ => ?_, fun h => by cases h⟩
      have s4 : ρ (.tmp 4) = .int .i64 (j + 1) := ht 4 rfl
      clear ht hdep hgl hpr
      go_simp
      exact hG _ _ (Below.refl _ _) rfl
    ·refine .inr (.inr ⟨fun _ => ?_, can_no (by kernel_rfl), can_no (by kernel_rfl)⟩)
     ·intro ρ w' hbw ht hcs hfn hgl hpr hdep G hG
      replace hbw : Below wr.heap.size wr w' := hbw
      refine ⟨fun _ => ?_, fun h => by cases h⟩
      have s26 : ρ (.tmp 26) = .slice (some ⟨b, off, none⟩) x.length cap := hdep ⟨13, .data⟩ (by simp) rfl 26 rfl
      have s27 : ρ (.tmp 27) = .int .i64 (j + 1) := hdep ⟨14, .data⟩ (by simp) rfl 27 rfl
      clear ht hdep hgl hpr
      go_simp
      exact hG _ _ (Below.refl _ _) rfl
    ·refine .inr (.inr ⟨fun _ => ?_, can_no (by kernel_rfl), can_no (by kernel_rfl)⟩)
     ·intro ρ w' hbw ht hcs hfn hgl hpr hdep G hG
      replace hbw : Below wr.heap.size wr w' := hbw
      refine ⟨fun _ => ?_, fun h => by cases h⟩
      have s28 : ρ (.tmp 28) = .pointer (some ⟨b, off + (j + 1) * 3, none⟩) := hdep ⟨15, .data⟩ (by simp) rfl 28 rfl
      have m1 := cell_later hbw m1
      have g0 := cell_later hbw g0
      have a0 := cell_later hbw a0
      have a1 := cell_later hbw a1
      have a2 := cell_later hbw a2
      have c0 := cell_later hbw c0
      have c1 := cell_later hbw c1
      have c2 := cell_later hbw c2
      clear ht hdep hgl hpr
      go_simp
      exact hG _ _ (Below.refl _ _) rfl
    ·refine .inr (.inr ⟨fun _ => ?_, can_no (by kernel_rfl), can_no (by kernel_rfl)⟩)
     ·intro ρ w' hbw ht hcs hfn hgl hpr hdep G hG
      replace hbw : Below wr.heap.size wr w' := hbw
      refine ⟨fun _ => ?_, fun h => by cases h⟩
      have s24 : ρ (.tmp 24) = .agg #[.int .i64 a.x, .int .i64 a.y, .int .i64 a.t] := hdep ⟨11, .data⟩ (by simp) rfl 24 rfl
      have s29 : ρ (.tmp 29) = .agg #[.int .i64 pt.x, .int .i64 pt.y, .int .i64 pt.t] := hdep ⟨16, .data⟩ (by simp) rfl 29 rfl
      clear ht hdep hgl hpr
      go_simp
      exact (CL w').mono fun e w'' ⟨he, hb⟩ => ⟨_, he, hG _ _ hb rfl⟩
    ·exact .inl rfl
    ·refine .inr (.inr ⟨can_no (by kernel_rfl), fun _ => ?_, can_no (by kernel_rfl)⟩)
     ·intro ρ w' hbw ht hcs hfn hgl hpr hdep G hG
      replace hbw : Below wr.heap.size wr w' := hbw
      refine ⟨fun _ => ?_, fun h => by cases h⟩
      have d31 := hdep ⟨18, .data⟩ (by simp) rfl 31 rfl
      clear ht hdep hgl hpr
      replace d31 : ρ (.tmp 31) = .int .i64 (S + D) := d31
      go_simp
      exact hG _ _ (below_alloc _ _) (arr_block1 (E := eI) (n := 1) [((S + D : Nat) : Int)] #[.int .i64 (S + D)] (by push_cast; rfl) rfl (by decide) (by simp))
    ·exact .inr (.inl rfl)
    ·refine .inr (.inr ⟨can_no (by kernel_rfl), can_no (by kernel_rfl), fun _ => ?_⟩)
     ·intro ρ w' hbw ht hcs hfn hgl hpr hdep G hG
      refine ⟨fun _ => ?_, fun h => by cases h⟩
      have d33 := hdep ⟨20, .data⟩ (by simp) rfl 33 rfl
      clear ht hdep hgl hpr
      go_simp
      exact hG _ _ (Below.refl _ _) d33
   ·intro o ho
    obtain rfl := Option.some.inj ho
    intro ρ w' hbw ht hcs hfn hgl hpr hdep G hG
    replace hbw : Below wr.heap.size wr w' := hbw
    refine ⟨fun _ => ?_, fun h => by cases h⟩
    have s18 : ρ (.tmp 18) = .int .i64 S := hdep ⟨5, .data⟩ (by simp) rfl 18 rfl
    have s30 : ρ (.tmp 30) = .int .i64 D := hdep ⟨17, .data⟩ (by simp) rfl 30 rfl
    clear ht hdep hgl hpr
    go_simp
    refine hG _ _ hbw rfl ?_
    intro j u hj hne h
    match j, h with
    | 0, h => exact h
    | 1, h => exact h
    | 2, h => exact h
    | 3, h => exact h
    | 4, h => exact h
    | 5, h => exact h
    | 6, h => exact h
    | 7, h => exact h
    | 8, h => exact h
    | 9, h => exact h
    | 10, h => exact h
    | 11, h => exact h
    | 12, h => exact h
    | 13, h => exact h
    | 14, h => exact h
    | 15, h => exact h
    | 16, h => exact h
    | 17, h => exact h
    | 18, h => exact absurd rfl hne
    | 19, h => exact h.elim
    | 20, h => exact trivial
    | 21, h => exact h
    | (k + 22), h => exact h
   ·intro o ho
    obtain rfl := Option.some.inj ho
    intro ρ w' hbw ht hcs hfn hgl hpr hdep G hG
    replace hbw : Below wr.heap.size wr w' := hbw
    refine ⟨fun _ => ?_, fun h => by cases h⟩
    have s13 : ρ (.tmp 13) = .slice (some ⟨gb, goff, none⟩) (j + 1) gc := hdep ⟨0, .data⟩ (by simp) rfl 13 rfl
    have d32 := hdep ⟨19, .data⟩ (by simp) rfl 32 rfl
    clear ht hdep hgl hpr
    refine upon_appO _ _ 139 (by rfl) W.heap.size 2 _ 8 infoI Tryz.underlying139 rfl _ A s13 (ao.out.below hbw) [((S + D : Nat) : Int)] d32 (by rw [HLE.out]; unfold maxLen; simp <;> omega) (by rw [HLE.out]; simp <;> omega) (by have := hbw.size; omega) ?_
    intro v' wA hoA hgA hlA
    refine hG _ _ ((hbl.trans (hbw.mono hbr)).grown hgA (by have := hbw.size; omega) (fun kk hh => (World.ownsRow.lt (ao.out.below hbw) kk hh).1)) hoA ?_
    intro j u hj hne hru h
    match j, h with
    | 0, h => exact h
    | 1, h => exact h
    | 2, h => exact h
    | 3, h => exact h
    | 4, h => exact h
    | 5, h => exact h
    | 6, h => exact h
    | 7, h => exact h
    | 8, h => exact h
    | 9, h => exact h
    | 10, h => exact h
    | 11, h => exact h
    | 12, h => exact h
    | 13, h => exact h
    | 14, h => exact h
    | 15, h => exact h
    | 16, h => exact h
    | 17, h => exact h
    | 18, h => exact h
    | 19, h => exact trivial
    | 20, h => exact absurd rfl hne
    | 21, h => exact h.elim
    | (k + 22), h => exact h
   intro xx w6 hF hx
   have HW := hx 21 (by simp)
   clear hx
   simp only [putAll, Act.put, List.setIfInBounds_toArray, List.set_cons_succ, List.set_cons_zero, Nat.zero_add, Nat.reduceAdd]
   have HWW := hid HW
   clear HW CL
   generalize xx 21 = u' at *
   generalize xx 18 = u8' at *
   generalize xx 19 = u9' at *
   go_wp2_with fail
   go_roundw
   case rel => exact ⟨j + 1, by omega, by go_num, by rw [← HP.out]; exact HWW.out, hF⟩
   case measure => simp [intOf]; omega
  ·have hli : ¬ ((j : Int) + 1 < (x.length : Int)) := by omega
   have HE := hid (show j + 1 = x.length by omega)
   go_wp2_with fail
   go_ret
   exact ⟨_, rfl, by rw [HE.out] at hst; exact hst.mono hlW, hbW.trans (hb4r.mono hlW)⟩
set_option maxRecDepth 100000 in
set_option maxHeartbeats 4000000 in
theorem l06Arcs_any (p o : Nat) (v : Value) (x : XStroke) (w : World) (hp : w.cell? ⟨p, o, none⟩ = some v) (h : Arr ePoint w v x) (hv : validSt x = true) :
  Calls Tryz.prog 183 #[.pointer (some ⟨p, o, none⟩)] w (RetOwn eI 2 (arcL x x.length) w) := by
 obtain ⟨hl0, hl1⟩ := validSt_len hv
 obtain ⟨b, off, ao, cap, rfl, hnc, hcm, hao, hc⟩ := h
 obtain ⟨hao', hbw⟩ := hao (by omega)
 subst hao'
 unfold maxLen at hcm
 have HV := hid hv
 clear hv hao
 obtain ⟨W, hWd⟩ : ∃ W, W = w := ⟨_, rfl⟩
 have hbW : Below w.heap.size w W := by rw [hWd]; exact Below.refl _ _
 have hlW : w.heap.size ≤ W.heap.size := hbW.size
 have m0 : W.cell? ⟨p, o, none⟩ = some (.slice (some ⟨b, off, none⟩) x.length cap) := by rw [hWd]; exact hp
 have hcW : Cells ePoint W b off x := hc.below hbW hbw
 have hbwW : b < W.heap.size := by omega
 have HWd := hid hWd
 clear hWd
 go_enter Tryz.func183, Tryz.ntmps183
 go_upto_region 1 with fail
 rw [← HWd.out]
 go_upto_region 3 with fail
 obtain ⟨w4, hw4⟩ : ∃ u, u = W.alloc (.cells #[.int .i64 0] 2) := ⟨_, rfl⟩
 rw [← hw4]
 have hb4 : Below W.heap.size W w4 := by rw [hw4]; exact below_alloc _ _
 have ho4 : Own eI 2 W.heap.size w4 (.slice (some ⟨W.heap.size, 0, none⟩) 1 1) (arcL x 1) := by
  rw [hw4]
  exact own_blockI W
 have m4 := cell_later hb4 m0
 have hq4 : W.heap.size < w4.heap.size := by rw [hw4]; simp
 clear hw4
 go_loopw [3, 4] (fun u i wr => ∃ j : Nat, j + 1 ≤ x.length ∧ i = .int .i64 (j + 1) ∧ Own eI 2 W.heap.size wr u (arcL x (j + 1)) ∧ Below W.heap.size w4 wr) (fun _ i _ => x.length - (intOf i).toNat)
 case atStart => exact ⟨0, by omega, rfl, ho4, Below.refl _ _⟩
 case round =>
  clear ho4
  obtain ⟨j, hj, rfl, hst, hbl⟩ := hrel
  have hb4r : Below W.heap.size W wr := hb4.trans hbl
  have m1 := cell_later hb4r m0
  have hbr : W.heap.size ≤ wr.heap.size := hb4r.size
  by_cases hlt : j + 1 < x.length
  ·have hli : (j : Int) + 1 < (x.length : Int) := by omega
   have hji : (j : Int) < (x.length : Int) := by omega
   obtain ⟨a, ha⟩ : ∃ a, x[j]? = some a := ⟨_, List.getElem?_eq_getElem (by omega)⟩
   obtain ⟨pt, hcc⟩ : ∃ c, x[j + 1]? = some c := ⟨_, List.getElem?_eq_getElem hlt⟩
   have hcr := hcW.below hb4r hbwW
   obtain ⟨a0, a1, a2⟩ := ePoint_cells hcr ha
   obtain ⟨c0, c1, c2⟩ := ePoint_cells hcr hcc
   have CL := fun w' => l05Length_any a pt w' (validSt_okPt HV.out ha) (validSt_okPt HV.out hcc)
   have hlb := lenP_bd (validSt_okPt HV.out ha) (validSt_okPt HV.out hcc)
   have hab := arcN_bd HV.out j
   have hle := arcL_len x (j + 1)
   have hget := arcL_get x (Nat.lt_succ_self j)
   have HP := hid (show arcL x (j + 1) ++ [((arcN x j + lenP a pt : Nat) : Int)] = arcL x (j + 1 + 1) by rw [← arcN_succ ha hcc]; exact arcL_push x (j + 1))
   obtain ⟨A, hA⟩ : ∃ A, A = arcL x (j + 1) := ⟨_, rfl⟩
   rw [← hA] at hst hle hget HP
   obtain ⟨S, hS⟩ : ∃ S, S = arcN x j := ⟨_, rfl⟩
   rw [← hS] at hget HP hab
   obtain ⟨D, hD⟩ : ∃ D, D = lenP a pt := ⟨_, rfl⟩
   rw [← hD] at CL hlb HP
   have HLE := hid hle
   obtain ⟨gb, goff, ga, gc, hgv, hgn, hgm, hga, hgcells⟩ := hst.arr
   rw [hle] at hgv hgn hga
   obtain ⟨hga', hgw⟩ := hga (by omega)
   subst hga'
   subst hgv
   have g0 := eI_cell hgcells hget
   have ao : Hid (Own eI 2 W.heap.size wr (.slice (some ⟨gb, goff, none⟩) (j + 1) gc) A) := hid hst
   unfold maxLen at hgm
   have wr1 : IntKind.i64.wrap ((j : Int) + 1 - 1) = (j : Int) := by rw [Int.add_sub_cancel]; exact IntWalk.i64_in _ (by omega)
   have wr2 : IntKind.i64.wrap ((S : Int) + (D : Int)) = (S : Int) + (D : Int) := IntWalk.i64_in _ (by omega)
   have wr3 : IntKind.i64.wrap (j : Int) = (j : Int) := IntWalk.i64_in _ (by omega)
   have hj1 : (j : Int) < (j : Int) + 1 := by omega
   clear ha hcc hcr hA hS hD hget hle hga hgcells hst
   go_upto_region 5 with fail
   refine wp_region_stgy 22 24 (fun c w' => match c with | 0 => Below wr.heap.size wr w' | 1 => Below wr.heap.size wr w' | _ => Below W.heap.size w4 w') (fun c i v w' => match i with
         | 0 => v = .slice (some ⟨gb, goff, none⟩) (j + 1) gc
         | 1 => v = .slice (some ⟨gb, goff, none⟩) (j + 1) gc
         | 2 => v = .int .i64 (j + 1)
         | 3 => v = .int .i64 j
         | 4 => v = .pointer (some ⟨gb, goff + j, none⟩)
         | 5 => v = .int .i64 S
         | 6 => v = .pointer (some ⟨p, o, none⟩)
         | 7 => v = .pointer (some ⟨p, o, none⟩)
         | 8 => v = .pointer (some ⟨p, o, none⟩)
         | 9 => v = .slice (some ⟨b, off, none⟩) x.length cap
         | 10 => v = .int .i64 (j + 1)
         | 11 => v = .int .i64 j
         | 12 => v = .pointer (some ⟨b, off + j * 3, none⟩)
         | 13 => v = .agg #[.int .i64 a.x, .int .i64 a.y, .int .i64 a.t]
         | 14 => v = .pointer (some ⟨p, o, none⟩)
         | 15 => v = .pointer (some ⟨p, o, none⟩)
         | 16 => v = .pointer (some ⟨p, o, none⟩)
         | 17 => v = .slice (some ⟨b, off, none⟩) x.length cap
         | 18 => v = .int .i64 (j + 1)
         | 19 => v = .pointer (some ⟨b, off + (j + 1) * 3, none⟩)
         | 20 => v = .agg #[.int .i64 pt.x, .int .i64 pt.y, .int .i64 pt.t]
         | 21 => v = .int .i64 D
         | 22 => (match c with | 0 => True | 1 => v = .int .i64 (S + D) | _ => v = .int .i64 (S + D))
         | 23 => (match c with | 0 => False | 1 => Arr eI w' v [((S + D : Nat) : Int)] | _ => True)
         | 24 => (match c with | 0 => True | 1 => True | _ => (Own eI 2 W.heap.size w' v (A ++ [((S + D : Nat) : Int)])))
         | 25 => (match c with | 0 => False | 1 => False | _ => Own eI 2 W.heap.size w' v (A ++ [((S + D : Nat) : Int)]))
         | _ => True) (by kernel_rfl) (by kernel_rfl) (by kernel_rfl) (by kernel_rfl) (by kernel_rfl) ?_ ?_ ?_ ?_ ?_ ?_ (by decide) ?_
   ·exact (Below.refl _ wr).drew
   ·intro c w w' h hb
    match c, h with
    | 0, h => exact Below.trans (B := wr.heap.size) h (hb.mono (Below.size h))
    | 1, h => exact Below.trans (B := wr.heap.size) h (hb.mono (Below.size h))
    | (k + 2), h => exact (h.trans (hb.mono (Nat.le_trans hb4.size h.size)))
   ·intro c i v w w' h hb
    match i, h with
    | 0, h => exact h
    | 1, h => exact h
    | 2, h => exact h
    | 3, h => exact h
    | 4, h => exact h
    | 5, h => exact h
    | 6, h => exact h
    | 7, h => exact h
    | 8, h => exact h
    | 9, h => exact h
    | 10, h => exact h
    | 11, h => exact h
    | 12, h => exact h
    | 13, h => exact h
    | 14, h => exact h
    | 15, h => exact h
    | 16, h => exact h
    | 17, h => exact h
    | 18, h => exact h
    | 19, h => exact h
    | 20, h => exact h
    | 21, h => exact h
    | 22, h =>
     match c, h with
     | 0, h => exact trivial
     | 1, h => exact h
     | (k + 2), h => exact h
    | 23, h =>
     match c, h with
     | 0, h => exact h
     | 1, h => exact (h.below hb)
     | (k + 2), h => exact trivial
    | 24, h =>
     match c, h with
     | 0, h => exact trivial
     | 1, h => exact trivial
     | (k + 2), h => exact (h.below hb)
    | 25, h =>
     match c, h with
     | 0, h => exact h
     | 1, h => exact h
     | (k + 2), h => exact (h.below hb)
    | (k + 26), h => exact h
   ·refine ⟨?_, ?_, ?_, ?_, ?_, ?_, ?_, ?_, ?_, ?_, ?_, ?_, ?_, ?_, ?_, ?_, ?_, ?_, ?_, ?_, ?_, ?_, ?_, ?_, ?_, ?_, trivial⟩
    ·refine .inr (.inr ⟨fun _ => ?_, fun _ => ?_, can_no (by kernel_rfl)⟩)
     ·intro ρ w' hbw ht hcs hfn hgl hpr hdep G hG
      replace hbw : Below wr.heap.size wr w' := hbw
      refine ⟨fun _ => ?_, fun h => by cases h⟩
      have s3 : ρ (.tmp 3) = .slice (some ⟨gb, goff, none⟩) (j + 1) gc := hpr 25 3 rfl (by kernel_rfl)
      clear ht hdep hgl hpr
      go_simp
      exact hG _ _ (Below.refl _ _) rfl
     ·intro ρ w' hbw ht hcs hfn hgl hpr hdep G hG
      replace hbw : Below wr.heap.size wr w' := hbw
      refine ⟨fun _ => ?_, fun h => by cases h⟩
      have s3 : ρ (.tmp 3) = .slice (some ⟨gb, goff, none⟩) (j + 1) gc := hpr 25 3 rfl (by kernel_rfl)
      clear ht hdep hgl hpr
      go_simp
      exact hG _ _ (Below.refl _ _) rfl
    ·refine .inr (.inr ⟨fun _ => ?_, can_no (by kernel_rfl), can_no (by kernel_rfl)⟩)
     ·intro ρ w' hbw ht hcs hfn hgl hpr hdep G hG
      replace hbw : Below wr.heap.size wr w' := hbw
      refine ⟨fun _ => ?_, fun h => by cases h⟩
      have s3 : ρ (.tmp 3) = .slice (some ⟨gb, goff, none⟩) (j + 1) gc := hpr 25 3 rfl (by kernel_rfl)
      clear ht hdep hgl hpr
      go_simp
      exact hG _ _ (Below.refl _ _) rfl
    ·refine .inr (.inr ⟨fun _ => ?_, can_no (by kernel_rfl), can_no (by kernel_rfl)⟩)
     ·intro ρ w' hbw ht hcs hfn hgl hpr hdep G hG
      replace hbw : Below wr.heap.size wr w' := hbw
      refine ⟨fun _ => ?_, fun h => by cases h⟩
      have s4 : ρ (.tmp 4) = .int .i64 (j + 1) := ht 4 rfl
      clear ht hdep hgl hpr
      go_simp
      exact hG _ _ (Below.refl _ _) rfl
    ·refine .inr (.inr ⟨fun _ => ?_, can_no (by kernel_rfl), can_no (by kernel_rfl)⟩)
     ·intro ρ w' hbw ht hcs hfn hgl hpr hdep G hG
      replace hbw : Below wr.heap.size wr w' := hbw
      refine ⟨fun _ => ?_, fun h => by cases h⟩
      have s17 : ρ (.tmp 17) = .int .i64 (j + 1) := hdep ⟨2, .data⟩ (by simp) rfl 17 rfl
      clear ht hdep hgl hpr
      go_simp
      exact hG _ _ (Below.refl _ _) rfl
    ·refine .inr (.inr ⟨fun _ => ?_, can_no (by kernel_rfl), can_no (by kernel_rfl)⟩)
     ·intro ρ w' hbw ht hcs hfn hgl hpr hdep G hG
      replace hbw : Below wr.heap.size wr w' := hbw
      refine ⟨fun _ => ?_, fun h => by cases h⟩
      have s16 : ρ (.tmp 16) = .slice (some ⟨gb, goff, none⟩) (j + 1) gc := hdep ⟨1, .data⟩ (by simp) rfl 16 rfl
      have s18 : ρ (.tmp 18) = .int .i64 j := hdep ⟨3, .data⟩ (by simp) rfl 18 rfl
      clear ht hdep hgl hpr
      go_simp
      exact hG _ _ (Below.refl _ _) rfl
    ·refine .inr (.inr ⟨fun _ => ?_, can_no (by kernel_rfl), can_no (by kernel_rfl)⟩)
     ·intro ρ w' hbw ht hcs hfn hgl hpr hdep G hG
      replace hbw : Below wr.heap.size wr w' := hbw
      refine ⟨fun _ => ?_, fun h => by cases h⟩
      have s19 : ρ (.tmp 19) = .pointer (some ⟨gb, goff + j, none⟩) := hdep ⟨4, .data⟩ (by simp) rfl 19 rfl
      have m1 := cell_later hbw m1
      have g0 := cell_later hbw g0
      have a0 := cell_later hbw a0
      have a1 := cell_later hbw a1
      have a2 := cell_later hbw a2
      have c0 := cell_later hbw c0
      have c1 := cell_later hbw c1
      have c2 := cell_later hbw c2
      clear ht hdep hgl hpr
      go_simp
      exact hG _ _ (Below.refl _ _) rfl
    ·refine .inr (.inr ⟨fun _ => ?_, can_no (by kernel_rfl), can_no (by kernel_rfl)⟩)
     ·intro ρ w' hbw ht hcs hfn hgl hpr hdep G hG
      replace hbw : Below wr.heap.size wr w' := hbw
      refine ⟨fun _ => ?_, fun h => by cases h⟩
      have s0 : ρ (.tmp 0) = .pointer (some ⟨p, o, none⟩) := ht 0 rfl
      clear ht hdep hgl hpr
      go_simp
      exact hG _ _ (Below.refl _ _) rfl
    ·refine .inr (.inr ⟨fun _ => ?_, can_no (by kernel_rfl), can_no (by kernel_rfl)⟩)
     ·intro ρ w' hbw ht hcs hfn hgl hpr hdep G hG
      replace hbw : Below wr.heap.size wr w' := hbw
      refine ⟨fun _ => ?_, fun h => by cases h⟩
      have s21 : ρ (.tmp 21) = .pointer (some ⟨p, o, none⟩) := hdep ⟨6, .data⟩ (by simp) rfl 21 rfl
      clear ht hdep hgl hpr
      go_simp
      exact hG _ _ (Below.refl _ _) rfl
    ·refine .inr (.inr ⟨fun _ => ?_, can_no (by kernel_rfl), can_no (by kernel_rfl)⟩)
     ·intro ρ w' hbw ht hcs hfn hgl hpr hdep G hG
      replace hbw : Below wr.heap.size wr w' := hbw
      refine ⟨fun _ => ?_, fun h => by cases h⟩
      have s22 : ρ (.tmp 22) = .pointer (some ⟨p, o, none⟩) := hdep ⟨7, .data⟩ (by simp) rfl 22 rfl
      clear ht hdep hgl hpr
      go_simp
      exact hG _ _ (Below.refl _ _) rfl
    ·refine .inr (.inr ⟨fun _ => ?_, can_no (by kernel_rfl), can_no (by kernel_rfl)⟩)
     ·intro ρ w' hbw ht hcs hfn hgl hpr hdep G hG
      replace hbw : Below wr.heap.size wr w' := hbw
      refine ⟨fun _ => ?_, fun h => by cases h⟩
      have s23 : ρ (.tmp 23) = .pointer (some ⟨p, o, none⟩) := hdep ⟨8, .data⟩ (by simp) rfl 23 rfl
      have m1 := cell_later hbw m1
      have g0 := cell_later hbw g0
      have a0 := cell_later hbw a0
      have a1 := cell_later hbw a1
      have a2 := cell_later hbw a2
      have c0 := cell_later hbw c0
      have c1 := cell_later hbw c1
      have c2 := cell_later hbw c2
      clear ht hdep hgl hpr
      go_simp
      exact hG _ _ (Below.refl _ _) rfl
    ·refine .inr (.inr ⟨fun _ => ?_, can_no (by kernel_rfl), can_no (by kernel_rfl)⟩)
     ·intro ρ w' hbw ht hcs hfn hgl hpr hdep G hG
      replace hbw : Below wr.heap.size wr w' := hbw
      refine ⟨fun _ => ?_, fun h => by cases h⟩
      have s4 : ρ (.tmp 4) = .int .i64 (j + 1) := ht 4 rfl
      clear ht hdep hgl hpr
      go_simp
      exact hG _ _ (Below.refl _ _) rfl
    ·refine .inr (.inr ⟨fun _ => ?_, can_no (by kernel_rfl), can_no (by kernel_rfl)⟩)
     ·intro ρ w' hbw ht hcs hfn hgl hpr hdep G hG
      replace hbw : Below wr.heap.size wr w' := hbw
      refine ⟨fun _ => ?_, fun h => by cases h⟩
      have s25 : ρ (.tmp 25) = .int .i64 (j + 1) := hdep ⟨10, .data⟩ (by simp) rfl 25 rfl
      clear ht hdep hgl hpr
      go_simp
      exact hG _ _ (Below.refl _ _) rfl
    ·refine .inr (.inr ⟨fun _ => ?_, can_no (by kernel_rfl), can_no (by kernel_rfl)⟩)
     ·intro ρ w' hbw ht hcs hfn hgl hpr hdep G hG
      replace hbw : Below wr.heap.size wr w' := hbw
      refine ⟨fun _ => ?_, fun h => by cases h⟩
      have s24 : ρ (.tmp 24) = .slice (some ⟨b, off, none⟩) x.length cap := hdep ⟨9, .data⟩ (by simp) rfl 24 rfl
      have s26 : ρ (.tmp 26) = .int .i64 j := hdep ⟨11, .data⟩ (by simp) rfl 26 rfl
      clear ht hdep hgl hpr
      go_simp
      exact hG _ _ (Below.refl _ _) rfl
    ·refine .inr (.inr ⟨fun _ => ?_, can_no (by kernel_rfl), can_no (by kernel_rfl)⟩)
     ·intro ρ w' hbw ht hcs hfn hgl hpr hdep G hG
      replace hbw : Below wr.heap.size wr w' := hbw
      refine ⟨fun _ => ?_, fun h => by cases h⟩
      have s27 : ρ (.tmp 27) = .pointer (some ⟨b, off + j * 3, none⟩) := hdep ⟨12, .data⟩ (by simp) rfl 27 rfl
      have m1 := cell_later hbw m1
      have g0 := cell_later hbw g0
      have a0 := cell_later hbw a0
      have a1 := cell_later hbw a1
      have a2 := cell_later hbw a2
      have c0 := cell_later hbw c0
      have c1 := cell_later hbw c1
      have c2 := cell_later hbw c2
      clear ht hdep hgl hpr
      go_simp
      exact hG _ _ (Below.refl _ _) rfl
    ·refine .inr (.inr ⟨fun _ => ?_, can_no (by kernel_rfl), can_no (by kernel_rfl)⟩)
     ·intro ρ w' hbw ht hcs hfn hgl hpr hdep G hG
      replace hbw : Below wr.heap.size wr w' := hbw
      refine ⟨fun _ => ?_, fun h => by cases h⟩
      have s0 : ρ (.tmp 0) = .pointer (some ⟨p, o, none⟩) := ht 0 rfl
      clear ht hdep hgl hpr
      go_simp
      exact hG _ _ (Below.refl _ _) rfl
    ·refine .inr (.inr ⟨fun _ => ?_, can_no (by kernel_rfl), can_no (by kernel_rfl)⟩)
     ·intro ρ w' hbw ht hcs hfn hgl hpr hdep G hG
      replace hbw : Below wr.heap.size wr w' := hbw
      refine ⟨fun _ => ?_, fun h => by cases h⟩
      have s29 : ρ (.tmp 29) = .pointer (some ⟨p, o, none⟩) := hdep ⟨14, .data⟩ (by simp) rfl 29 rfl
      clear ht hdep hgl hpr
      go_simp
      exact hG _ _ (Below.refl _ _) rfl
    ·refine .inr (.inr ⟨fun _ => ?_, can_no (by kernel_rfl), can_no (by kernel_rfl)⟩)
     ·intro ρ w' hbw ht hcs hfn hgl hpr hdep G hG
      replace hbw : Below wr.heap.size wr w' := hbw
      refine ⟨fun _ => ?_, fun h => by cases h⟩
      have s30 : ρ (.tmp 30) = .pointer (some ⟨p, o, none⟩) := hdep ⟨15, .data⟩ (by simp) rfl 30 rfl
      clear ht hdep hgl hpr
      go_simp
      exact hG _ _ (Below.refl _ _) rfl
    ·refine .inr (.inr ⟨fun _ => ?_, can_no (by kernel_rfl), can_no (by kernel_rfl)⟩)
     ·intro ρ w' hbw ht hcs hfn hgl hpr hdep G hG
      replace hbw : Below wr.heap.size wr w' := hbw
      refine ⟨fun _ => ?_, fun h => by cases h⟩
      have s31 : ρ (.tmp 31) = .pointer (some ⟨p, o, none⟩) := hdep ⟨16, .data⟩ (by simp) rfl 31 rfl
      have m1 := cell_later hbw m1
      have g0 := cell_later hbw g0
      have a0 := cell_later hbw a0
      have a1 := cell_later hbw a1
      have a2 := cell_later hbw a2
      have c0 := cell_later hbw c0
      have c1 := cell_later hbw c1
      have c2 := cell_later hbw c2
      clear ht hdep hgl hpr
      go_simp
      exact hG _ _ (Below.refl _ _) rfl
    ·refine .inr (.inr ⟨fun _ => ?_, can_no (by kernel_rfl), can_no (by kernel_rfl)⟩)
     ·intro ρ w' hbw ht hcs hfn hgl hpr hdep G hG
      replace hbw : Below wr.heap.size wr w' := hbw
      refine ⟨fun _ => ?_, fun h => by cases h⟩
      have s4 : ρ (.tmp 4) = .int .i64 (j + 1) := ht 4 rfl
      clear ht hdep hgl hpr
      go_simp
      exact hG _ _ (Below.refl _ _) rfl
    ·refine .inr (.inr ⟨fun _ => ?_, can_no (by kernel_rfl), can_no (by kernel_rfl)⟩)
     ·intro ρ w' hbw ht hcs hfn hgl hpr hdep G hG
      replace hbw : Below wr.heap.size wr w' := hbw
      refine ⟨fun _ => ?_, fun h => by cases h⟩
      have s32 : ρ (.tmp 32) = .slice (some ⟨b, off, none⟩) x.length cap := hdep ⟨17, .data⟩ (by simp) rfl 32 rfl
      have s33 : ρ (.tmp 33) = .int .i64 (j + 1) := hdep ⟨18, .data⟩ (by simp) rfl 33 rfl
      clear ht hdep hgl hpr
      go_simp
      exact hG _ _ (Below.refl _ _) rfl
    ·refine .inr (.inr ⟨fun _ => ?_, can_no (by kernel_rfl), can_no (by kernel_rfl)⟩)
     ·intro ρ w' hbw ht hcs hfn hgl hpr hdep G hG
      replace hbw : Below wr.heap.size wr w' := hbw
      refine ⟨fun _ => ?_, fun h => by cases h⟩
      have s34 : ρ (.tmp 34) = .pointer (some ⟨b, off + (j + 1) * 3, none⟩) := hdep ⟨19, .data⟩ (by simp) rfl 34 rfl
      have m1 := cell_later hbw m1
      have g0 := cell_later hbw g0
      have a0 := cell_later hbw a0
      have a1 := cell_later hbw a1
      have a2 := cell_later hbw a2
      have c0 := cell_later hbw c0
      have c1 := cell_later hbw c1
      have c2 := cell_later hbw c2
      clear ht hdep hgl hpr
      go_simp
      exact hG _ _ (Below.refl _ _) rfl
    ·refine .inr (.inr ⟨fun _ => ?_, can_no (by kernel_rfl), can_no (by kernel_rfl)⟩)
     ·intro ρ w' hbw ht hcs hfn hgl hpr hdep G hG
      replace hbw : Below wr.heap.size wr w' := hbw
      refine ⟨fun _ => ?_, fun h => by cases h⟩
      have s28 : ρ (.tmp 28) = .agg #[.int .i64 a.x, .int .i64 a.y, .int .i64 a.t] := hdep ⟨13, .data⟩ (by simp) rfl 28 rfl
      have s35 : ρ (.tmp 35) = .agg #[.int .i64 pt.x, .int .i64 pt.y, .int .i64 pt.t] := hdep ⟨20, .data⟩ (by simp) rfl 35 rfl
      clear ht hdep hgl hpr
      go_simp
      exact (CL w').mono fun e w'' ⟨he, hb⟩ => ⟨_, he, hG _ _ hb rfl⟩
    ·exact .inl rfl
    ·refine .inr (.inr ⟨can_no (by kernel_rfl), fun _ => ?_, can_no (by kernel_rfl)⟩)
     ·intro ρ w' hbw ht hcs hfn hgl hpr hdep G hG
      replace hbw : Below wr.heap.size wr w' := hbw
      refine ⟨fun _ => ?_, fun h => by cases h⟩
      have d37 := hdep ⟨22, .data⟩ (by simp) rfl 37 rfl
      clear ht hdep hgl hpr
      replace d37 : ρ (.tmp 37) = .int .i64 (S + D) := d37
      go_simp
      exact hG _ _ (below_alloc _ _) (arr_block1 (E := eI) (n := 1) [((S + D : Nat) : Int)] #[.int .i64 (S + D)] (by push_cast; rfl) rfl (by decide) (by simp))
    ·exact .inr (.inl rfl)
    ·refine .inr (.inr ⟨can_no (by kernel_rfl), can_no (by kernel_rfl), fun _ => ?_⟩)
     ·intro ρ w' hbw ht hcs hfn hgl hpr hdep G hG
      refine ⟨fun _ => ?_, fun h => by cases h⟩
      have d39 := hdep ⟨24, .data⟩ (by simp) rfl 39 rfl
      clear ht hdep hgl hpr
      go_simp
      exact hG _ _ (Below.refl _ _) d39
   ·intro o ho
    obtain rfl := Option.some.inj ho
    intro ρ w' hbw ht hcs hfn hgl hpr hdep G hG
    replace hbw : Below wr.heap.size wr w' := hbw
    refine ⟨fun _ => ?_, fun h => by cases h⟩
    have s20 : ρ (.tmp 20) = .int .i64 S := hdep ⟨5, .data⟩ (by simp) rfl 20 rfl
    have s36 : ρ (.tmp 36) = .int .i64 D := hdep ⟨21, .data⟩ (by simp) rfl 36 rfl
    clear ht hdep hgl hpr
    go_simp
    refine hG _ _ hbw rfl ?_
    intro j u hj hne h
    match j, h with
    | 0, h => exact h
    | 1, h => exact h
    | 2, h => exact h
    | 3, h => exact h
    | 4, h => exact h
    | 5, h => exact h
    | 6, h => exact h
    | 7, h => exact h
    | 8, h => exact h
    | 9, h => exact h
    | 10, h => exact h
    | 11, h => exact h
    | 12, h => exact h
    | 13, h => exact h
    | 14, h => exact h
    | 15, h => exact h
    | 16, h => exact h
    | 17, h => exact h
    | 18, h => exact h
    | 19, h => exact h
    | 20, h => exact h
    | 21, h => exact h
    | 22, h => exact absurd rfl hne
    | 23, h => exact h.elim
    | 24, h => exact trivial
    | 25, h => exact h
    | (k + 26), h => exact h
   ·intro o ho
    obtain rfl := Option.some.inj ho
    intro ρ w' hbw ht hcs hfn hgl hpr hdep G hG
    replace hbw : Below wr.heap.size wr w' := hbw
    refine ⟨fun _ => ?_, fun h => by cases h⟩
    have s15 : ρ (.tmp 15) = .slice (some ⟨gb, goff, none⟩) (j + 1) gc := hdep ⟨0, .data⟩ (by simp) rfl 15 rfl
    have d38 := hdep ⟨23, .data⟩ (by simp) rfl 38 rfl
    clear ht hdep hgl hpr
    refine upon_appO _ _ 139 (by rfl) W.heap.size 2 _ 8 infoI Tryz.underlying139 rfl _ A s15 (ao.out.below hbw) [((S + D : Nat) : Int)] d38 (by rw [HLE.out]; unfold maxLen; simp <;> omega) (by rw [HLE.out]; simp <;> omega) (by have := hbw.size; omega) ?_
    intro v' wA hoA hgA hlA
    refine hG _ _ ((hbl.trans (hbw.mono hbr)).grown hgA (by have := hbw.size; omega) (fun kk hh => (World.ownsRow.lt (ao.out.below hbw) kk hh).1)) hoA ?_
    intro j u hj hne hru h
    match j, h with
    | 0, h => exact h
    | 1, h => exact h
    | 2, h => exact h
    | 3, h => exact h
    | 4, h => exact h
    | 5, h => exact h
    | 6, h => exact h
    | 7, h => exact h
    | 8, h => exact h
    | 9, h => exact h
    | 10, h => exact h
    | 11, h => exact h
    | 12, h => exact h
    | 13, h => exact h
    | 14, h => exact h
    | 15, h => exact h
    | 16, h => exact h
    | 17, h => exact h
    | 18, h => exact h
    | 19, h => exact h
    | 20, h => exact h
    | 21, h => exact h
    | 22, h => exact h
    | 23, h => exact trivial
    | 24, h => exact absurd rfl hne
    | 25, h => exact h.elim
    | (k + 26), h => exact h
   intro xx w6 hF hx
   have HW := hx 25 (by simp)
   clear hx
   simp only [putAll, Act.put, List.setIfInBounds_toArray, List.set_cons_succ, List.set_cons_zero, Nat.zero_add, Nat.reduceAdd]
   have HWW := hid HW
   clear HW CL
   generalize xx 25 = u' at *
   generalize xx 22 = u8' at *
   generalize xx 23 = u9' at *
   go_wp2_with fail
   go_roundw
   case rel => exact ⟨j + 1, by omega, by go_num, by rw [← HP.out]; exact HWW.out, hF⟩
   case measure => simp [intOf]; omega
  ·have hli : ¬ ((j : Int) + 1 < (x.length : Int)) := by omega
   have HE := hid (show j + 1 = x.length by omega)
   go_wp2_with fail
   go_ret
   exact ⟨_, rfl, by rw [HE.out] at hst; exact hst.mono hlW, hbW.trans (hb4r.mono hlW)⟩
end Go.Proofs.YtlnoelbeaolikaaGreat
