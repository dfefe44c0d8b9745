/- The table of least costs: the reference. -/
import Derived.Test.YtlnoelbeaolikaaGreatK13
import Derived.Test.YtlnoelbeaolikaaGreatK15
import Derived.Deep.CutRange
import Derived.Test.YtlnoelbeaolikaaGreatK02
namespace Go.Proofs.YtlnoelbeaolikaaGreat
open Go.RowKit
theorem ownE_set {e : TypeId} {B g cap n : Nat} {w : World} {xs : List Int} (h : Own eI e B w (.slice (some ⟨g, 0, none⟩) n cap) xs) (hn : n = xs.length) {k : Nat} (hk : k < n) (u : Int) :
  Own eI e B (w.setCell ⟨g, k, none⟩ (.int .i64 u)) (.slice (some ⟨g, 0, none⟩) n cap) (xs.set k u) ∧ w.grownBy (w.setCell ⟨g, k, none⟩ (.int .i64 u)) (some g) := by
 have h1 := h.set hn k (by omega) u
 have e2 : storesAt w g (k * eI.sz) (eI.row u) = w.setCell ⟨g, k, none⟩ (.int .i64 u) := by
  show w.setCell ⟨g, k * 1, none⟩ _ = _
  rw [Nat.mul_one]
 rwa [e2] at h1
theorem ownE_get {e : TypeId} {B g cap n : Nat} {w : World} {xs : List Int} (h : Own eI e B w (.slice (some ⟨g, 0, none⟩) n cap) xs) {k : Nat} {u : Int} (hk : xs[k]? = some u) : w.cell? ⟨g, k, none⟩ = some (.int .i64 u) := by
 obtain ⟨b, off, ao, cap', hv, _, _, hao, hc⟩ := h.arr
 have hk0 : 0 < xs.length := by have := (List.getElem?_eq_some_iff.1 hk).1; omega
 obtain ⟨e1, _⟩ := hao hk0
 simp only [Value.slice.injEq] at hv
 obtain ⟨e2, _, _⟩ := hv
 rw [e1] at e2
 simp only [Option.some.injEq, Addr.mk.injEq, and_true] at e2
 obtain ⟨rfl, rfl⟩ := e2
 have := eI_cell hc hk
 rwa [Nat.zero_add] at this
/-- the first cells of a table of rows of m, row by row -/
def PartT (T : Nat → Nat → Int) (m i j : Nat) (ys : List Int) : Prop := ∀ i' j', j' < m → (i' < i ∨ (i' = i ∧ j' < j)) → ys[i' * m + j']? = some (T i' j')
theorem PartT.next {T : Nat → Nat → Int} {m i j : Nat} {ys : List Int} (h : PartT T m i j ys) (hj : j < m) (hl : i * m + j < ys.length) : PartT T m i (j + 1) (ys.set (i * m + j) (T i j)) := by
 intro i' j' hj' hc
 by_cases e : i' * m + j' = i * m + j
 ·have e1 : i' = i := by
   rcases Nat.lt_trichotomy i' i with h1 | h1 | h1
   ·have := Nat.mul_le_mul_right m (show i' + 1 ≤ i by omega)
    rw [Nat.add_mul, Nat.one_mul] at this
    omega
   ·exact h1
   ·have := Nat.mul_le_mul_right m (show i + 1 ≤ i' by omega)
    rw [Nat.add_mul, Nat.one_mul] at this
    omega
  subst e1
  obtain rfl : j' = j := by omega
  rw [List.getElem?_set_self (by omega)]
 ·rw [List.getElem?_set_ne (Ne.symm e)]
  refine h i' j' hj' ?_
  rcases hc with h1 | ⟨h1, h2⟩
  ·exact .inl h1
  ·subst h1
   exact .inr ⟨rfl, by omega⟩
theorem PartT.row {T : Nat → Nat → Int} {m i : Nat} {ys : List Int} (h : PartT T m i m ys) : PartT T m (i + 1) 0 ys := by
 intro i' j' hj' hc
 refine h i' j' hj' ?_
 omega
def TabPost (M : Int) (a b : List DFeat) (r NM : Nat) (w : World) (e : Ending) (w' : World) : Prop := ∃ g ys, e = .returned (.slice (some ⟨g, 0, none⟩) NM NM) ∧ Own eI 2 w.heap.size w' (.slice (some ⟨g, 0, none⟩) NM NM) ys ∧ ys.length = NM ∧ PartT (tabF M (cF a b) r) b.length a.length 0 ys ∧ Below w.heap.size w w'
theorem inBd_abs {r i j : Nat} : ((r : Int) < absI ((i : Int) - (j : Int))) ↔ ¬ inBd r i j := by
 unfold inBd absI
 split <;> omega
set_option maxRecDepth 100000 in
set_option maxHeartbeats 8000000 in
theorem l09Table_any (u v : Value) (a b : List DFeat) (r : Nat) (w : World) (ha : Arr eFeat w u a) (hb : Arr eFeat w v b) (oa : ∀ f ∈ a, okF f) (ob : ∀ f ∈ b, okF f) (a1 : 1 ≤ a.length) (a2 : a.length ≤ 72) (b1 : 1 ≤ b.length) (b2 : b.length ≤ 72) (_ : r ≤ 72) :
  Calls Tryz.prog 139 #[u, v, .int .i64 r] w (TabPost 1000000000 a b r (a.length * b.length) w) := by
 obtain ⟨ga, offa, aa, ca, rfl, hna, hma, haa, hca⟩ := ha
 obtain ⟨gb, offb, ab, cb, rfl, hnb, hmb, hab, hcb⟩ := hb
 obtain ⟨haa', hwa⟩ := haa (by omega)
 obtain ⟨hab', hwb⟩ := hab (by omega)
 subst haa' hab'
 unfold maxLen at hma hmb
 obtain ⟨NM, hNM⟩ : ∃ NM, NM = a.length * b.length := ⟨_, rfl⟩
 have hNMi : (a.length : Int) * (b.length : Int) = (NM : Int) := by rw [hNM]; push_cast; rfl
 have hNMb : NM ≤ 5184 := by rw [hNM]; have := Nat.mul_le_mul a2 b2; omega
 rw [← hNM]
 have HNM := hid hNM
 clear hNM haa hab
 obtain ⟨i0, hi, hz0, hz1, hz2⟩ := info_parts infoI
 have OKA := hid oa
 have OKB := hid ob
 have HT := hid (fun ri j => tabF_eq 1000000000 (cF a b) r ri j)
 obtain ⟨T, hT⟩ : ∃ T, T = tabF 1000000000 (cF a b) r := ⟨_, rfl⟩
 rw [← hT] at HT
 have HTT := hid hT
 clear oa ob hT
 go_enter Tryz.func139, Tryz.ntmps139
 go_wp2_with (at_make; refine wpList_make_full _ rfl _ _ 139 rfl w.heap.size 2 i0 _ 1 Tryz.underlying139 hi hz0 hz1 _ _ _ _ NM rfl rfl rfl rfl (by rw [hz2]; omega) (by unfold maxLen; omega) (Nat.le_refl _) ?_; intro w1 hown hgr)
 have hown := Own.made (E := eI) (z := (0 : Int)) hown rfl
 obtain ⟨g, hg⟩ : ∃ g, g = w.heap.size := ⟨_, rfl⟩
 rw [← hg] at hown ⊢
 have hw1 : Below g w w1 := by rw [hg]; exact (Below.refl _ _).grown hgr (Nat.le_refl _) (by simp)
 have hg1 : g < w1.heap.size := hown.lt.2
 have hga : ga < g := by rw [hg]; exact hwa
 have hgb : gb < g := by rw [hg]; exact hwb
 have Hg := hid hg
 clear hg hgr hi hz0 hz1 hz2
 go_loopw [10] (fun iv wr => ∃ (ri : Nat) (ys : List Int), ri ≤ a.length ∧ iv = .int .i64 ri ∧ Own eI 2 g wr (.slice (some ⟨g, 0, none⟩) NM NM) ys ∧ ys.length = NM ∧ PartT T b.length ri 0 ys ∧ Below g w wr) (fun iv _ => a.length - (intOf iv).toNat)
 case atStart => exact ⟨0, _, Nat.zero_le _, rfl, hown, by simp, fun ri' j' h1 h2 => by omega, hw1⟩
 case round =>
  clear hown hw1 hg1
  obtain ⟨w2, rfl⟩ : ∃ u, u = wr := ⟨wr, rfl⟩
  obtain ⟨ri, ys0, hil, rfl, hown, hyl, hpt, hbl⟩ := hrel
  by_cases hlt : ri < a.length
  ·have hli : (ri : Int) < (a.length : Int) := by omega
   by_cases hi0 : ri = 0
   ·subst hi0
    try rw [show (((0 : Nat)) : Int) = (0 : Int) from rfl]
    have hli0 : (0 : Int) < (a.length : Int) := by omega
    obtain ⟨x, hx⟩ : ∃ x, a[0]? = some x := ⟨_, List.getElem?_eq_getElem hlt⟩
    have hcr := hca.below hbl hga
    go_upto_region 8 with fail
    go_loopw [11] (fun jv wr => ∃ (j : Nat) (ys : List Int), j ≤ b.length ∧ jv = .int .i64 j ∧ Own eI 2 g wr (.slice (some ⟨g, 0, none⟩) NM NM) ys ∧ ys.length = NM ∧ PartT T b.length 0 j ys ∧ Below g w wr) (fun jv _ => b.length - (intOf jv).toNat)
    case atStart => exact ⟨0, ys0, Nat.zero_le _, rfl, hown, hyl, hpt, hbl⟩
    case round =>
     clear hown hyl hpt hbl hcr
     obtain ⟨w3, rfl⟩ : ∃ u, u = wr := ⟨wr, rfl⟩
     obtain ⟨j, ys, hjl, rfl, hown, hyl, hpt, hbl⟩ := hrel
     by_cases hjt : j < b.length
     ·have hji : (j : Int) < (b.length : Int) := by omega
      obtain ⟨y, hy⟩ : ∃ y, b[j]? = some y := ⟨_, List.getElem?_eq_getElem hjt⟩
      obtain ⟨x0, x1, x2⟩ := eFeat_cells (hca.below hbl hga) hx
      obtain ⟨y0, y1, y2⟩ := eFeat_cells (hcb.below hbl hgb) hy
      have okx := OKA.out x (List.mem_of_getElem? hx)
      have oky := OKB.out y (List.mem_of_getElem? hy)
      have CC := fun w' => l09Cost_any x y w' okx oky
      have hcb := costF_bd okx oky
      have hcf : cF a b 0 j = costF x y := cF_eq hx hy
      obtain ⟨K, hK⟩ : ∃ K, K = j := ⟨_, rfl⟩
      have hPb : K < NM := by
       have := Nat.mul_le_mul_right b.length a1
       rw [Nat.one_mul, ← HNM.out] at this
       omega
      have hnx := PartT.next hpt hjt (by rw [hyl, Nat.zero_mul, Nat.zero_add]; omega)
      rw [Nat.zero_mul, Nat.zero_add, ← hK] at hnx
      have hTe := HT.out 0 j
      obtain ⟨B, hB⟩ : ∃ B, B = befF 1000000000 (cF a b) r 0 j := ⟨_, rfl⟩
      rw [← hB] at hTe
      have hBd : B ≤ 1000000000 := by rw [hB]; unfold befF; split; omega; exact least3_le _ _ _ _
      have hBd0 : 0 ≤ B := by rw [hB]; exact befF_nonneg (by omega) (fun ri j => (cF_bd OKA.out OKB.out ri j).1) r _ _
      obtain ⟨u0, hu0⟩ := ownN_slot hown hyl.symm rfl (k := K) hPb
      have hfr := hown.free hyl.symm
      have hls := hbl.size
      have HY := hid hyl
      have HNX := hid hnx
      have HTE := hid hTe
      have HCF := hid hcf
      have HO := hid hown
      have n4 : (K : Int) < (NM : Int) := by omega
      have hfrK := hfr K
      have hgl : g ≤ w3.heap.size := Nat.le_of_lt hown.lt.2
      obtain ⟨D, hD⟩ : ∃ D, D = absI (((0 : Nat) : Int) - (j : Int)) := ⟨_, rfl⟩
      have CSz := fun n w' (hn : n = ((0 : Nat) : Int) - (j : Int)) => l09Size_any n w' (by omega) (by omega)
      have CSz : ∀ n w', n = ((0 : Nat) : Int) - (j : Int) → Calls Tryz.prog 180 #[.int .i64 n] w' fun e w'' => e = .returned (.int .i64 D) ∧ w' = w'' := fun n w' hn => by have := CSz n w' hn; rw [hD, ← hn]; exact this
      have HD := hid (@inBd_abs r 0 j)
      rw [← hD] at HD
      obtain ⟨V, hVd⟩ : ∃ V, V = cF a b 0 j := ⟨_, rfl⟩
      clear hD
      by_cases hj0 : j = 0
      ·subst hj0
       have hK2 := hK.symm
       clear hK
       subst hK2
       obtain rfl : B = 0 := by rw [hB]; rfl
       clear hB hown hyl hpt hnx hTe hcf hx hy
       go_upto_region 19 with fail
       by_cases hrd : (r : Int) < D
       ·have HV := hid (show T 0 0 = 1000000000 by rw [HTE.out]; exact if_pos (.inl (HD.out.1 hrd)))
        go_wp2_with fail
        refine (CSz _ _ (by omega)).mono ?_
        rintro e w' ⟨rfl, rfl⟩
        go_wp2_with fail
        go_roundw
        case rel =>
         have h1 := ownE_set HO.out HY.out.symm hPb 1000000000
         exact ⟨0 + 1, _, by omega, by go_num, h1.1, by rw [List.length_set]; exact HY.out, by rw [← HV.out]; exact HNX.out, hbl.grown h1.2 hgl (fun kk hh => by cases hh; exact Nat.le_refl _)⟩
        case measure => simp [intOf]; omega
       ·have hVa : T 0 0 = 0 + V := by rw [HTE.out, hVd]; exact if_neg (fun h => h.elim (fun h => hrd (HD.out.2 h)) (fun h => by omega))
        have HV := hid (show T 0 0 = V by omega)
        clear hVa
        have hVx : V = costF x y := by rw [hVd]; exact HCF.out
        rw [← hVx] at CC hcb
        clear hVx hVd
        go_wp2_with fail
        refine (CSz _ _ (by omega)).mono ?_
        rintro e w' ⟨rfl, rfl⟩
        go_upto_region 21 with fail
        have wr1 : IntKind.i64.wrap V = V := IntWalk.i64_in _ (by omega)
        have hB2 : 0 ≤ V := by omega
        simp only [Nat.zero_mul, Nat.add_zero] at x0 x1 x2
        simp only [Nat.zero_mul, Nat.add_zero] at y0 y1 y2
        refine wp_region_stg 16 18 (fun c w' => match c with | 0 => Below w3.heap.size w3 w' | 1 => Below w3.heap.size w3 w' | _ => Own eI 2 g w' (.slice (some ⟨g, 0, none⟩) NM NM) (ys.set 0 V) ∧ Below g w w') (fun c i v w' => match i with
              | 0 => v = .slice (some ⟨g, 0, none⟩) NM NM
              | 1 => v = .int .i64 0
              | 2 => v = .int .i64 b.length
              | 3 => v = .int .i64 0
              | 4 => v = .int .i64 0
              | 5 => v = .int .i64 0
              | 6 => v = .int .i64 0
              | 7 => v = .slice (some ⟨ga, offa, none⟩) a.length ca
              | 8 => v = .int .i64 0
              | 9 => v = .pointer (some ⟨ga, offa, none⟩)
              | 10 => v = .agg #[.int .i64 x.x, .int .i64 x.y, .int .i64 x.d]
              | 11 => v = .slice (some ⟨gb, offb, none⟩) b.length cb
              | 12 => v = .int .i64 0
              | 13 => v = .pointer (some ⟨gb, offb, none⟩)
              | 14 => v = .agg #[.int .i64 y.x, .int .i64 y.y, .int .i64 y.d]
              | 15 => v = .int .i64 V
              | 16 => (match c with | 0 => True | 1 => v = .int .i64 V | _ => v = .int .i64 V)
              | 17 => v = .pointer (some ⟨g, 0, none⟩)
              | 18 => (match c with | 0 => True | 1 => True | _ => True)
              | _ => True) (by kernel_rfl) (by kernel_rfl) (by kernel_rfl) (by kernel_rfl) (by kernel_rfl) ?_ ?_ ?_ ?_ ?_ ?_ (by decide) ?_
        ·exact (Below.refl _ w3).drew
        ·intro c w w' h hb
         match c, h with
         | 0, h => exact Below.trans (B := w3.heap.size) h (hb.mono (Below.size h))
         | 1, h => exact Below.trans (B := w3.heap.size) h (hb.mono (Below.size h))
         | (k + 2), h => exact ⟨h.1.below hb, h.2.trans (hb.mono (Nat.le_of_lt h.1.lt.2))⟩
        ·intro c i v w w' h hb
         match i, h with
         | 0, h => exact h
         | 1, h => exact h
         | 2, h => exact h
         | 3, h => exact h
         | 4, h => exact h
         | 5, h => exact h
         | 6, h => exact h
         | 7, h => exact h
         | 8, h => exact h
         | 9, h => exact h
         | 10, h => exact h
         | 11, h => exact h
         | 12, h => exact h
         | 13, h => exact h
         | 14, h => exact h
         | 15, h => exact h
         | 16, h =>
          match c, h with
          | 0, h => exact trivial
          | 1, h => exact h
          | (k + 2), h => exact h
         | 17, h => exact h
         | 18, h =>
          match c, h with
          | 0, h => exact trivial
          | 1, h => exact trivial
          | (k + 2), h => exact trivial
         | (k + 19), h => exact h
        ·refine ⟨?_, ?_, ?_, ?_, ?_, ?_, ?_, ?_, ?_, ?_, ?_, ?_, ?_, ?_, ?_, ?_, ?_, ?_, ?_, trivial⟩
         ·refine .inr (.inr ⟨fun _ => ?_, fun _ => ?_, can_no (by kernel_rfl)⟩)
          ·intro ρ w' hbw ht hcs hfn hgl hdep G hG
           replace hbw : Below w3.heap.size w3 w' := hbw
           refine ⟨fun _ => ?_, fun h => by cases h⟩
           have s9 : ρ (.tmp 9) = .slice (some ⟨g, 0, none⟩) NM NM := ht 9 rfl
           clear ht hdep hgl
           go_simp
           exact hG _ _ (Below.refl _ _) rfl
          ·intro ρ w' hbw ht hcs hfn hgl hdep G hG
           replace hbw : Below w3.heap.size w3 w' := hbw
           refine ⟨fun _ => ?_, fun h => by cases h⟩
           have s9 : ρ (.tmp 9) = .slice (some ⟨g, 0, none⟩) NM NM := ht 9 rfl
           clear ht hdep hgl
           go_simp
           exact hG _ _ (Below.refl _ _) rfl
         ·refine .inr (.inr ⟨fun _ => ?_, fun _ => ?_, can_no (by kernel_rfl)⟩)
          ·intro ρ w' hbw ht hcs hfn hgl hdep G hG
           replace hbw : Below w3.heap.size w3 w' := hbw
           refine ⟨fun _ => ?_, fun h => by cases h⟩
           have s10 : ρ (.tmp 10) = .int .i64 0 := ht 10 rfl
           clear ht hdep hgl
           go_simp
           exact hG _ _ (Below.refl _ _) rfl
          ·intro ρ w' hbw ht hcs hfn hgl hdep G hG
           replace hbw : Below w3.heap.size w3 w' := hbw
           refine ⟨fun _ => ?_, fun h => by cases h⟩
           have s10 : ρ (.tmp 10) = .int .i64 0 := ht 10 rfl
           clear ht hdep hgl
           go_simp
           exact hG _ _ (Below.refl _ _) rfl
         ·refine .inr (.inr ⟨fun _ => ?_, fun _ => ?_, can_no (by kernel_rfl)⟩)
          ·intro ρ w' hbw ht hcs hfn hgl hdep G hG
           replace hbw : Below w3.heap.size w3 w' := hbw
           refine ⟨fun _ => ?_, fun h => by cases h⟩
           have s8 : ρ (.tmp 8) = .int .i64 b.length := ht 8 rfl
           clear ht hdep hgl
           go_simp
           exact hG _ _ (Below.refl _ _) rfl
          ·intro ρ w' hbw ht hcs hfn hgl hdep G hG
           replace hbw : Below w3.heap.size w3 w' := hbw
           refine ⟨fun _ => ?_, fun h => by cases h⟩
           have s8 : ρ (.tmp 8) = .int .i64 b.length := ht 8 rfl
           clear ht hdep hgl
           go_simp
           exact hG _ _ (Below.refl _ _) rfl
         ·refine .inr (.inr ⟨fun _ => ?_, fun _ => ?_, can_no (by kernel_rfl)⟩)
          ·intro ρ w' hbw ht hcs hfn hgl hdep G hG
           replace hbw : Below w3.heap.size w3 w' := hbw
           refine ⟨fun _ => ?_, fun h => by cases h⟩
           have s99 : ρ (.tmp 99) = .int .i64 0 := hdep ⟨1, .data⟩ (by simp) rfl 99 rfl
           have s100 : ρ (.tmp 100) = .int .i64 b.length := hdep ⟨2, .data⟩ (by simp) rfl 100 rfl
           clear ht hdep hgl
           go_simp
           exact hG _ _ (Below.refl _ _) rfl
          ·intro ρ w' hbw ht hcs hfn hgl hdep G hG
           replace hbw : Below w3.heap.size w3 w' := hbw
           refine ⟨fun _ => ?_, fun h => by cases h⟩
           have s99 : ρ (.tmp 99) = .int .i64 0 := hdep ⟨1, .data⟩ (by simp) rfl 99 rfl
           have s100 : ρ (.tmp 100) = .int .i64 b.length := hdep ⟨2, .data⟩ (by simp) rfl 100 rfl
           clear ht hdep hgl
           go_simp
           exact hG _ _ (Below.refl _ _) rfl
         ·refine .inr (.inr ⟨fun _ => ?_, fun _ => ?_, can_no (by kernel_rfl)⟩)
          ·intro ρ w' hbw ht hcs hfn hgl hdep G hG
           replace hbw : Below w3.heap.size w3 w' := hbw
           refine ⟨fun _ => ?_, fun h => by cases h⟩
           have s11 : ρ (.tmp 11) = .int .i64 0 := ht 11 rfl
           clear ht hdep hgl
           go_simp
           exact hG _ _ (Below.refl _ _) rfl
          ·intro ρ w' hbw ht hcs hfn hgl hdep G hG
           replace hbw : Below w3.heap.size w3 w' := hbw
           refine ⟨fun _ => ?_, fun h => by cases h⟩
           have s11 : ρ (.tmp 11) = .int .i64 0 := ht 11 rfl
           clear ht hdep hgl
           go_simp
           exact hG _ _ (Below.refl _ _) rfl
         ·refine .inr (.inr ⟨fun _ => ?_, fun _ => ?_, can_no (by kernel_rfl)⟩)
          ·intro ρ w' hbw ht hcs hfn hgl hdep G hG
           replace hbw : Below w3.heap.size w3 w' := hbw
           refine ⟨fun _ => ?_, fun h => by cases h⟩
           have s101 : ρ (.tmp 101) = .int .i64 0 := hdep ⟨3, .data⟩ (by simp) rfl 101 rfl
           have s102 : ρ (.tmp 102) = .int .i64 0 := hdep ⟨4, .data⟩ (by simp) rfl 102 rfl
           clear ht hdep hgl
           go_simp
           exact hG _ _ (Below.refl _ _) rfl
          ·intro ρ w' hbw ht hcs hfn hgl hdep G hG
           replace hbw : Below w3.heap.size w3 w' := hbw
           refine ⟨fun _ => ?_, fun h => by cases h⟩
           have s101 : ρ (.tmp 101) = .int .i64 0 := hdep ⟨3, .data⟩ (by simp) rfl 101 rfl
           have s102 : ρ (.tmp 102) = .int .i64 0 := hdep ⟨4, .data⟩ (by simp) rfl 102 rfl
           clear ht hdep hgl
           go_simp
           exact hG _ _ (Below.refl _ _) rfl
         ·refine .inr (.inr ⟨fun _ => ?_, can_no (by kernel_rfl), can_no (by kernel_rfl)⟩)
          ·intro ρ w' hbw ht hcs hfn hgl hdep G hG
           replace hbw : Below w3.heap.size w3 w' := hbw
           refine ⟨fun _ => ?_, fun h => by cases h⟩
           have s12 : ρ (.tmp 12) = .int .i64 0 := ht 12 rfl
           clear ht hdep hgl
           go_simp
           exact hG _ _ (Below.refl _ _) rfl
         ·refine .inr (.inr ⟨fun _ => ?_, can_no (by kernel_rfl), can_no (by kernel_rfl)⟩)
          ·intro ρ w' hbw ht hcs hfn hgl hdep G hG
           replace hbw : Below w3.heap.size w3 w' := hbw
           refine ⟨fun _ => ?_, fun h => by cases h⟩
           have s0 : ρ (.tmp 0) = .slice (some ⟨ga, offa, none⟩) a.length ca := ht 0 rfl
           clear ht hdep hgl
           go_simp
           exact hG _ _ (Below.refl _ _) rfl
         ·refine .inr (.inr ⟨fun _ => ?_, can_no (by kernel_rfl), can_no (by kernel_rfl)⟩)
          ·intro ρ w' hbw ht hcs hfn hgl hdep G hG
           replace hbw : Below w3.heap.size w3 w' := hbw
           refine ⟨fun _ => ?_, fun h => by cases h⟩
           have s10 : ρ (.tmp 10) = .int .i64 0 := ht 10 rfl
           clear ht hdep hgl
           go_simp
           exact hG _ _ (Below.refl _ _) rfl
         ·refine .inr (.inr ⟨fun _ => ?_, can_no (by kernel_rfl), can_no (by kernel_rfl)⟩)
          ·intro ρ w' hbw ht hcs hfn hgl hdep G hG
           replace hbw : Below w3.heap.size w3 w' := hbw
           refine ⟨fun _ => ?_, fun h => by cases h⟩
           have s105 : ρ (.tmp 105) = .slice (some ⟨ga, offa, none⟩) a.length ca := hdep ⟨7, .data⟩ (by simp) rfl 105 rfl
           have s106 : ρ (.tmp 106) = .int .i64 0 := hdep ⟨8, .data⟩ (by simp) rfl 106 rfl
           clear ht hdep hgl
           go_simp
           exact hG _ _ (Below.refl _ _) rfl
         ·refine .inr (.inr ⟨fun _ => ?_, can_no (by kernel_rfl), can_no (by kernel_rfl)⟩)
          ·intro ρ w' hbw ht hcs hfn hgl hdep G hG
           replace hbw : Below w3.heap.size w3 w' := hbw
           refine ⟨fun _ => ?_, fun h => by cases h⟩
           have s107 : ρ (.tmp 107) = .pointer (some ⟨ga, offa, none⟩) := hdep ⟨9, .data⟩ (by simp) rfl 107 rfl
           have x0 := cell_later hbw x0
           have x1 := cell_later hbw x1
           have x2 := cell_later hbw x2
           have y0 := cell_later hbw y0
           have y1 := cell_later hbw y1
           have y2 := cell_later hbw y2
           clear ht hdep hgl
           go_simp
           exact hG _ _ (Below.refl _ _) rfl
         ·refine .inr (.inr ⟨fun _ => ?_, can_no (by kernel_rfl), can_no (by kernel_rfl)⟩)
          ·intro ρ w' hbw ht hcs hfn hgl hdep G hG
           replace hbw : Below w3.heap.size w3 w' := hbw
           refine ⟨fun _ => ?_, fun h => by cases h⟩
           have s1 : ρ (.tmp 1) = .slice (some ⟨gb, offb, none⟩) b.length cb := ht 1 rfl
           clear ht hdep hgl
           go_simp
           exact hG _ _ (Below.refl _ _) rfl
         ·refine .inr (.inr ⟨fun _ => ?_, can_no (by kernel_rfl), can_no (by kernel_rfl)⟩)
          ·intro ρ w' hbw ht hcs hfn hgl hdep G hG
           replace hbw : Below w3.heap.size w3 w' := hbw
           refine ⟨fun _ => ?_, fun h => by cases h⟩
           have s11 : ρ (.tmp 11) = .int .i64 0 := ht 11 rfl
           clear ht hdep hgl
           go_simp
           exact hG _ _ (Below.refl _ _) rfl
         ·refine .inr (.inr ⟨fun _ => ?_, can_no (by kernel_rfl), can_no (by kernel_rfl)⟩)
          ·intro ρ w' hbw ht hcs hfn hgl hdep G hG
           replace hbw : Below w3.heap.size w3 w' := hbw
           refine ⟨fun _ => ?_, fun h => by cases h⟩
           have s109 : ρ (.tmp 109) = .slice (some ⟨gb, offb, none⟩) b.length cb := hdep ⟨11, .data⟩ (by simp) rfl 109 rfl
           have s110 : ρ (.tmp 110) = .int .i64 0 := hdep ⟨12, .data⟩ (by simp) rfl 110 rfl
           clear ht hdep hgl
           go_simp
           exact hG _ _ (Below.refl _ _) rfl
         ·refine .inr (.inr ⟨fun _ => ?_, can_no (by kernel_rfl), can_no (by kernel_rfl)⟩)
          ·intro ρ w' hbw ht hcs hfn hgl hdep G hG
           replace hbw : Below w3.heap.size w3 w' := hbw
           refine ⟨fun _ => ?_, fun h => by cases h⟩
           have s111 : ρ (.tmp 111) = .pointer (some ⟨gb, offb, none⟩) := hdep ⟨13, .data⟩ (by simp) rfl 111 rfl
           have x0 := cell_later hbw x0
           have x1 := cell_later hbw x1
           have x2 := cell_later hbw x2
           have y0 := cell_later hbw y0
           have y1 := cell_later hbw y1
           have y2 := cell_later hbw y2
           clear ht hdep hgl
           go_simp
           exact hG _ _ (Below.refl _ _) rfl
         ·refine .inr (.inr ⟨fun _ => ?_, can_no (by kernel_rfl), can_no (by kernel_rfl)⟩)
          ·intro ρ w' hbw ht hcs hfn hgl hdep G hG
           replace hbw : Below w3.heap.size w3 w' := hbw
           refine ⟨fun _ => ?_, fun h => by cases h⟩
           have s108 : ρ (.tmp 108) = .agg #[.int .i64 x.x, .int .i64 x.y, .int .i64 x.d] := hdep ⟨10, .data⟩ (by simp) rfl 108 rfl
           have s112 : ρ (.tmp 112) = .agg #[.int .i64 y.x, .int .i64 y.y, .int .i64 y.d] := hdep ⟨14, .data⟩ (by simp) rfl 112 rfl
           clear ht hdep hgl
           go_simp
           exact (CC w').mono fun e w'' ⟨he, hb⟩ => ⟨_, he, hG _ _ hb rfl⟩
         ·exact .inl rfl
         ·refine .inr (.inr ⟨fun _ => ?_, fun _ => ?_, can_no (by kernel_rfl)⟩)
          ·intro ρ w' hbw ht hcs hfn hgl hdep G hG
           replace hbw : Below w3.heap.size w3 w' := hbw
           refine ⟨fun _ => ?_, fun h => by cases h⟩
           have s98 : ρ (.tmp 98) = .slice (some ⟨g, 0, none⟩) NM NM := hdep ⟨0, .data⟩ (by simp) rfl 98 rfl
           have s103 : ρ (.tmp 103) = .int .i64 0 := hdep ⟨5, .data⟩ (by simp) rfl 103 rfl
           clear ht hdep hgl
           go_simp
           exact hG _ _ (Below.refl _ _) rfl
          ·intro ρ w' hbw ht hcs hfn hgl hdep G hG
           replace hbw : Below w3.heap.size w3 w' := hbw
           refine ⟨fun _ => ?_, fun h => by cases h⟩
           have s98 : ρ (.tmp 98) = .slice (some ⟨g, 0, none⟩) NM NM := hdep ⟨0, .data⟩ (by simp) rfl 98 rfl
           have s103 : ρ (.tmp 103) = .int .i64 0 := hdep ⟨5, .data⟩ (by simp) rfl 103 rfl
           clear ht hdep hgl
           go_simp
           exact hG _ _ (Below.refl _ _) rfl
         ·exact .inr (.inl rfl)
        ·intro o ho
         obtain rfl := Option.some.inj ho
         intro ρ w' hbw ht hcs hfn hgl hdep G hG
         replace hbw : Below w3.heap.size w3 w' := hbw
         refine ⟨fun _ => ?_, fun h => by cases h⟩
         have s104 : ρ (.tmp 104) = .int .i64 0 := hdep ⟨6, .data⟩ (by simp) rfl 104 rfl
         have s113 : ρ (.tmp 113) = .int .i64 V := hdep ⟨15, .data⟩ (by simp) rfl 113 rfl
         clear ht hdep hgl
         go_simp
         refine hG _ _ hbw rfl ?_
         intro j u hj hne h
         match j, h with
         | 0, h => exact h
         | 1, h => exact h
         | 2, h => exact h
         | 3, h => exact h
         | 4, h => exact h
         | 5, h => exact h
         | 6, h => exact h
         | 7, h => exact h
         | 8, h => exact h
         | 9, h => exact h
         | 10, h => exact h
         | 11, h => exact h
         | 12, h => exact h
         | 13, h => exact h
         | 14, h => exact h
         | 15, h => exact h
         | 16, h => exact absurd rfl hne
         | 17, h => exact h
         | 18, h => exact trivial
         | (k + 19), h => exact h
        ·intro o ho
         obtain rfl := Option.some.inj ho
         intro ρ w' hbw ht hcs hfn hgl hdep G hG
         replace hbw : Below w3.heap.size w3 w' := hbw
         refine ⟨fun _ => ?_, fun h => by cases h⟩
         have s115 : ρ (.tmp 115) = .pointer (some ⟨g, 0, none⟩) := hdep ⟨17, .data⟩ (by simp) rfl 115 rfl
         have d114 := hdep ⟨16, .data⟩ (by simp) rfl 114 rfl
         clear ht hdep hgl
         replace d114 : ρ (.tmp 114) = .int .i64 V := d114
         have f0 := cell_later hbw hu0
         have ff := (HO.out.below hbw).free HY.out.symm 0
         have h1 := ownE_set (HO.out.below hbw) HY.out.symm (k := 0) hPb V
         have hx := hid (show Own eI 2 g (w'.setCell ⟨g, 0, none⟩ (.int .i64 V)) (.slice (some ⟨g, 0, none⟩) NM NM) (ys.set 0 V) ∧ Below g w (w'.setCell ⟨g, 0, none⟩ (.int .i64 V)) from ⟨h1.1, (hbl.trans (hbw.mono hgl)).grown h1.2 (Nat.le_trans hgl hbw.size) (fun kk hh => by cases hh; exact Nat.le_refl _)⟩)
         clear h1
         go_simp
         refine hG _ _ hx.out trivial ?_
         intro j u hj hne h
         match j, h with
         | 0, h => exact h
         | 1, h => exact h
         | 2, h => exact h
         | 3, h => exact h
         | 4, h => exact h
         | 5, h => exact h
         | 6, h => exact h
         | 7, h => exact h
         | 8, h => exact h
         | 9, h => exact h
         | 10, h => exact h
         | 11, h => exact h
         | 12, h => exact h
         | 13, h => exact h
         | 14, h => exact h
         | 15, h => exact h
         | 16, h => exact h
         | 17, h => exact h
         | 18, h => exact trivial
         | (k + 19), h => exact h
        intro xx w6 hF hx
        clear hx
        simp only [putAll, Act.put, List.setIfInBounds_toArray, List.set_cons_succ, List.set_cons_zero, Nat.zero_add, Nat.reduceAdd]
        generalize xx 16 = u16 at *
        obtain ⟨hFo, hFb⟩ := hF
        go_wp2_with fail
        go_roundw
        case rel => exact ⟨0 + 1, _, by omega, by go_num, hFo, by rw [List.length_set]; exact HY.out, by rw [← HV.out]; exact HNX.out, hFb⟩
        case measure => simp [intOf]; omega
      ·skip
       have hK2 := hK.symm
       clear hK
       subst hK2
       obtain ⟨jp, hjp⟩ : ∃ jp, j = jp + 1 := ⟨j - 1, by omega⟩
       have ej : ((j : Int) == 0) = false := by rw [beq_eq_false_iff_ne]; omega
       have gj : (0 : Int) < (j : Int) := by omega
       have e3 : (j : Int) - 1 = (jp : Int) := by omega
       have v3 := ownE_get hown (hpt 0 jp (by omega) (.inr ⟨rfl, by omega⟩))
       rw [Nat.zero_mul, Nat.zero_add] at v3
       have n3 : (jp : Int) < (NM : Int) := by omega
       have n3b : (jp : Int) < (b.length : Int) := by omega
       have hBe : min ((1000000000 : Int)) (T 0 jp) = B := by rw [hB]; unfold befF least3 least2 least1; rw [← HTT.out]; simp [hjp]
       clear hjp hB hown hyl hpt hnx hTe hcf hx hy
       go_upto_region 19 with (go_at_call 98; refine (l00Min_any _ _ _).mono ?_; rintro e w' ⟨rfl, rfl⟩)
       try rw [hBe]
       clear hBe
       by_cases hf : B = 1000000000
       ·have HV := hid (show T 0 j = 1000000000 by rw [HTE.out]; exact if_pos (.inr (by omega)))
        have ef : (B == 1000000000) = true := by rw [beq_iff_eq]; exact hf
        clear hf
        go_wp2_with fail
        go_roundw
        case rel =>
         have h1 := ownE_set HO.out HY.out.symm hPb 1000000000
         exact ⟨j + 1, _, by omega, by go_num, h1.1, by rw [List.length_set]; exact HY.out, by rw [← HV.out]; exact HNX.out, hbl.grown h1.2 hgl (fun kk hh => by cases hh; exact Nat.le_refl _)⟩
        case measure => simp [intOf]; omega
       have ef : (B == 1000000000) = false := by rw [beq_eq_false_iff_ne]; exact hf
       by_cases hrd : (r : Int) < D
       ·have HV := hid (show T 0 j = 1000000000 by rw [HTE.out]; exact if_pos (.inl (HD.out.1 hrd)))
        go_wp2_with fail
        refine (CSz _ _ (by omega)).mono ?_
        rintro e w' ⟨rfl, rfl⟩
        go_wp2_with fail
        go_roundw
        case rel =>
         have h1 := ownE_set HO.out HY.out.symm hPb 1000000000
         exact ⟨j + 1, _, by omega, by go_num, h1.1, by rw [List.length_set]; exact HY.out, by rw [← HV.out]; exact HNX.out, hbl.grown h1.2 hgl (fun kk hh => by cases hh; exact Nat.le_refl _)⟩
        case measure => simp [intOf]; omega
       ·have hVa : T 0 j = B + V := by rw [HTE.out, hVd]; exact if_neg (fun h => h.elim (fun h => hrd (HD.out.2 h)) (fun h => by omega))
        have HV := hid (show T 0 j = (B + V) by omega)
        clear hVa
        have hVx : V = costF x y := by rw [hVd]; exact HCF.out
        rw [← hVx] at CC hcb
        clear hVx hVd hf
        go_wp2_with fail
        refine (CSz _ _ (by omega)).mono ?_
        rintro e w' ⟨rfl, rfl⟩
        go_upto_region 21 with fail
        have wr1 : IntKind.i64.wrap (B + V) = B + V := IntWalk.i64_in _ (by omega)
        have hB2 : 0 ≤ B + V := by omega
        simp only [Nat.zero_mul, Nat.add_zero] at x0 x1 x2
        have wr4 : IntKind.i64.wrap (j : Int) = (j : Int) := IntWalk.i64_in _ (by omega)
        refine wp_region_stg 16 18 (fun c w' => match c with | 0 => Below w3.heap.size w3 w' | 1 => Below w3.heap.size w3 w' | _ => Own eI 2 g w' (.slice (some ⟨g, 0, none⟩) NM NM) (ys.set j (B + V)) ∧ Below g w w') (fun c i v w' => match i with
              | 0 => v = .slice (some ⟨g, 0, none⟩) NM NM
              | 1 => v = .int .i64 0
              | 2 => v = .int .i64 b.length
              | 3 => v = .int .i64 0
              | 4 => v = .int .i64 j
              | 5 => v = .int .i64 j
              | 6 => v = .int .i64 B
              | 7 => v = .slice (some ⟨ga, offa, none⟩) a.length ca
              | 8 => v = .int .i64 0
              | 9 => v = .pointer (some ⟨ga, offa, none⟩)
              | 10 => v = .agg #[.int .i64 x.x, .int .i64 x.y, .int .i64 x.d]
              | 11 => v = .slice (some ⟨gb, offb, none⟩) b.length cb
              | 12 => v = .int .i64 j
              | 13 => v = .pointer (some ⟨gb, offb + j * 3, none⟩)
              | 14 => v = .agg #[.int .i64 y.x, .int .i64 y.y, .int .i64 y.d]
              | 15 => v = .int .i64 V
              | 16 => (match c with | 0 => True | 1 => v = .int .i64 (B + V) | _ => v = .int .i64 (B + V))
              | 17 => v = .pointer (some ⟨g, j, none⟩)
              | 18 => (match c with | 0 => True | 1 => True | _ => True)
              | _ => True) (by kernel_rfl) (by kernel_rfl) (by kernel_rfl) (by kernel_rfl) (by kernel_rfl) ?_ ?_ ?_ ?_ ?_ ?_ (by decide) ?_
        ·exact (Below.refl _ w3).drew
        ·intro c w w' h hb
         match c, h with
         | 0, h => exact Below.trans (B := w3.heap.size) h (hb.mono (Below.size h))
         | 1, h => exact Below.trans (B := w3.heap.size) h (hb.mono (Below.size h))
         | (k + 2), h => exact ⟨h.1.below hb, h.2.trans (hb.mono (Nat.le_of_lt h.1.lt.2))⟩
        ·intro c i v w w' h hb
         match i, h with
         | 0, h => exact h
         | 1, h => exact h
         | 2, h => exact h
         | 3, h => exact h
         | 4, h => exact h
         | 5, h => exact h
         | 6, h => exact h
         | 7, h => exact h
         | 8, h => exact h
         | 9, h => exact h
         | 10, h => exact h
         | 11, h => exact h
         | 12, h => exact h
         | 13, h => exact h
         | 14, h => exact h
         | 15, h => exact h
         | 16, h =>
          match c, h with
          | 0, h => exact trivial
          | 1, h => exact h
          | (k + 2), h => exact h
         | 17, h => exact h
         | 18, h =>
          match c, h with
          | 0, h => exact trivial
          | 1, h => exact trivial
          | (k + 2), h => exact trivial
         | (k + 19), h => exact h
        ·refine ⟨?_, ?_, ?_, ?_, ?_, ?_, ?_, ?_, ?_, ?_, ?_, ?_, ?_, ?_, ?_, ?_, ?_, ?_, ?_, trivial⟩
         ·refine .inr (.inr ⟨fun _ => ?_, fun _ => ?_, can_no (by kernel_rfl)⟩)
          ·intro ρ w' hbw ht hcs hfn hgl hdep G hG
           replace hbw : Below w3.heap.size w3 w' := hbw
           refine ⟨fun _ => ?_, fun h => by cases h⟩
           have s9 : ρ (.tmp 9) = .slice (some ⟨g, 0, none⟩) NM NM := ht 9 rfl
           clear ht hdep hgl
           go_simp
           exact hG _ _ (Below.refl _ _) rfl
          ·intro ρ w' hbw ht hcs hfn hgl hdep G hG
           replace hbw : Below w3.heap.size w3 w' := hbw
           refine ⟨fun _ => ?_, fun h => by cases h⟩
           have s9 : ρ (.tmp 9) = .slice (some ⟨g, 0, none⟩) NM NM := ht 9 rfl
           clear ht hdep hgl
           go_simp
           exact hG _ _ (Below.refl _ _) rfl
         ·refine .inr (.inr ⟨fun _ => ?_, fun _ => ?_, can_no (by kernel_rfl)⟩)
          ·intro ρ w' hbw ht hcs hfn hgl hdep G hG
           replace hbw : Below w3.heap.size w3 w' := hbw
           refine ⟨fun _ => ?_, fun h => by cases h⟩
           have s10 : ρ (.tmp 10) = .int .i64 0 := ht 10 rfl
           clear ht hdep hgl
           go_simp
           exact hG _ _ (Below.refl _ _) rfl
          ·intro ρ w' hbw ht hcs hfn hgl hdep G hG
           replace hbw : Below w3.heap.size w3 w' := hbw
           refine ⟨fun _ => ?_, fun h => by cases h⟩
           have s10 : ρ (.tmp 10) = .int .i64 0 := ht 10 rfl
           clear ht hdep hgl
           go_simp
           exact hG _ _ (Below.refl _ _) rfl
         ·refine .inr (.inr ⟨fun _ => ?_, fun _ => ?_, can_no (by kernel_rfl)⟩)
          ·intro ρ w' hbw ht hcs hfn hgl hdep G hG
           replace hbw : Below w3.heap.size w3 w' := hbw
           refine ⟨fun _ => ?_, fun h => by cases h⟩
           have s8 : ρ (.tmp 8) = .int .i64 b.length := ht 8 rfl
           clear ht hdep hgl
           go_simp
           exact hG _ _ (Below.refl _ _) rfl
          ·intro ρ w' hbw ht hcs hfn hgl hdep G hG
           replace hbw : Below w3.heap.size w3 w' := hbw
           refine ⟨fun _ => ?_, fun h => by cases h⟩
           have s8 : ρ (.tmp 8) = .int .i64 b.length := ht 8 rfl
           clear ht hdep hgl
           go_simp
           exact hG _ _ (Below.refl _ _) rfl
         ·refine .inr (.inr ⟨fun _ => ?_, fun _ => ?_, can_no (by kernel_rfl)⟩)
          ·intro ρ w' hbw ht hcs hfn hgl hdep G hG
           replace hbw : Below w3.heap.size w3 w' := hbw
           refine ⟨fun _ => ?_, fun h => by cases h⟩
           have s99 : ρ (.tmp 99) = .int .i64 0 := hdep ⟨1, .data⟩ (by simp) rfl 99 rfl
           have s100 : ρ (.tmp 100) = .int .i64 b.length := hdep ⟨2, .data⟩ (by simp) rfl 100 rfl
           clear ht hdep hgl
           go_simp
           exact hG _ _ (Below.refl _ _) rfl
          ·intro ρ w' hbw ht hcs hfn hgl hdep G hG
           replace hbw : Below w3.heap.size w3 w' := hbw
           refine ⟨fun _ => ?_, fun h => by cases h⟩
           have s99 : ρ (.tmp 99) = .int .i64 0 := hdep ⟨1, .data⟩ (by simp) rfl 99 rfl
           have s100 : ρ (.tmp 100) = .int .i64 b.length := hdep ⟨2, .data⟩ (by simp) rfl 100 rfl
           clear ht hdep hgl
           go_simp
           exact hG _ _ (Below.refl _ _) rfl
         ·refine .inr (.inr ⟨fun _ => ?_, fun _ => ?_, can_no (by kernel_rfl)⟩)
          ·intro ρ w' hbw ht hcs hfn hgl hdep G hG
           replace hbw : Below w3.heap.size w3 w' := hbw
           refine ⟨fun _ => ?_, fun h => by cases h⟩
           have s11 : ρ (.tmp 11) = .int .i64 j := ht 11 rfl
           clear ht hdep hgl
           go_simp
           exact hG _ _ (Below.refl _ _) rfl
          ·intro ρ w' hbw ht hcs hfn hgl hdep G hG
           replace hbw : Below w3.heap.size w3 w' := hbw
           refine ⟨fun _ => ?_, fun h => by cases h⟩
           have s11 : ρ (.tmp 11) = .int .i64 j := ht 11 rfl
           clear ht hdep hgl
           go_simp
           exact hG _ _ (Below.refl _ _) rfl
         ·refine .inr (.inr ⟨fun _ => ?_, fun _ => ?_, can_no (by kernel_rfl)⟩)
          ·intro ρ w' hbw ht hcs hfn hgl hdep G hG
           replace hbw : Below w3.heap.size w3 w' := hbw
           refine ⟨fun _ => ?_, fun h => by cases h⟩
           have s101 : ρ (.tmp 101) = .int .i64 0 := hdep ⟨3, .data⟩ (by simp) rfl 101 rfl
           have s102 : ρ (.tmp 102) = .int .i64 j := hdep ⟨4, .data⟩ (by simp) rfl 102 rfl
           clear ht hdep hgl
           go_simp
           exact hG _ _ (Below.refl _ _) rfl
          ·intro ρ w' hbw ht hcs hfn hgl hdep G hG
           replace hbw : Below w3.heap.size w3 w' := hbw
           refine ⟨fun _ => ?_, fun h => by cases h⟩
           have s101 : ρ (.tmp 101) = .int .i64 0 := hdep ⟨3, .data⟩ (by simp) rfl 101 rfl
           have s102 : ρ (.tmp 102) = .int .i64 j := hdep ⟨4, .data⟩ (by simp) rfl 102 rfl
           clear ht hdep hgl
           go_simp
           exact hG _ _ (Below.refl _ _) rfl
         ·refine .inr (.inr ⟨fun _ => ?_, can_no (by kernel_rfl), can_no (by kernel_rfl)⟩)
          ·intro ρ w' hbw ht hcs hfn hgl hdep G hG
           replace hbw : Below w3.heap.size w3 w' := hbw
           refine ⟨fun _ => ?_, fun h => by cases h⟩
           have s12 : ρ (.tmp 12) = .int .i64 B := ht 12 rfl
           clear ht hdep hgl
           go_simp
           exact hG _ _ (Below.refl _ _) rfl
         ·refine .inr (.inr ⟨fun _ => ?_, can_no (by kernel_rfl), can_no (by kernel_rfl)⟩)
          ·intro ρ w' hbw ht hcs hfn hgl hdep G hG
           replace hbw : Below w3.heap.size w3 w' := hbw
           refine ⟨fun _ => ?_, fun h => by cases h⟩
           have s0 : ρ (.tmp 0) = .slice (some ⟨ga, offa, none⟩) a.length ca := ht 0 rfl
           clear ht hdep hgl
           go_simp
           exact hG _ _ (Below.refl _ _) rfl
         ·refine .inr (.inr ⟨fun _ => ?_, can_no (by kernel_rfl), can_no (by kernel_rfl)⟩)
          ·intro ρ w' hbw ht hcs hfn hgl hdep G hG
           replace hbw : Below w3.heap.size w3 w' := hbw
           refine ⟨fun _ => ?_, fun h => by cases h⟩
           have s10 : ρ (.tmp 10) = .int .i64 0 := ht 10 rfl
           clear ht hdep hgl
           go_simp
           exact hG _ _ (Below.refl _ _) rfl
         ·refine .inr (.inr ⟨fun _ => ?_, can_no (by kernel_rfl), can_no (by kernel_rfl)⟩)
          ·intro ρ w' hbw ht hcs hfn hgl hdep G hG
           replace hbw : Below w3.heap.size w3 w' := hbw
           refine ⟨fun _ => ?_, fun h => by cases h⟩
           have s105 : ρ (.tmp 105) = .slice (some ⟨ga, offa, none⟩) a.length ca := hdep ⟨7, .data⟩ (by simp) rfl 105 rfl
           have s106 : ρ (.tmp 106) = .int .i64 0 := hdep ⟨8, .data⟩ (by simp) rfl 106 rfl
           clear ht hdep hgl
           go_simp
           exact hG _ _ (Below.refl _ _) rfl
         ·refine .inr (.inr ⟨fun _ => ?_, can_no (by kernel_rfl), can_no (by kernel_rfl)⟩)
          ·intro ρ w' hbw ht hcs hfn hgl hdep G hG
           replace hbw : Below w3.heap.size w3 w' := hbw
           refine ⟨fun _ => ?_, fun h => by cases h⟩
           have s107 : ρ (.tmp 107) = .pointer (some ⟨ga, offa, none⟩) := hdep ⟨9, .data⟩ (by simp) rfl 107 rfl
           have x0 := cell_later hbw x0
           have x1 := cell_later hbw x1
           have x2 := cell_later hbw x2
           have y0 := cell_later hbw y0
           have y1 := cell_later hbw y1
           have y2 := cell_later hbw y2
           clear ht hdep hgl
           go_simp
           exact hG _ _ (Below.refl _ _) rfl
         ·refine .inr (.inr ⟨fun _ => ?_, can_no (by kernel_rfl), can_no (by kernel_rfl)⟩)
          ·intro ρ w' hbw ht hcs hfn hgl hdep G hG
           replace hbw : Below w3.heap.size w3 w' := hbw
           refine ⟨fun _ => ?_, fun h => by cases h⟩
           have s1 : ρ (.tmp 1) = .slice (some ⟨gb, offb, none⟩) b.length cb := ht 1 rfl
           clear ht hdep hgl
           go_simp
           exact hG _ _ (Below.refl _ _) rfl
         ·refine .inr (.inr ⟨fun _ => ?_, can_no (by kernel_rfl), can_no (by kernel_rfl)⟩)
          ·intro ρ w' hbw ht hcs hfn hgl hdep G hG
           replace hbw : Below w3.heap.size w3 w' := hbw
           refine ⟨fun _ => ?_, fun h => by cases h⟩
           have s11 : ρ (.tmp 11) = .int .i64 j := ht 11 rfl
           clear ht hdep hgl
           go_simp
           exact hG _ _ (Below.refl _ _) rfl
         ·refine .inr (.inr ⟨fun _ => ?_, can_no (by kernel_rfl), can_no (by kernel_rfl)⟩)
          ·intro ρ w' hbw ht hcs hfn hgl hdep G hG
           replace hbw : Below w3.heap.size w3 w' := hbw
           refine ⟨fun _ => ?_, fun h => by cases h⟩
           have s109 : ρ (.tmp 109) = .slice (some ⟨gb, offb, none⟩) b.length cb := hdep ⟨11, .data⟩ (by simp) rfl 109 rfl
           have s110 : ρ (.tmp 110) = .int .i64 j := hdep ⟨12, .data⟩ (by simp) rfl 110 rfl
           clear ht hdep hgl
           go_simp
           exact hG _ _ (Below.refl _ _) rfl
         ·refine .inr (.inr ⟨fun _ => ?_, can_no (by kernel_rfl), can_no (by kernel_rfl)⟩)
          ·intro ρ w' hbw ht hcs hfn hgl hdep G hG
           replace hbw : Below w3.heap.size w3 w' := hbw
           refine ⟨fun _ => ?_, fun h => by cases h⟩
           have s111 : ρ (.tmp 111) = .pointer (some ⟨gb, offb + j * 3, none⟩) := hdep ⟨13, .data⟩ (by simp) rfl 111 rfl
           have x0 := cell_later hbw x0
           have x1 := cell_later hbw x1
           have x2 := cell_later hbw x2
           have y0 := cell_later hbw y0
           have y1 := cell_later hbw y1
           have y2 := cell_later hbw y2
           clear ht hdep hgl
           go_simp
           exact hG _ _ (Below.refl _ _) rfl
         ·refine .inr (.inr ⟨fun _ => ?_, can_no (by kernel_rfl), can_no (by kernel_rfl)⟩)
          ·intro ρ w' hbw ht hcs hfn hgl hdep G hG
           replace hbw : Below w3.heap.size w3 w' := hbw
           refine ⟨fun _ => ?_, fun h => by cases h⟩
           have s108 : ρ (.tmp 108) = .agg #[.int .i64 x.x, .int .i64 x.y, .int .i64 x.d] := hdep ⟨10, .data⟩ (by simp) rfl 108 rfl
           have s112 : ρ (.tmp 112) = .agg #[.int .i64 y.x, .int .i64 y.y, .int .i64 y.d] := hdep ⟨14, .data⟩ (by simp) rfl 112 rfl
           clear ht hdep hgl
           go_simp
           exact (CC w').mono fun e w'' ⟨he, hb⟩ => ⟨_, he, hG _ _ hb rfl⟩
         ·exact .inl rfl
         ·refine .inr (.inr ⟨fun _ => ?_, fun _ => ?_, can_no (by kernel_rfl)⟩)
          ·intro ρ w' hbw ht hcs hfn hgl hdep G hG
           replace hbw : Below w3.heap.size w3 w' := hbw
           refine ⟨fun _ => ?_, fun h => by cases h⟩
           have s98 : ρ (.tmp 98) = .slice (some ⟨g, 0, none⟩) NM NM := hdep ⟨0, .data⟩ (by simp) rfl 98 rfl
           have s103 : ρ (.tmp 103) = .int .i64 j := hdep ⟨5, .data⟩ (by simp) rfl 103 rfl
           clear ht hdep hgl
           go_simp
           exact hG _ _ (Below.refl _ _) rfl
          ·intro ρ w' hbw ht hcs hfn hgl hdep G hG
           replace hbw : Below w3.heap.size w3 w' := hbw
           refine ⟨fun _ => ?_, fun h => by cases h⟩
           have s98 : ρ (.tmp 98) = .slice (some ⟨g, 0, none⟩) NM NM := hdep ⟨0, .data⟩ (by simp) rfl 98 rfl
           have s103 : ρ (.tmp 103) = .int .i64 j := hdep ⟨5, .data⟩ (by simp) rfl 103 rfl
           clear ht hdep hgl
           go_simp
           exact hG _ _ (Below.refl _ _) rfl
         ·exact .inr (.inl rfl)
        ·intro o ho
         obtain rfl := Option.some.inj ho
         intro ρ w' hbw ht hcs hfn hgl hdep G hG
         replace hbw : Below w3.heap.size w3 w' := hbw
         refine ⟨fun _ => ?_, fun h => by cases h⟩
         have s104 : ρ (.tmp 104) = .int .i64 B := hdep ⟨6, .data⟩ (by simp) rfl 104 rfl
         have s113 : ρ (.tmp 113) = .int .i64 V := hdep ⟨15, .data⟩ (by simp) rfl 113 rfl
         clear ht hdep hgl
         go_simp
         refine hG _ _ hbw rfl ?_
         intro j u hj hne h
         match j, h with
         | 0, h => exact h
         | 1, h => exact h
         | 2, h => exact h
         | 3, h => exact h
         | 4, h => exact h
         | 5, h => exact h
         | 6, h => exact h
         | 7, h => exact h
         | 8, h => exact h
         | 9, h => exact h
         | 10, h => exact h
         | 11, h => exact h
         | 12, h => exact h
         | 13, h => exact h
         | 14, h => exact h
         | 15, h => exact h
         | 16, h => exact absurd rfl hne
         | 17, h => exact h
         | 18, h => exact trivial
         | (k + 19), h => exact h
        ·intro o ho
         obtain rfl := Option.some.inj ho
         intro ρ w' hbw ht hcs hfn hgl hdep G hG
         replace hbw : Below w3.heap.size w3 w' := hbw
         refine ⟨fun _ => ?_, fun h => by cases h⟩
         have s115 : ρ (.tmp 115) = .pointer (some ⟨g, j, none⟩) := hdep ⟨17, .data⟩ (by simp) rfl 115 rfl
         have d114 := hdep ⟨16, .data⟩ (by simp) rfl 114 rfl
         clear ht hdep hgl
         replace d114 : ρ (.tmp 114) = .int .i64 (B + V) := d114
         have f0 := cell_later hbw hu0
         have ff := (HO.out.below hbw).free HY.out.symm j
         have h1 := ownE_set (HO.out.below hbw) HY.out.symm (k := j) hPb (B + V)
         have hx := hid (show Own eI 2 g (w'.setCell ⟨g, j, none⟩ (.int .i64 (B + V))) (.slice (some ⟨g, 0, none⟩) NM NM) (ys.set j (B + V)) ∧ Below g w (w'.setCell ⟨g, j, none⟩ (.int .i64 (B + V))) from ⟨h1.1, (hbl.trans (hbw.mono hgl)).grown h1.2 (Nat.le_trans hgl hbw.size) (fun kk hh => by cases hh; exact Nat.le_refl _)⟩)
         clear h1
         go_simp
         refine hG _ _ hx.out trivial ?_
         intro j u hj hne h
         match j, h with
         | 0, h => exact h
         | 1, h => exact h
         | 2, h => exact h
         | 3, h => exact h
         | 4, h => exact h
         | 5, h => exact h
         | 6, h => exact h
         | 7, h => exact h
         | 8, h => exact h
         | 9, h => exact h
         | 10, h => exact h
         | 11, h => exact h
         | 12, h => exact h
         | 13, h => exact h
         | 14, h => exact h
         | 15, h => exact h
         | 16, h => exact h
         | 17, h => exact h
         | 18, h => exact trivial
         | (k + 19), h => exact h
        intro xx w6 hF hx
        clear hx
        simp only [putAll, Act.put, List.setIfInBounds_toArray, List.set_cons_succ, List.set_cons_zero, Nat.zero_add, Nat.reduceAdd]
        generalize xx 16 = u16 at *
        obtain ⟨hFo, hFb⟩ := hF
        go_wp2_with fail
        go_roundw
        case rel => exact ⟨j + 1, _, by omega, by go_num, hFo, by rw [List.length_set]; exact HY.out, by rw [← HV.out]; exact HNX.out, hFb⟩
        case measure => simp [intOf]; omega
     ·have hji : ¬ ((j : Int) < (b.length : Int)) := by omega
      obtain rfl : j = b.length := by omega
      have HR := hid hpt.row
      clear hpt
      go_wp2_with fail
      go_roundw
      case rel => exact ⟨0 + 1, ys, by omega, by go_num, hown, hyl, HR.out, hbl⟩
      case measure => simp [intOf]; omega
   ·obtain ⟨ip, hip⟩ : ∃ ip, ri = ip + 1 := ⟨ri - 1, by omega⟩
    have ei : ((ri : Int) == 0) = false := by rw [beq_eq_false_iff_ne]; omega
    have gi : (0 : Int) < (ri : Int) := by omega
    have wi : (ri : Int) - 1 = (ip : Int) := by omega
    have HIP := hid hip
    clear hi0 hip
    obtain ⟨x, hx⟩ : ∃ x, a[ri]? = some x := ⟨_, List.getElem?_eq_getElem hlt⟩
    have hcr := hca.below hbl hga
    go_upto_region 8 with fail
    go_loopw [11] (fun jv wr => ∃ (j : Nat) (ys : List Int), j ≤ b.length ∧ jv = .int .i64 j ∧ Own eI 2 g wr (.slice (some ⟨g, 0, none⟩) NM NM) ys ∧ ys.length = NM ∧ PartT T b.length ri j ys ∧ Below g w wr) (fun jv _ => b.length - (intOf jv).toNat)
    case atStart => exact ⟨0, ys0, Nat.zero_le _, rfl, hown, hyl, hpt, hbl⟩
    case round =>
     clear hown hyl hpt hbl hcr
     obtain ⟨w3, rfl⟩ : ∃ u, u = wr := ⟨wr, rfl⟩
     obtain ⟨j, ys, hjl, rfl, hown, hyl, hpt, hbl⟩ := hrel
     by_cases hjt : j < b.length
     ·have hji : (j : Int) < (b.length : Int) := by omega
      obtain ⟨y, hy⟩ : ∃ y, b[j]? = some y := ⟨_, List.getElem?_eq_getElem hjt⟩
      obtain ⟨x0, x1, x2⟩ := eFeat_cells (hca.below hbl hga) hx
      obtain ⟨y0, y1, y2⟩ := eFeat_cells (hcb.below hbl hgb) hy
      have okx := OKA.out x (List.mem_of_getElem? hx)
      have oky := OKB.out y (List.mem_of_getElem? hy)
      have CC := fun w' => l09Cost_any x y w' okx oky
      have hcb := costF_bd okx oky
      have hcf : cF a b ri j = costF x y := cF_eq hx hy
      have hip := HIP.out
      obtain ⟨P, hP⟩ : ∃ P, P = ri * b.length := ⟨_, rfl⟩
      have hPi : (ri : Int) * (b.length : Int) = (P : Int) := by rw [hP]; push_cast; rfl
      obtain ⟨K, hK⟩ : ∃ K, K = P + j := ⟨_, rfl⟩
      have hPb : K < NM := by
       have := Nat.mul_le_mul_right b.length (show ri + 1 ≤ a.length by omega)
       rw [Nat.add_mul, Nat.one_mul, ← HNM.out] at this
       omega
      have hnx := PartT.next hpt hjt (by rw [hyl, ← hP, ← hK]; exact hPb)
      rw [← hP, ← hK] at hnx
      have e4 : (P : Int) + (j : Int) = (K : Int) := by omega
      obtain ⟨P1, hP1⟩ : ∃ P, P = ip * b.length := ⟨_, rfl⟩
      have hP1i : (ip : Int) * (b.length : Int) = (P1 : Int) := by rw [hP1]; push_cast; rfl
      have hPP : P = P1 + b.length := by rw [hP, hP1, HIP.out, Nat.add_mul, Nat.one_mul]
      have hTe := HT.out ri j
      obtain ⟨B, hB⟩ : ∃ B, B = befF 1000000000 (cF a b) r ri j := ⟨_, rfl⟩
      rw [← hB] at hTe
      have hBd : B ≤ 1000000000 := by rw [hB]; unfold befF; split; omega; exact least3_le _ _ _ _
      have hBd0 : 0 ≤ B := by rw [hB]; exact befF_nonneg (by omega) (fun ri j => (cF_bd OKA.out OKB.out ri j).1) r _ _
      obtain ⟨u0, hu0⟩ := ownN_slot hown hyl.symm rfl (k := K) hPb
      have hfr := hown.free hyl.symm
      have hls := hbl.size
      have HY := hid hyl
      have HNX := hid hnx
      have HTE := hid hTe
      have HCF := hid hcf
      have HO := hid hown
      have n4 : (K : Int) < (NM : Int) := by omega
      have hfrK := hfr K
      have hgl : g ≤ w3.heap.size := Nat.le_of_lt hown.lt.2
      obtain ⟨D, hD⟩ : ∃ D, D = absI (((ri : Nat) : Int) - (j : Int)) := ⟨_, rfl⟩
      have CSz := fun n w' (hn : n = ((ri : Nat) : Int) - (j : Int)) => l09Size_any n w' (by omega) (by omega)
      have CSz : ∀ n w', n = ((ri : Nat) : Int) - (j : Int) → Calls Tryz.prog 180 #[.int .i64 n] w' fun e w'' => e = .returned (.int .i64 D) ∧ w' = w'' := fun n w' hn => by have := CSz n w' hn; rw [hD, ← hn]; exact this
      have HD := hid (@inBd_abs r ri j)
      rw [← hD] at HD
      obtain ⟨V, hVd⟩ : ∃ V, V = cF a b ri j := ⟨_, rfl⟩
      clear hD
      by_cases hj0 : j = 0
      ·subst hj0
       have v2 := ownE_get hown (hpt ip 0 hjt (.inl (by omega)))
       rw [← hP1, Nat.add_zero] at v2
       have n2 : (P1 : Int) < (NM : Int) := by omega
       rw [Nat.add_zero] at hK
       subst hK
       have hBe : min ((1000000000 : Int)) (T ip 0) = B := by rw [hB]; unfold befF least3 least2 least1; rw [← HTT.out]; simp [hip]
       clear hip hP1 hPP hP hB hown hyl hpt hnx hTe hcf hx hy
       go_upto_region 19 with (go_at_call 98; refine (l00Min_any _ _ _).mono ?_; rintro e w' ⟨rfl, rfl⟩)
       try rw [hBe]
       clear hBe
       by_cases hf : B = 1000000000
       ·have HV := hid (show T ri 0 = 1000000000 by rw [HTE.out]; exact if_pos (.inr (by omega)))
        have ef : (B == 1000000000) = true := by rw [beq_iff_eq]; exact hf
        clear hf
        go_wp2_with fail
        go_roundw
        case rel =>
         have h1 := ownE_set HO.out HY.out.symm hPb 1000000000
         exact ⟨0 + 1, _, by omega, by go_num, h1.1, by rw [List.length_set]; exact HY.out, by rw [← HV.out]; exact HNX.out, hbl.grown h1.2 hgl (fun kk hh => by cases hh; exact Nat.le_refl _)⟩
        case measure => simp [intOf]; omega
       have ef : (B == 1000000000) = false := by rw [beq_eq_false_iff_ne]; exact hf
       by_cases hrd : (r : Int) < D
       ·have HV := hid (show T ri 0 = 1000000000 by rw [HTE.out]; exact if_pos (.inl (HD.out.1 hrd)))
        go_wp2_with fail
        refine (CSz _ _ (by omega)).mono ?_
        rintro e w' ⟨rfl, rfl⟩
        go_wp2_with fail
        go_roundw
        case rel =>
         have h1 := ownE_set HO.out HY.out.symm hPb 1000000000
         exact ⟨0 + 1, _, by omega, by go_num, h1.1, by rw [List.length_set]; exact HY.out, by rw [← HV.out]; exact HNX.out, hbl.grown h1.2 hgl (fun kk hh => by cases hh; exact Nat.le_refl _)⟩
        case measure => simp [intOf]; omega
       ·have hVa : T ri 0 = B + V := by rw [HTE.out, hVd]; exact if_neg (fun h => h.elim (fun h => hrd (HD.out.2 h)) (fun h => by omega))
        have HV := hid (show T ri 0 = (B + V) by omega)
        clear hVa
        have hVx : V = costF x y := by rw [hVd]; exact HCF.out
        rw [← hVx] at CC hcb
        clear hVx hVd hf
        go_wp2_with fail
        refine (CSz _ _ (by omega)).mono ?_
        rintro e w' ⟨rfl, rfl⟩
        go_upto_region 21 with fail
        have wr1 : IntKind.i64.wrap (B + V) = B + V := IntWalk.i64_in _ (by omega)
        have hB2 : 0 ≤ B + V := by omega
        have wr2 : IntKind.i64.wrap (K : Int) = (K : Int) := IntWalk.i64_in _ (by omega)
        simp only [Nat.zero_mul, Nat.add_zero] at y0 y1 y2
        refine wp_region_stg 16 18 (fun c w' => match c with | 0 => Below w3.heap.size w3 w' | 1 => Below w3.heap.size w3 w' | _ => Own eI 2 g w' (.slice (some ⟨g, 0, none⟩) NM NM) (ys.set K (B + V)) ∧ Below g w w') (fun c i v w' => match i with
              | 0 => v = .slice (some ⟨g, 0, none⟩) NM NM
              | 1 => v = .int .i64 ri
              | 2 => v = .int .i64 b.length
              | 3 => v = .int .i64 K
              | 4 => v = .int .i64 0
              | 5 => v = .int .i64 K
              | 6 => v = .int .i64 B
              | 7 => v = .slice (some ⟨ga, offa, none⟩) a.length ca
              | 8 => v = .int .i64 ri
              | 9 => v = .pointer (some ⟨ga, offa + ri * 3, none⟩)
              | 10 => v = .agg #[.int .i64 x.x, .int .i64 x.y, .int .i64 x.d]
              | 11 => v = .slice (some ⟨gb, offb, none⟩) b.length cb
              | 12 => v = .int .i64 0
              | 13 => v = .pointer (some ⟨gb, offb, none⟩)
              | 14 => v = .agg #[.int .i64 y.x, .int .i64 y.y, .int .i64 y.d]
              | 15 => v = .int .i64 V
              | 16 => (match c with | 0 => True | 1 => v = .int .i64 (B + V) | _ => v = .int .i64 (B + V))
              | 17 => v = .pointer (some ⟨g, K, none⟩)
              | 18 => (match c with | 0 => True | 1 => True | _ => True)
              | _ => True) (by kernel_rfl) (by kernel_rfl) (by kernel_rfl) (by kernel_rfl) (by kernel_rfl) ?_ ?_ ?_ ?_ ?_ ?_ (by decide) ?_
        ·exact (Below.refl _ w3).drew
        ·intro c w w' h hb
         match c, h with
         | 0, h => exact Below.trans (B := w3.heap.size) h (hb.mono (Below.size h))
         | 1, h => exact Below.trans (B := w3.heap.size) h (hb.mono (Below.size h))
         | (k + 2), h => exact ⟨h.1.below hb, h.2.trans (hb.mono (Nat.le_of_lt h.1.lt.2))⟩
        ·intro c i v w w' h hb
         match i, h with
         | 0, h => exact h
         | 1, h => exact h
         | 2, h => exact h
         | 3, h => exact h
         | 4, h => exact h
         | 5, h => exact h
         | 6, h => exact h
         | 7, h => exact h
         | 8, h => exact h
         | 9, h => exact h
         | 10, h => exact h
         | 11, h => exact h
         | 12, h => exact h
         | 13, h => exact h
         | 14, h => exact h
         | 15, h => exact h
         | 16, h =>
          match c, h with
          | 0, h => exact trivial
          | 1, h => exact h
          | (k + 2), h => exact h
         | 17, h => exact h
         | 18, h =>
          match c, h with
          | 0, h => exact trivial
          | 1, h => exact trivial
          | (k + 2), h => exact trivial
         | (k + 19), h => exact h
        ·refine ⟨?_, ?_, ?_, ?_, ?_, ?_, ?_, ?_, ?_, ?_, ?_, ?_, ?_, ?_, ?_, ?_, ?_, ?_, ?_, trivial⟩
         ·refine .inr (.inr ⟨fun _ => ?_, fun _ => ?_, can_no (by kernel_rfl)⟩)
          ·intro ρ w' hbw ht hcs hfn hgl hdep G hG
           replace hbw : Below w3.heap.size w3 w' := hbw
           refine ⟨fun _ => ?_, fun h => by cases h⟩
           have s9 : ρ (.tmp 9) = .slice (some ⟨g, 0, none⟩) NM NM := ht 9 rfl
           clear ht hdep hgl
           go_simp
           exact hG _ _ (Below.refl _ _) rfl
          ·intro ρ w' hbw ht hcs hfn hgl hdep G hG
           replace hbw : Below w3.heap.size w3 w' := hbw
           refine ⟨fun _ => ?_, fun h => by cases h⟩
           have s9 : ρ (.tmp 9) = .slice (some ⟨g, 0, none⟩) NM NM := ht 9 rfl
           clear ht hdep hgl
           go_simp
           exact hG _ _ (Below.refl _ _) rfl
         ·refine .inr (.inr ⟨fun _ => ?_, fun _ => ?_, can_no (by kernel_rfl)⟩)
          ·intro ρ w' hbw ht hcs hfn hgl hdep G hG
           replace hbw : Below w3.heap.size w3 w' := hbw
           refine ⟨fun _ => ?_, fun h => by cases h⟩
           have s10 : ρ (.tmp 10) = .int .i64 ri := ht 10 rfl
           clear ht hdep hgl
           go_simp
           exact hG _ _ (Below.refl _ _) rfl
          ·intro ρ w' hbw ht hcs hfn hgl hdep G hG
           replace hbw : Below w3.heap.size w3 w' := hbw
           refine ⟨fun _ => ?_, fun h => by cases h⟩
           have s10 : ρ (.tmp 10) = .int .i64 ri := ht 10 rfl
           clear ht hdep hgl
           go_simp
           exact hG _ _ (Below.refl _ _) rfl
         ·refine .inr (.inr ⟨fun _ => ?_, fun _ => ?_, can_no (by kernel_rfl)⟩)
          ·intro ρ w' hbw ht hcs hfn hgl hdep G hG
           replace hbw : Below w3.heap.size w3 w' := hbw
           refine ⟨fun _ => ?_, fun h => by cases h⟩
           have s8 : ρ (.tmp 8) = .int .i64 b.length := ht 8 rfl
           clear ht hdep hgl
           go_simp
           exact hG _ _ (Below.refl _ _) rfl
          ·intro ρ w' hbw ht hcs hfn hgl hdep G hG
           replace hbw : Below w3.heap.size w3 w' := hbw
           refine ⟨fun _ => ?_, fun h => by cases h⟩
           have s8 : ρ (.tmp 8) = .int .i64 b.length := ht 8 rfl
           clear ht hdep hgl
           go_simp
           exact hG _ _ (Below.refl _ _) rfl
         ·refine .inr (.inr ⟨fun _ => ?_, fun _ => ?_, can_no (by kernel_rfl)⟩)
          ·intro ρ w' hbw ht hcs hfn hgl hdep G hG
           replace hbw : Below w3.heap.size w3 w' := hbw
           refine ⟨fun _ => ?_, fun h => by cases h⟩
           have s99 : ρ (.tmp 99) = .int .i64 ri := hdep ⟨1, .data⟩ (by simp) rfl 99 rfl
           have s100 : ρ (.tmp 100) = .int .i64 b.length := hdep ⟨2, .data⟩ (by simp) rfl 100 rfl
           clear ht hdep hgl
           go_simp
           exact hG _ _ (Below.refl _ _) rfl
          ·intro ρ w' hbw ht hcs hfn hgl hdep G hG
           replace hbw : Below w3.heap.size w3 w' := hbw
           refine ⟨fun _ => ?_, fun h => by cases h⟩
           have s99 : ρ (.tmp 99) = .int .i64 ri := hdep ⟨1, .data⟩ (by simp) rfl 99 rfl
           have s100 : ρ (.tmp 100) = .int .i64 b.length := hdep ⟨2, .data⟩ (by simp) rfl 100 rfl
           clear ht hdep hgl
           go_simp
           exact hG _ _ (Below.refl _ _) rfl
         ·refine .inr (.inr ⟨fun _ => ?_, fun _ => ?_, can_no (by kernel_rfl)⟩)
          ·intro ρ w' hbw ht hcs hfn hgl hdep G hG
           replace hbw : Below w3.heap.size w3 w' := hbw
           refine ⟨fun _ => ?_, fun h => by cases h⟩
           have s11 : ρ (.tmp 11) = .int .i64 0 := ht 11 rfl
           clear ht hdep hgl
           go_simp
           exact hG _ _ (Below.refl _ _) rfl
          ·intro ρ w' hbw ht hcs hfn hgl hdep G hG
           replace hbw : Below w3.heap.size w3 w' := hbw
           refine ⟨fun _ => ?_, fun h => by cases h⟩
           have s11 : ρ (.tmp 11) = .int .i64 0 := ht 11 rfl
           clear ht hdep hgl
           go_simp
           exact hG _ _ (Below.refl _ _) rfl
         ·refine .inr (.inr ⟨fun _ => ?_, fun _ => ?_, can_no (by kernel_rfl)⟩)
          ·intro ρ w' hbw ht hcs hfn hgl hdep G hG
           replace hbw : Below w3.heap.size w3 w' := hbw
           refine ⟨fun _ => ?_, fun h => by cases h⟩
           have s101 : ρ (.tmp 101) = .int .i64 K := hdep ⟨3, .data⟩ (by simp) rfl 101 rfl
           have s102 : ρ (.tmp 102) = .int .i64 0 := hdep ⟨4, .data⟩ (by simp) rfl 102 rfl
           clear ht hdep hgl
           go_simp
           exact hG _ _ (Below.refl _ _) rfl
          ·intro ρ w' hbw ht hcs hfn hgl hdep G hG
           replace hbw : Below w3.heap.size w3 w' := hbw
           refine ⟨fun _ => ?_, fun h => by cases h⟩
           have s101 : ρ (.tmp 101) = .int .i64 K := hdep ⟨3, .data⟩ (by simp) rfl 101 rfl
           have s102 : ρ (.tmp 102) = .int .i64 0 := hdep ⟨4, .data⟩ (by simp) rfl 102 rfl
           clear ht hdep hgl
           go_simp
           exact hG _ _ (Below.refl _ _) rfl
         ·refine .inr (.inr ⟨fun _ => ?_, can_no (by kernel_rfl), can_no (by kernel_rfl)⟩)
          ·intro ρ w' hbw ht hcs hfn hgl hdep G hG
           replace hbw : Below w3.heap.size w3 w' := hbw
           refine ⟨fun _ => ?_, fun h => by cases h⟩
           have s12 : ρ (.tmp 12) = .int .i64 B := ht 12 rfl
           clear ht hdep hgl
           go_simp
           exact hG _ _ (Below.refl _ _) rfl
         ·refine .inr (.inr ⟨fun _ => ?_, can_no (by kernel_rfl), can_no (by kernel_rfl)⟩)
          ·intro ρ w' hbw ht hcs hfn hgl hdep G hG
           replace hbw : Below w3.heap.size w3 w' := hbw
           refine ⟨fun _ => ?_, fun h => by cases h⟩
           have s0 : ρ (.tmp 0) = .slice (some ⟨ga, offa, none⟩) a.length ca := ht 0 rfl
           clear ht hdep hgl
           go_simp
           exact hG _ _ (Below.refl _ _) rfl
         ·refine .inr (.inr ⟨fun _ => ?_, can_no (by kernel_rfl), can_no (by kernel_rfl)⟩)
          ·intro ρ w' hbw ht hcs hfn hgl hdep G hG
           replace hbw : Below w3.heap.size w3 w' := hbw
           refine ⟨fun _ => ?_, fun h => by cases h⟩
           have s10 : ρ (.tmp 10) = .int .i64 ri := ht 10 rfl
           clear ht hdep hgl
           go_simp
           exact hG _ _ (Below.refl _ _) rfl
         ·refine .inr (.inr ⟨fun _ => ?_, can_no (by kernel_rfl), can_no (by kernel_rfl)⟩)
          ·intro ρ w' hbw ht hcs hfn hgl hdep G hG
           replace hbw : Below w3.heap.size w3 w' := hbw
           refine ⟨fun _ => ?_, fun h => by cases h⟩
           have s105 : ρ (.tmp 105) = .slice (some ⟨ga, offa, none⟩) a.length ca := hdep ⟨7, .data⟩ (by simp) rfl 105 rfl
           have s106 : ρ (.tmp 106) = .int .i64 ri := hdep ⟨8, .data⟩ (by simp) rfl 106 rfl
           clear ht hdep hgl
           go_simp
           exact hG _ _ (Below.refl _ _) rfl
         ·refine .inr (.inr ⟨fun _ => ?_, can_no (by kernel_rfl), can_no (by kernel_rfl)⟩)
          ·intro ρ w' hbw ht hcs hfn hgl hdep G hG
           replace hbw : Below w3.heap.size w3 w' := hbw
           refine ⟨fun _ => ?_, fun h => by cases h⟩
           have s107 : ρ (.tmp 107) = .pointer (some ⟨ga, offa + ri * 3, none⟩) := hdep ⟨9, .data⟩ (by simp) rfl 107 rfl
           have x0 := cell_later hbw x0
           have x1 := cell_later hbw x1
           have x2 := cell_later hbw x2
           have y0 := cell_later hbw y0
           have y1 := cell_later hbw y1
           have y2 := cell_later hbw y2
           clear ht hdep hgl
           go_simp
           exact hG _ _ (Below.refl _ _) rfl
         ·refine .inr (.inr ⟨fun _ => ?_, can_no (by kernel_rfl), can_no (by kernel_rfl)⟩)
          ·intro ρ w' hbw ht hcs hfn hgl hdep G hG
           replace hbw : Below w3.heap.size w3 w' := hbw
           refine ⟨fun _ => ?_, fun h => by cases h⟩
           have s1 : ρ (.tmp 1) = .slice (some ⟨gb, offb, none⟩) b.length cb := ht 1 rfl
           clear ht hdep hgl
           go_simp
           exact hG _ _ (Below.refl _ _) rfl
         ·refine .inr (.inr ⟨fun _ => ?_, can_no (by kernel_rfl), can_no (by kernel_rfl)⟩)
          ·intro ρ w' hbw ht hcs hfn hgl hdep G hG
           replace hbw : Below w3.heap.size w3 w' := hbw
           refine ⟨fun _ => ?_, fun h => by cases h⟩
           have s11 : ρ (.tmp 11) = .int .i64 0 := ht 11 rfl
           clear ht hdep hgl
           go_simp
           exact hG _ _ (Below.refl _ _) rfl
         ·refine .inr (.inr ⟨fun _ => ?_, can_no (by kernel_rfl), can_no (by kernel_rfl)⟩)
          ·intro ρ w' hbw ht hcs hfn hgl hdep G hG
           replace hbw : Below w3.heap.size w3 w' := hbw
           refine ⟨fun _ => ?_, fun h => by cases h⟩
           have s109 : ρ (.tmp 109) = .slice (some ⟨gb, offb, none⟩) b.length cb := hdep ⟨11, .data⟩ (by simp) rfl 109 rfl
           have s110 : ρ (.tmp 110) = .int .i64 0 := hdep ⟨12, .data⟩ (by simp) rfl 110 rfl
           clear ht hdep hgl
           go_simp
           exact hG _ _ (Below.refl _ _) rfl
         ·refine .inr (.inr ⟨fun _ => ?_, can_no (by kernel_rfl), can_no (by kernel_rfl)⟩)
          ·intro ρ w' hbw ht hcs hfn hgl hdep G hG
           replace hbw : Below w3.heap.size w3 w' := hbw
           refine ⟨fun _ => ?_, fun h => by cases h⟩
           have s111 : ρ (.tmp 111) = .pointer (some ⟨gb, offb, none⟩) := hdep ⟨13, .data⟩ (by simp) rfl 111 rfl
           have x0 := cell_later hbw x0
           have x1 := cell_later hbw x1
           have x2 := cell_later hbw x2
           have y0 := cell_later hbw y0
           have y1 := cell_later hbw y1
           have y2 := cell_later hbw y2
           clear ht hdep hgl
           go_simp
           exact hG _ _ (Below.refl _ _) rfl
         ·refine .inr (.inr ⟨fun _ => ?_, can_no (by kernel_rfl), can_no (by kernel_rfl)⟩)
          ·intro ρ w' hbw ht hcs hfn hgl hdep G hG
           replace hbw : Below w3.heap.size w3 w' := hbw
           refine ⟨fun _ => ?_, fun h => by cases h⟩
           have s108 : ρ (.tmp 108) = .agg #[.int .i64 x.x, .int .i64 x.y, .int .i64 x.d] := hdep ⟨10, .data⟩ (by simp) rfl 108 rfl
           have s112 : ρ (.tmp 112) = .agg #[.int .i64 y.x, .int .i64 y.y, .int .i64 y.d] := hdep ⟨14, .data⟩ (by simp) rfl 112 rfl
           clear ht hdep hgl
           go_simp
           exact (CC w').mono fun e w'' ⟨he, hb⟩ => ⟨_, he, hG _ _ hb rfl⟩
         ·exact .inl rfl
         ·refine .inr (.inr ⟨fun _ => ?_, fun _ => ?_, can_no (by kernel_rfl)⟩)
          ·intro ρ w' hbw ht hcs hfn hgl hdep G hG
           replace hbw : Below w3.heap.size w3 w' := hbw
           refine ⟨fun _ => ?_, fun h => by cases h⟩
           have s98 : ρ (.tmp 98) = .slice (some ⟨g, 0, none⟩) NM NM := hdep ⟨0, .data⟩ (by simp) rfl 98 rfl
           have s103 : ρ (.tmp 103) = .int .i64 K := hdep ⟨5, .data⟩ (by simp) rfl 103 rfl
           clear ht hdep hgl
           go_simp
           exact hG _ _ (Below.refl _ _) rfl
          ·intro ρ w' hbw ht hcs hfn hgl hdep G hG
           replace hbw : Below w3.heap.size w3 w' := hbw
           refine ⟨fun _ => ?_, fun h => by cases h⟩
           have s98 : ρ (.tmp 98) = .slice (some ⟨g, 0, none⟩) NM NM := hdep ⟨0, .data⟩ (by simp) rfl 98 rfl
           have s103 : ρ (.tmp 103) = .int .i64 K := hdep ⟨5, .data⟩ (by simp) rfl 103 rfl
           clear ht hdep hgl
           go_simp
           exact hG _ _ (Below.refl _ _) rfl
         ·exact .inr (.inl rfl)
        ·intro o ho
         obtain rfl := Option.some.inj ho
         intro ρ w' hbw ht hcs hfn hgl hdep G hG
         replace hbw : Below w3.heap.size w3 w' := hbw
         refine ⟨fun _ => ?_, fun h => by cases h⟩
         have s104 : ρ (.tmp 104) = .int .i64 B := hdep ⟨6, .data⟩ (by simp) rfl 104 rfl
         have s113 : ρ (.tmp 113) = .int .i64 V := hdep ⟨15, .data⟩ (by simp) rfl 113 rfl
         clear ht hdep hgl
         go_simp
         refine hG _ _ hbw rfl ?_
         intro j u hj hne h
         match j, h with
         | 0, h => exact h
         | 1, h => exact h
         | 2, h => exact h
         | 3, h => exact h
         | 4, h => exact h
         | 5, h => exact h
         | 6, h => exact h
         | 7, h => exact h
         | 8, h => exact h
         | 9, h => exact h
         | 10, h => exact h
         | 11, h => exact h
         | 12, h => exact h
         | 13, h => exact h
         | 14, h => exact h
         | 15, h => exact h
         | 16, h => exact absurd rfl hne
         | 17, h => exact h
         | 18, h => exact trivial
         | (k + 19), h => exact h
        ·intro o ho
         obtain rfl := Option.some.inj ho
         intro ρ w' hbw ht hcs hfn hgl hdep G hG
         replace hbw : Below w3.heap.size w3 w' := hbw
         refine ⟨fun _ => ?_, fun h => by cases h⟩
         have s115 : ρ (.tmp 115) = .pointer (some ⟨g, K, none⟩) := hdep ⟨17, .data⟩ (by simp) rfl 115 rfl
         have d114 := hdep ⟨16, .data⟩ (by simp) rfl 114 rfl
         clear ht hdep hgl
         replace d114 : ρ (.tmp 114) = .int .i64 (B + V) := d114
         have f0 := cell_later hbw hu0
         have ff := (HO.out.below hbw).free HY.out.symm K
         have h1 := ownE_set (HO.out.below hbw) HY.out.symm (k := K) hPb (B + V)
         have hx := hid (show Own eI 2 g (w'.setCell ⟨g, K, none⟩ (.int .i64 (B + V))) (.slice (some ⟨g, 0, none⟩) NM NM) (ys.set K (B + V)) ∧ Below g w (w'.setCell ⟨g, K, none⟩ (.int .i64 (B + V))) from ⟨h1.1, (hbl.trans (hbw.mono hgl)).grown h1.2 (Nat.le_trans hgl hbw.size) (fun kk hh => by cases hh; exact Nat.le_refl _)⟩)
         clear h1
         go_simp
         refine hG _ _ hx.out trivial ?_
         intro j u hj hne h
         match j, h with
         | 0, h => exact h
         | 1, h => exact h
         | 2, h => exact h
         | 3, h => exact h
         | 4, h => exact h
         | 5, h => exact h
         | 6, h => exact h
         | 7, h => exact h
         | 8, h => exact h
         | 9, h => exact h
         | 10, h => exact h
         | 11, h => exact h
         | 12, h => exact h
         | 13, h => exact h
         | 14, h => exact h
         | 15, h => exact h
         | 16, h => exact h
         | 17, h => exact h
         | 18, h => exact trivial
         | (k + 19), h => exact h
        intro xx w6 hF hx
        clear hx
        simp only [putAll, Act.put, List.setIfInBounds_toArray, List.set_cons_succ, List.set_cons_zero, Nat.zero_add, Nat.reduceAdd]
        generalize xx 16 = u16 at *
        obtain ⟨hFo, hFb⟩ := hF
        go_wp2_with fail
        go_roundw
        case rel => exact ⟨0 + 1, _, by omega, by go_num, hFo, by rw [List.length_set]; exact HY.out, by rw [← HV.out]; exact HNX.out, hFb⟩
        case measure => simp [intOf]; omega
      ·skip
       obtain ⟨K2, hK2⟩ : ∃ K, K = P1 + j := ⟨_, rfl⟩
       have e2 : (P1 : Int) + (j : Int) = (K2 : Int) := by omega
       have v2 := ownE_get hown (hpt ip j hjt (.inl (by omega)))
       rw [← hP1, ← hK2] at v2
       have n2 : (K2 : Int) < (NM : Int) := by omega
       obtain ⟨jp, hjp⟩ : ∃ jp, j = jp + 1 := ⟨j - 1, by omega⟩
       have ej : ((j : Int) == 0) = false := by rw [beq_eq_false_iff_ne]; omega
       have gj : (0 : Int) < (j : Int) := by omega
       obtain ⟨K3, hK3⟩ : ∃ K, K = P + jp := ⟨_, rfl⟩
       have e3 : (K : Int) - 1 = (K3 : Int) := by omega
       have v3 := ownE_get hown (hpt ri jp (by omega) (.inr ⟨rfl, by omega⟩))
       rw [← hP, ← hK3] at v3
       have n3 : (K3 : Int) < (NM : Int) := by omega
       obtain ⟨K1, hK1⟩ : ∃ K, K = P1 + jp := ⟨_, rfl⟩
       have e1 : (K2 : Int) - 1 = (K1 : Int) := by omega
       have v1 := ownE_get hown (hpt ip jp (by omega) (.inl (by omega)))
       rw [← hP1, ← hK1] at v1
       have n1 : (K1 : Int) < (NM : Int) := by omega
       have hBe : min (min (min ((1000000000 : Int)) (T ip jp)) (T ip j)) (T ri jp) = B := by rw [hB]; unfold befF least3 least2 least1; rw [← HTT.out]; simp [hip, hjp]
       clear hip hP1 hPP hP hK2 hK hjp hK3 hK1 hB hown hyl hpt hnx hTe hcf hx hy
       go_upto_region 19 with (go_at_call 98; refine (l00Min_any _ _ _).mono ?_; rintro e w' ⟨rfl, rfl⟩)
       have hBe2 : min (1000000000 : Int) (min (T ip jp) (min (T ip j) (T ri jp))) = B := by rw [← hBe]; omega
       first | rw [hBe2] | (try rw [hBe])
       clear hBe hBe2
       by_cases hf : B = 1000000000
       ·have HV := hid (show T ri j = 1000000000 by rw [HTE.out]; exact if_pos (.inr (by omega)))
        have ef : (B == 1000000000) = true := by rw [beq_iff_eq]; exact hf
        clear hf
        go_wp2_with fail
        go_roundw
        case rel =>
         have h1 := ownE_set HO.out HY.out.symm hPb 1000000000
         exact ⟨j + 1, _, by omega, by go_num, h1.1, by rw [List.length_set]; exact HY.out, by rw [← HV.out]; exact HNX.out, hbl.grown h1.2 hgl (fun kk hh => by cases hh; exact Nat.le_refl _)⟩
        case measure => simp [intOf]; omega
       have ef : (B == 1000000000) = false := by rw [beq_eq_false_iff_ne]; exact hf
       by_cases hrd : (r : Int) < D
       ·have HV := hid (show T ri j = 1000000000 by rw [HTE.out]; exact if_pos (.inl (HD.out.1 hrd)))
        go_wp2_with fail
        refine (CSz _ _ (by omega)).mono ?_
        rintro e w' ⟨rfl, rfl⟩
        go_wp2_with fail
        go_roundw
        case rel =>
         have h1 := ownE_set HO.out HY.out.symm hPb 1000000000
         exact ⟨j + 1, _, by omega, by go_num, h1.1, by rw [List.length_set]; exact HY.out, by rw [← HV.out]; exact HNX.out, hbl.grown h1.2 hgl (fun kk hh => by cases hh; exact Nat.le_refl _)⟩
        case measure => simp [intOf]; omega
       ·have hVa : T ri j = B + V := by rw [HTE.out, hVd]; exact if_neg (fun h => h.elim (fun h => hrd (HD.out.2 h)) (fun h => by omega))
        have HV := hid (show T ri j = (B + V) by omega)
        clear hVa
        have hVx : V = costF x y := by rw [hVd]; exact HCF.out
        rw [← hVx] at CC hcb
        clear hVx hVd hf
        go_wp2_with fail
        refine (CSz _ _ (by omega)).mono ?_
        rintro e w' ⟨rfl, rfl⟩
        go_upto_region 21 with fail
        have wr1 : IntKind.i64.wrap (B + V) = B + V := IntWalk.i64_in _ (by omega)
        have hB2 : 0 ≤ B + V := by omega
        have wr2 : IntKind.i64.wrap (P : Int) = (P : Int) := IntWalk.i64_in _ (by omega)
        have wr4 : IntKind.i64.wrap (K : Int) = (K : Int) := IntWalk.i64_in _ (by omega)
        refine wp_region_stg 16 18 (fun c w' => match c with | 0 => Below w3.heap.size w3 w' | 1 => Below w3.heap.size w3 w' | _ => Own eI 2 g w' (.slice (some ⟨g, 0, none⟩) NM NM) (ys.set K (B + V)) ∧ Below g w w') (fun c i v w' => match i with
              | 0 => v = .slice (some ⟨g, 0, none⟩) NM NM
              | 1 => v = .int .i64 ri
              | 2 => v = .int .i64 b.length
              | 3 => v = .int .i64 P
              | 4 => v = .int .i64 j
              | 5 => v = .int .i64 K
              | 6 => v = .int .i64 B
              | 7 => v = .slice (some ⟨ga, offa, none⟩) a.length ca
              | 8 => v = .int .i64 ri
              | 9 => v = .pointer (some ⟨ga, offa + ri * 3, none⟩)
              | 10 => v = .agg #[.int .i64 x.x, .int .i64 x.y, .int .i64 x.d]
              | 11 => v = .slice (some ⟨gb, offb, none⟩) b.length cb
              | 12 => v = .int .i64 j
              | 13 => v = .pointer (some ⟨gb, offb + j * 3, none⟩)
              | 14 => v = .agg #[.int .i64 y.x, .int .i64 y.y, .int .i64 y.d]
              | 15 => v = .int .i64 V
              | 16 => (match c with | 0 => True | 1 => v = .int .i64 (B + V) | _ => v = .int .i64 (B + V))
              | 17 => v = .pointer (some ⟨g, K, none⟩)
              | 18 => (match c with | 0 => True | 1 => True | _ => True)
              | _ => True) (by kernel_rfl) (by kernel_rfl) (by kernel_rfl) (by kernel_rfl) (by kernel_rfl) ?_ ?_ ?_ ?_ ?_ ?_ (by decide) ?_
        ·exact (Below.refl _ w3).drew
        ·intro c w w' h hb
         match c, h with
         | 0, h => exact Below.trans (B := w3.heap.size) h (hb.mono (Below.size h))
         | 1, h => exact Below.trans (B := w3.heap.size) h (hb.mono (Below.size h))
         | (k + 2), h => exact ⟨h.1.below hb, h.2.trans (hb.mono (Nat.le_of_lt h.1.lt.2))⟩
        ·intro c i v w w' h hb
         match i, h with
         | 0, h => exact h
         | 1, h => exact h
         | 2, h => exact h
         | 3, h => exact h
         | 4, h => exact h
         | 5, h => exact h
         | 6, h => exact h
         | 7, h => exact h
         | 8, h => exact h
         | 9, h => exact h
         | 10, h => exact h
         | 11, h => exact h
         | 12, h => exact h
         | 13, h => exact h
         | 14, h => exact h
         | 15, h => exact h
         | 16, h =>
          match c, h with
          | 0, h => exact trivial
          | 1, h => exact h
          | (k + 2), h => exact h
         | 17, h => exact h
         | 18, h =>
          match c, h with
          | 0, h => exact trivial
          | 1, h => exact trivial
          | (k + 2), h => exact trivial
         | (k + 19), h => exact h
        ·refine ⟨?_, ?_, ?_, ?_, ?_, ?_, ?_, ?_, ?_, ?_, ?_, ?_, ?_, ?_, ?_, ?_, ?_, ?_, ?_, trivial⟩
         ·refine .inr (.inr ⟨fun _ => ?_, fun _ => ?_, can_no (by kernel_rfl)⟩)
          ·intro ρ w' hbw ht hcs hfn hgl hdep G hG
           replace hbw : Below w3.heap.size w3 w' := hbw
           refine ⟨fun _ => ?_, fun h => by cases h⟩
           have s9 : ρ (.tmp 9) = .slice (some ⟨g, 0, none⟩) NM NM := ht 9 rfl
           clear ht hdep hgl
           go_simp
           exact hG _ _ (Below.refl _ _) rfl
          ·intro ρ w' hbw ht hcs hfn hgl hdep G hG
           replace hbw : Below w3.heap.size w3 w' := hbw
           refine ⟨fun _ => ?_, fun h => by cases h⟩
           have s9 : ρ (.tmp 9) = .slice (some ⟨g, 0, none⟩) NM NM := ht 9 rfl
           clear ht hdep hgl
           go_simp
           exact hG _ _ (Below.refl _ _) rfl
         ·refine .inr (.inr ⟨fun _ => ?_, fun _ => ?_, can_no (by kernel_rfl)⟩)
          ·intro ρ w' hbw ht hcs hfn hgl hdep G hG
           replace hbw : Below w3.heap.size w3 w' := hbw
           refine ⟨fun _ => ?_, fun h => by cases h⟩
           have s10 : ρ (.tmp 10) = .int .i64 ri := ht 10 rfl
           clear ht hdep hgl
           go_simp
           exact hG _ _ (Below.refl _ _) rfl
          ·intro ρ w' hbw ht hcs hfn hgl hdep G hG
           replace hbw : Below w3.heap.size w3 w' := hbw
           refine ⟨fun _ => ?_, fun h => by cases h⟩
           have s10 : ρ (.tmp 10) = .int .i64 ri := ht 10 rfl
           clear ht hdep hgl
           go_simp
           exact hG _ _ (Below.refl _ _) rfl
         ·refine .inr (.inr ⟨fun _ => ?_, fun _ => ?_, can_no (by kernel_rfl)⟩)
          ·intro ρ w' hbw ht hcs hfn hgl hdep G hG
           replace hbw : Below w3.heap.size w3 w' := hbw
           refine ⟨fun _ => ?_, fun h => by cases h⟩
           have s8 : ρ (.tmp 8) = .int .i64 b.length := ht 8 rfl
           clear ht hdep hgl
           go_simp
           exact hG _ _ (Below.refl _ _) rfl
          ·intro ρ w' hbw ht hcs hfn hgl hdep G hG
           replace hbw : Below w3.heap.size w3 w' := hbw
           refine ⟨fun _ => ?_, fun h => by cases h⟩
           have s8 : ρ (.tmp 8) = .int .i64 b.length := ht 8 rfl
           clear ht hdep hgl
           go_simp
           exact hG _ _ (Below.refl _ _) rfl
         ·refine .inr (.inr ⟨fun _ => ?_, fun _ => ?_, can_no (by kernel_rfl)⟩)
          ·intro ρ w' hbw ht hcs hfn hgl hdep G hG
           replace hbw : Below w3.heap.size w3 w' := hbw
           refine ⟨fun _ => ?_, fun h => by cases h⟩
           have s99 : ρ (.tmp 99) = .int .i64 ri := hdep ⟨1, .data⟩ (by simp) rfl 99 rfl
           have s100 : ρ (.tmp 100) = .int .i64 b.length := hdep ⟨2, .data⟩ (by simp) rfl 100 rfl
           clear ht hdep hgl
           go_simp
           exact hG _ _ (Below.refl _ _) rfl
          ·intro ρ w' hbw ht hcs hfn hgl hdep G hG
           replace hbw : Below w3.heap.size w3 w' := hbw
           refine ⟨fun _ => ?_, fun h => by cases h⟩
           have s99 : ρ (.tmp 99) = .int .i64 ri := hdep ⟨1, .data⟩ (by simp) rfl 99 rfl
           have s100 : ρ (.tmp 100) = .int .i64 b.length := hdep ⟨2, .data⟩ (by simp) rfl 100 rfl
           clear ht hdep hgl
           go_simp
           exact hG _ _ (Below.refl _ _) rfl
         ·refine .inr (.inr ⟨fun _ => ?_, fun _ => ?_, can_no (by kernel_rfl)⟩)
          ·intro ρ w' hbw ht hcs hfn hgl hdep G hG
           replace hbw : Below w3.heap.size w3 w' := hbw
           refine ⟨fun _ => ?_, fun h => by cases h⟩
           have s11 : ρ (.tmp 11) = .int .i64 j := ht 11 rfl
           clear ht hdep hgl
           go_simp
           exact hG _ _ (Below.refl _ _) rfl
          ·intro ρ w' hbw ht hcs hfn hgl hdep G hG
           replace hbw : Below w3.heap.size w3 w' := hbw
           refine ⟨fun _ => ?_, fun h => by cases h⟩
           have s11 : ρ (.tmp 11) = .int .i64 j := ht 11 rfl
           clear ht hdep hgl
           go_simp
           exact hG _ _ (Below.refl _ _) rfl
         ·refine .inr (.inr ⟨fun _ => ?_, fun _ => ?_, can_no (by kernel_rfl)⟩)
          ·intro ρ w' hbw ht hcs hfn hgl hdep G hG
           replace hbw : Below w3.heap.size w3 w' := hbw
           refine ⟨fun _ => ?_, fun h => by cases h⟩
           have s101 : ρ (.tmp 101) = .int .i64 P := hdep ⟨3, .data⟩ (by simp) rfl 101 rfl
           have s102 : ρ (.tmp 102) = .int .i64 j := hdep ⟨4, .data⟩ (by simp) rfl 102 rfl
           clear ht hdep hgl
           go_simp
           exact hG _ _ (Below.refl _ _) rfl
          ·intro ρ w' hbw ht hcs hfn hgl hdep G hG
           replace hbw : Below w3.heap.size w3 w' := hbw
           refine ⟨fun _ => ?_, fun h => by cases h⟩
           have s101 : ρ (.tmp 101) = .int .i64 P := hdep ⟨3, .data⟩ (by simp) rfl 101 rfl
           have s102 : ρ (.tmp 102) = .int .i64 j := hdep ⟨4, .data⟩ (by simp) rfl 102 rfl
           clear ht hdep hgl
           go_simp
           exact hG _ _ (Below.refl _ _) rfl
         ·refine .inr (.inr ⟨fun _ => ?_, can_no (by kernel_rfl), can_no (by kernel_rfl)⟩)
          ·intro ρ w' hbw ht hcs hfn hgl hdep G hG
           replace hbw : Below w3.heap.size w3 w' := hbw
           refine ⟨fun _ => ?_, fun h => by cases h⟩
           have s12 : ρ (.tmp 12) = .int .i64 B := ht 12 rfl
           clear ht hdep hgl
           go_simp
           exact hG _ _ (Below.refl _ _) rfl
         ·refine .inr (.inr ⟨fun _ => ?_, can_no (by kernel_rfl), can_no (by kernel_rfl)⟩)
          ·intro ρ w' hbw ht hcs hfn hgl hdep G hG
           replace hbw : Below w3.heap.size w3 w' := hbw
           refine ⟨fun _ => ?_, fun h => by cases h⟩
           have s0 : ρ (.tmp 0) = .slice (some ⟨ga, offa, none⟩) a.length ca := ht 0 rfl
           clear ht hdep hgl
           go_simp
           exact hG _ _ (Below.refl _ _) rfl
         ·refine .inr (.inr ⟨fun _ => ?_, can_no (by kernel_rfl), can_no (by kernel_rfl)⟩)
          ·intro ρ w' hbw ht hcs hfn hgl hdep G hG
           replace hbw : Below w3.heap.size w3 w' := hbw
           refine ⟨fun _ => ?_, fun h => by cases h⟩
           have s10 : ρ (.tmp 10) = .int .i64 ri := ht 10 rfl
           clear ht hdep hgl
           go_simp
           exact hG _ _ (Below.refl _ _) rfl
         ·refine .inr (.inr ⟨fun _ => ?_, can_no (by kernel_rfl), can_no (by kernel_rfl)⟩)
          ·intro ρ w' hbw ht hcs hfn hgl hdep G hG
           replace hbw : Below w3.heap.size w3 w' := hbw
           refine ⟨fun _ => ?_, fun h => by cases h⟩
           have s105 : ρ (.tmp 105) = .slice (some ⟨ga, offa, none⟩) a.length ca := hdep ⟨7, .data⟩ (by simp) rfl 105 rfl
           have s106 : ρ (.tmp 106) = .int .i64 ri := hdep ⟨8, .data⟩ (by simp) rfl 106 rfl
           clear ht hdep hgl
           go_simp
           exact hG _ _ (Below.refl _ _) rfl
         ·refine .inr (.inr ⟨fun _ => ?_, can_no (by kernel_rfl), can_no (by kernel_rfl)⟩)
          ·intro ρ w' hbw ht hcs hfn hgl hdep G hG
           replace hbw : Below w3.heap.size w3 w' := hbw
           refine ⟨fun _ => ?_, fun h => by cases h⟩
           have s107 : ρ (.tmp 107) = .pointer (some ⟨ga, offa + ri * 3, none⟩) := hdep ⟨9, .data⟩ (by simp) rfl 107 rfl
           have x0 := cell_later hbw x0
           have x1 := cell_later hbw x1
           have x2 := cell_later hbw x2
           have y0 := cell_later hbw y0
           have y1 := cell_later hbw y1
           have y2 := cell_later hbw y2
           clear ht hdep hgl
           go_simp
           exact hG _ _ (Below.refl _ _) rfl
         ·refine .inr (.inr ⟨fun _ => ?_, can_no (by kernel_rfl), can_no (by kernel_rfl)⟩)
          ·intro ρ w' hbw ht hcs hfn hgl hdep G hG
           replace hbw : Below w3.heap.size w3 w' := hbw
           refine ⟨fun _ => ?_, fun h => by cases h⟩
           have s1 : ρ (.tmp 1) = .slice (some ⟨gb, offb, none⟩) b.length cb := ht 1 rfl
           clear ht hdep hgl
           go_simp
           exact hG _ _ (Below.refl _ _) rfl
         ·refine .inr (.inr ⟨fun _ => ?_, can_no (by kernel_rfl), can_no (by kernel_rfl)⟩)
          ·intro ρ w' hbw ht hcs hfn hgl hdep G hG
           replace hbw : Below w3.heap.size w3 w' := hbw
           refine ⟨fun _ => ?_, fun h => by cases h⟩
           have s11 : ρ (.tmp 11) = .int .i64 j := ht 11 rfl
           clear ht hdep hgl
           go_simp
           exact hG _ _ (Below.refl _ _) rfl
         ·refine .inr (.inr ⟨fun _ => ?_, can_no (by kernel_rfl), can_no (by kernel_rfl)⟩)
          ·intro ρ w' hbw ht hcs hfn hgl hdep G hG
           replace hbw : Below w3.heap.size w3 w' := hbw
           refine ⟨fun _ => ?_, fun h => by cases h⟩
           have s109 : ρ (.tmp 109) = .slice (some ⟨gb, offb, none⟩) b.length cb := hdep ⟨11, .data⟩ (by simp) rfl 109 rfl
           have s110 : ρ (.tmp 110) = .int .i64 j := hdep ⟨12, .data⟩ (by simp) rfl 110 rfl
           clear ht hdep hgl
           go_simp
           exact hG _ _ (Below.refl _ _) rfl
         ·refine .inr (.inr ⟨fun _ => ?_, can_no (by kernel_rfl), can_no (by kernel_rfl)⟩)
          ·intro ρ w' hbw ht hcs hfn hgl hdep G hG
           replace hbw : Below w3.heap.size w3 w' := hbw
           refine ⟨fun _ => ?_, fun h => by cases h⟩
           have s111 : ρ (.tmp 111) = .pointer (some ⟨gb, offb + j * 3, none⟩) := hdep ⟨13, .data⟩ (by simp) rfl 111 rfl
           have x0 := cell_later hbw x0
           have x1 := cell_later hbw x1
           have x2 := cell_later hbw x2
           have y0 := cell_later hbw y0
           have y1 := cell_later hbw y1
           have y2 := cell_later hbw y2
           clear ht hdep hgl
           go_simp
           exact hG _ _ (Below.refl _ _) rfl
         ·refine .inr (.inr ⟨fun _ => ?_, can_no (by kernel_rfl), can_no (by kernel_rfl)⟩)
          ·intro ρ w' hbw ht hcs hfn hgl hdep G hG
           replace hbw : Below w3.heap.size w3 w' := hbw
           refine ⟨fun _ => ?_, fun h => by cases h⟩
           have s108 : ρ (.tmp 108) = .agg #[.int .i64 x.x, .int .i64 x.y, .int .i64 x.d] := hdep ⟨10, .data⟩ (by simp) rfl 108 rfl
           have s112 : ρ (.tmp 112) = .agg #[.int .i64 y.x, .int .i64 y.y, .int .i64 y.d] := hdep ⟨14, .data⟩ (by simp) rfl 112 rfl
           clear ht hdep hgl
           go_simp
           exact (CC w').mono fun e w'' ⟨he, hb⟩ => ⟨_, he, hG _ _ hb rfl⟩
         ·exact .inl rfl
         ·refine .inr (.inr ⟨fun _ => ?_, fun _ => ?_, can_no (by kernel_rfl)⟩)
          ·intro ρ w' hbw ht hcs hfn hgl hdep G hG
           replace hbw : Below w3.heap.size w3 w' := hbw
           refine ⟨fun _ => ?_, fun h => by cases h⟩
           have s98 : ρ (.tmp 98) = .slice (some ⟨g, 0, none⟩) NM NM := hdep ⟨0, .data⟩ (by simp) rfl 98 rfl
           have s103 : ρ (.tmp 103) = .int .i64 K := hdep ⟨5, .data⟩ (by simp) rfl 103 rfl
           clear ht hdep hgl
           go_simp
           exact hG _ _ (Below.refl _ _) rfl
          ·intro ρ w' hbw ht hcs hfn hgl hdep G hG
           replace hbw : Below w3.heap.size w3 w' := hbw
           refine ⟨fun _ => ?_, fun h => by cases h⟩
           have s98 : ρ (.tmp 98) = .slice (some ⟨g, 0, none⟩) NM NM := hdep ⟨0, .data⟩ (by simp) rfl 98 rfl
           have s103 : ρ (.tmp 103) = .int .i64 K := hdep ⟨5, .data⟩ (by simp) rfl 103 rfl
           clear ht hdep hgl
           go_simp
           exact hG _ _ (Below.refl _ _) rfl
         ·exact .inr (.inl rfl)
        ·intro o ho
         obtain rfl := Option.some.inj ho
         intro ρ w' hbw ht hcs hfn hgl hdep G hG
         replace hbw : Below w3.heap.size w3 w' := hbw
         refine ⟨fun _ => ?_, fun h => by cases h⟩
         have s104 : ρ (.tmp 104) = .int .i64 B := hdep ⟨6, .data⟩ (by simp) rfl 104 rfl
         have s113 : ρ (.tmp 113) = .int .i64 V := hdep ⟨15, .data⟩ (by simp) rfl 113 rfl
         clear ht hdep hgl
         go_simp
         refine hG _ _ hbw rfl ?_
         intro j u hj hne h
         match j, h with
         | 0, h => exact h
         | 1, h => exact h
         | 2, h => exact h
         | 3, h => exact h
         | 4, h => exact h
         | 5, h => exact h
         | 6, h => exact h
         | 7, h => exact h
         | 8, h => exact h
         | 9, h => exact h
         | 10, h => exact h
         | 11, h => exact h
         | 12, h => exact h
         | 13, h => exact h
         | 14, h => exact h
         | 15, h => exact h
         | 16, h => exact absurd rfl hne
         | 17, h => exact h
         | 18, h => exact trivial
         | (k + 19), h => exact h
        ·intro o ho
         obtain rfl := Option.some.inj ho
         intro ρ w' hbw ht hcs hfn hgl hdep G hG
         replace hbw : Below w3.heap.size w3 w' := hbw
         refine ⟨fun _ => ?_, fun h => by cases h⟩
         have s115 : ρ (.tmp 115) = .pointer (some ⟨g, K, none⟩) := hdep ⟨17, .data⟩ (by simp) rfl 115 rfl
         have d114 := hdep ⟨16, .data⟩ (by simp) rfl 114 rfl
         clear ht hdep hgl
         replace d114 : ρ (.tmp 114) = .int .i64 (B + V) := d114
         have f0 := cell_later hbw hu0
         have ff := (HO.out.below hbw).free HY.out.symm K
         have h1 := ownE_set (HO.out.below hbw) HY.out.symm (k := K) hPb (B + V)
         have hx := hid (show Own eI 2 g (w'.setCell ⟨g, K, none⟩ (.int .i64 (B + V))) (.slice (some ⟨g, 0, none⟩) NM NM) (ys.set K (B + V)) ∧ Below g w (w'.setCell ⟨g, K, none⟩ (.int .i64 (B + V))) from ⟨h1.1, (hbl.trans (hbw.mono hgl)).grown h1.2 (Nat.le_trans hgl hbw.size) (fun kk hh => by cases hh; exact Nat.le_refl _)⟩)
         clear h1
         go_simp
         refine hG _ _ hx.out trivial ?_
         intro j u hj hne h
         match j, h with
         | 0, h => exact h
         | 1, h => exact h
         | 2, h => exact h
         | 3, h => exact h
         | 4, h => exact h
         | 5, h => exact h
         | 6, h => exact h
         | 7, h => exact h
         | 8, h => exact h
         | 9, h => exact h
         | 10, h => exact h
         | 11, h => exact h
         | 12, h => exact h
         | 13, h => exact h
         | 14, h => exact h
         | 15, h => exact h
         | 16, h => exact h
         | 17, h => exact h
         | 18, h => exact trivial
         | (k + 19), h => exact h
        intro xx w6 hF hx
        clear hx
        simp only [putAll, Act.put, List.setIfInBounds_toArray, List.set_cons_succ, List.set_cons_zero, Nat.zero_add, Nat.reduceAdd]
        generalize xx 16 = u16 at *
        obtain ⟨hFo, hFb⟩ := hF
        go_wp2_with fail
        go_roundw
        case rel => exact ⟨j + 1, _, by omega, by go_num, hFo, by rw [List.length_set]; exact HY.out, by rw [← HV.out]; exact HNX.out, hFb⟩
        case measure => simp [intOf]; omega
     ·have hji : ¬ ((j : Int) < (b.length : Int)) := by omega
      obtain rfl : j = b.length := by omega
      have HR := hid hpt.row
      clear hpt
      go_wp2_with fail
      go_roundw
      case rel => exact ⟨ri + 1, ys, by omega, by go_num, hown, hyl, HR.out, hbl⟩
      case measure => simp [intOf]; omega
  ·have hli : ¬ ((ri : Int) < (a.length : Int)) := by omega
   obtain rfl : ri = a.length := by omega
   go_wp2_with fail
   go_ret
   exact ⟨g, ys0, rfl, by rw [← Hg.out]; exact hown, hyl, by rw [← HTT.out]; exact hpt, by rw [← Hg.out]; exact hbl⟩
set_option maxHeartbeats 1000000 in
theorem l09Least_any (u v : Value) (a b : List DFeat) (r : Nat) (w : World) (ha : Arr eFeat w u a) (hb : Arr eFeat w v b) (oa : ∀ f ∈ a, okF f) (ob : ∀ f ∈ b, okF f) (a1 : 1 ≤ a.length) (a2 : a.length ≤ 72) (b1 : 1 ≤ b.length) (b2 : b.length ≤ 72) (hr : r ≤ 72) :
  Calls Tryz.prog 94 #[u, v, .int .i64 r] w (Ret (.int .i64 (elasF 1000000000 a b r)) w) := by
 have CT := l09Table_any u v a b r w ha hb oa ob a1 a2 b1 b2 hr
 obtain ⟨NM, hNM⟩ : ∃ NM, NM = a.length * b.length := ⟨_, rfl⟩
 have hNMb : NM ≤ 5184 := by rw [hNM]; have := Nat.mul_le_mul a2 b2; omega
 have hN1 : 1 ≤ NM := by rw [hNM]; have := Nat.mul_le_mul a1 b1; omega
 have hN2 : (a.length - 1) * b.length + (b.length - 1) = NM - 1 := by
  rw [Nat.sub_mul, hNM]
  have := Nat.mul_le_mul_right b.length a1
  omega
 rw [← hNM] at CT
 have ek : ((NM : Int) - 1).toNat = NM - 1 := by omega
 have el1 : (0 : Int) ≤ (NM : Int) - 1 := by omega
 have el2 : (NM : Int) - 1 < (NM : Int) := by omega
 have HN2 := hid hN2
 clear hN2 hNM
 obtain ⟨sa, sc, rfl⟩ := ha.isSlice
 obtain ⟨sb, sd, rfl⟩ := hb.isSlice
 go_enter Tryz.func94, Tryz.ntmps94
 go_wp2_with fail
 refine CT.mono ?_
 rintro e w2 ⟨g, ys, rfl, hown, hyl, hpt, hb2⟩
 have hc := ownE_get hown (hpt (a.length - 1) (b.length - 1) (by omega) (.inl (by omega)))
 rw [HN2.out] at hc
 have HYL := hid hyl
 clear hyl hpt hown CT
 go_wp2_with fail
 go_ret
 exact ret_int rfl hb2
end Go.Proofs.YtlnoelbeaolikaaGreat
namespace Go.Proofs.YtlnoelbeaolikaaGreat
open Go.RowKit
def stepsV : Value := .agg #[.int .i64 1, .int .i64 1, .int .i64 1, .int .i64 0, .int .i64 0, .int .i64 1]
set_option maxRecDepth 100000 in
set_option maxHeartbeats 400000 in
theorem stepsBack_any (w : World) : Calls Tryz.prog 219 #[] w (Ret stepsV w) := by
 go_enter Tryz.func219, Tryz.ntmps219
 go_wp2
 refine bodyPost_ret (v := stepsV) (by simp [results, Tryz.results219, go_sem, stepsV]) rfl (ret_ret rfl (below_alloc _ _))
theorem ix0 (w : World) : (Instr.index 259 (.agg #[.int .i64 1, .int .i64 1, .int .i64 1, .int .i64 0, .int .i64 0, .int .i64 1]) (.int .i64 0)).run Tryz.prog w = .ok (.agg #[.int .i64 1, .int .i64 1]) w := by kernel_rfl
theorem ix1 (w : World) : (Instr.index 259 (.agg #[.int .i64 1, .int .i64 1, .int .i64 1, .int .i64 0, .int .i64 0, .int .i64 1]) (.int .i64 1)).run Tryz.prog w = .ok (.agg #[.int .i64 1, .int .i64 0]) w := by kernel_rfl
theorem ix2 (w : World) : (Instr.index 259 (.agg #[.int .i64 1, .int .i64 1, .int .i64 1, .int .i64 0, .int .i64 0, .int .i64 1]) (.int .i64 2)).run Tryz.prog w = .ok (.agg #[.int .i64 0, .int .i64 1]) w := by kernel_rfl
/-- where the rows of a table lie -/
def RowAt (w : World) (g m : Nat) (T : Nat → Nat → Int) (i j : Nat) : Prop := ∃ p c, w.cell? ⟨g, i, none⟩ = some (.slice (some ⟨p, 0, none⟩) m c) ∧ m ≤ c ∧ c ≤ maxLen ∧ w.cell? ⟨p, j, none⟩ = some (.int .i64 (T i j))
theorem RowAt.below {w w' : World} {g m : Nat} {T : Nat → Nat → Int} {i j : Nat} (h : RowAt w g m T i j) (hb : Below w.heap.size w w') : RowAt w' g m T i j := by
 obtain ⟨p, c, h1, h2, h3, h4⟩ := h
 exact ⟨p, c, cell_later hb h1, h2, h3, cell_later hb h4⟩
def leastK (T : Nat → Nat → Int) (M : Int) (i j : Nat) : Nat → Int
 | 0 => M
 | 1 => least1 T M i j
 | 2 => least2 T M i j
 | _ => least3 T M i j
set_option maxRecDepth 100000 in
set_option maxHeartbeats 4000000 in
theorem leastBefore_any (g n m cg : Nat) (T : Nat → Nat → Int) (ri j : Nat) (w : World) (hi : ri < n) (hj : j < m) (hn : n ≤ 72) (hm : m ≤ 72) (_hng : n ≤ cg) (_hcg : cg ≤ maxLen)
  (h1 : 1 ≤ ri → 1 ≤ j → RowAt w g m T (ri - 1) (j - 1)) (h2 : 1 ≤ ri → RowAt w g m T (ri - 1) j) (h3 : 1 ≤ j → RowAt w g m T ri (j - 1)) :
  Calls Tryz.prog 196 #[.slice (some ⟨g, 0, none⟩) n cg, .int .i64 ri, .int .i64 j] w (Ret (.int .i64 (least3 T 1099511627776 ri j)) w) := by
 unfold maxLen at _hcg
 have H1 := hid h1
 have H2 := hid h2
 have H3 := hid h3
 clear h1 h2 h3
 go_enter Tryz.func196, Tryz.ntmps196
 go_wp2_with fail
 refine (stepsBack_any _).mono ?_
 rintro e w1 ⟨rfl, hb1⟩
 unfold stepsV
 go_wp2_with fail
 go_loopw [7, 11] (fun l k wr => ∃ s : Nat, s ≤ 3 ∧ k = .int .i64 s ∧ l = .int .i64 (leastK T 1099511627776 ri j s) ∧ Below w.heap.size w wr) (fun _ k _ => 3 - (intOf k).toNat)
 case atStart => exact ⟨0, by omega, rfl, rfl, hb1⟩
 case round =>
  obtain ⟨w2, rfl⟩ : ∃ u, u = wr := ⟨wr, rfl⟩
  obtain ⟨s, hs, rfl, rfl, hb⟩ := hrel
  have hbs := hb.size
  by_cases hs3 : s = 3
  ·subst hs3
   go_wp2_with fail
   go_ret
   exact ret_int rfl hb
  have hs2 : s = 0 ∨ s = 1 ∨ s = 2 := by omega
  rcases hs2 with rfl | rfl | rfl
  ·obtain ⟨w3, hw3⟩ : ∃ u, u = w2.alloc (.cells #[.int .i64 1, .int .i64 1] 258) := ⟨_, rfl⟩
   obtain ⟨p9, hp9⟩ : ∃ p, p = w2.heap.size := ⟨_, rfl⟩
   obtain ⟨L, hL⟩ : ∃ L, L = leastK T 1099511627776 ri j 0 := ⟨_, rfl⟩
   have ix := ix0
   obtain ⟨N, hN⟩ : ∃ N, N = leastK T 1099511627776 ri j 1 := ⟨_, rfl⟩
   have hLe : L = (1099511627776 : Int) := hL
   have hNe : N = least1 T 1099511627776 ri j := hN
   rw [← hL]
   go_upto_region 5 with fail
   rw [← hw3, ← hp9]
   have hb3 : Below w2.heap.size w2 w3 := by rw [hw3]; exact below_alloc _ _
   have q9 : Box w3 p9 #[.int .i64 1, .int .i64 1] 258 := by rw [hw3, hp9]; exact Box.new _ _ _
   have y0 := q9.cell (j := 0) rfl
   have y1 := q9.cell (j := 1) rfl
   have hbw3 := hb.trans (hb3.mono hbs)
   have HN := hid hN
   clear hw3 hp9 hL hN q9
   by_cases hi1 : 1 ≤ ri
   rotate_left
   ·skip
    have gi : ¬ ((1 : Int) ≤ (ri : Int)) := by omega
    have HE := hid (show L = N by rw [hLe, hNe]; unfold least1; rw [if_neg (by omega)])
    clear hLe hNe
    go_wp2_with fail
    go_roundw
    case rel => exact ⟨1, by omega, by go_num, by rw [← HN.out, HE.out], hbw3⟩
    case measure => simp [intOf]
   have gi : (1 : Int) ≤ (ri : Int) := by omega
   by_cases hj1 : 1 ≤ j
   rotate_left
   ·skip
    have gj : ¬ ((1 : Int) ≤ (j : Int)) := by omega
    have HE := hid (show L = N by rw [hLe, hNe]; unfold least1; rw [if_neg (by omega)])
    clear hLe hNe
    go_wp2_with fail
    go_roundw
    case rel => exact ⟨1, by omega, by go_num, by rw [← HN.out, HE.out], hbw3⟩
    case measure => simp [intOf]
   have gj : (1 : Int) ≤ (j : Int) := by omega
   obtain ⟨ip, hip⟩ : ∃ ip, ri = ip + 1 := ⟨ri - 1, by omega⟩
   have ei : ri - 1 = ip := by omega
   have wi : IntKind.i64.wrap ((ri : Int) - 1) = (ip : Int) := by rw [hip]; push_cast; rw [Int.add_sub_cancel]; exact IntWalk.i64_in _ (by omega)
   have ni : (ip : Int) < (n : Int) := by omega
   obtain ⟨jp, hjp⟩ : ∃ jp, j = jp + 1 := ⟨j - 1, by omega⟩
   have ej : j - 1 = jp := by omega
   have wj : IntKind.i64.wrap ((j : Int) - 1) = (jp : Int) := by rw [hjp]; push_cast; rw [Int.add_sub_cancel]; exact IntWalk.i64_in _ (by omega)
   have nj : (jp : Int) < (m : Int) := by omega
   obtain ⟨p, cc, r1, r2, r3, r4⟩ := ((H1.out hi1 hj1).below hb).below hb3
   unfold maxLen at r3
   rw [ei] at r1
   rw [ei, ej] at r4
   obtain ⟨V, hV⟩ : ∃ V, V = T ip jp := ⟨_, rfl⟩
   rw [← hV] at r4
   have HE := hid (show min L V = N by rw [hNe, hV, hLe]; unfold least1; rw [if_pos (by omega), ei, ej])
   clear hLe hNe hV hip ei hjp ej
   go_upto_region 6 with fail
   refine wp_region_stgy 14 15 (fun c w' => match c with | 0 => Below w3.heap.size w3 w' | 1 => Below w3.heap.size w3 w' | _ => Below w3.heap.size w3 w') (fun c i v w' => match i with
         | 0 => v = .int .i64 L
         | 1 => v = .slice (some ⟨g, 0, none⟩) n cg
         | 2 => v = .int .i64 ri
         | 3 => v = .pointer (some ⟨p9, 0, none⟩)
         | 4 => v = .int .i64 1
         | 5 => v = .int .i64 ip
         | 6 => v = .pointer (some ⟨g, ip, none⟩)
         | 7 => v = .slice (some ⟨p, 0, none⟩) m cc
         | 8 => v = .int .i64 j
         | 9 => v = .pointer (some ⟨p9, 1, none⟩)
         | 10 => v = .int .i64 1
         | 11 => v = .int .i64 jp
         | 12 => v = .pointer (some ⟨p, jp, none⟩)
         | 13 => v = .int .i64 V
         | 14 => (match c with | 0 => True | 1 => v = .int .i64 (min L V) | _ => v = .int .i64 (min L V))
         | 15 => (match c with | 0 => True | 1 => True | _ => v = .int .i64 (min L V))
         | _ => True) (by kernel_rfl) (by kernel_rfl) (by kernel_rfl) (by kernel_rfl) (by kernel_rfl) ?_ ?_ ?_ ?_ ?_ ?_ (by decide) ?_
   ·exact (Below.refl _ w3).drew
   ·intro c w w' h hb
    match c, h with
    | 0, h => exact Below.trans (B := w3.heap.size) h (hb.mono (Below.size h))
    | 1, h => exact Below.trans (B := w3.heap.size) h (hb.mono (Below.size h))
    | (k + 2), h => exact (h.trans (hb.mono h.size))
   ·intro c i v w w' h hb
    match i, h with
    | 0, h => exact h
    | 1, h => exact h
    | 2, h => exact h
    | 3, h => exact h
    | 4, h => exact h
    | 5, h => exact h
    | 6, h => exact h
    | 7, h => exact h
    | 8, h => exact h
    | 9, h => exact h
    | 10, h => exact h
    | 11, h => exact h
    | 12, h => exact h
    | 13, h => exact h
    | 14, h =>
     match c, h with
     | 0, h => exact trivial
     | 1, h => exact h
     | (k + 2), h => exact h
    | 15, h =>
     match c, h with
     | 0, h => exact trivial
     | 1, h => exact trivial
     | (k + 2), h => exact h
    | (k + 16), h => exact h
   ·refine ⟨?_, ?_, ?_, ?_, ?_, ?_, ?_, ?_, ?_, ?_, ?_, ?_, ?_, ?_, ?_, ?_, trivial⟩
    ·refine .inr (.inr ⟨fun _ => ?_, can_no (by kernel_rfl), can_no (by kernel_rfl)⟩)
     ·intro ρ w' hbw ht hcs hfn hgl hpr hdep G hG
      replace hbw : Below w3.heap.size w3 w' := hbw
      refine ⟨fun _ => ?_, fun h => by cases h⟩
      have s7 : ρ (.tmp 7) = .int .i64 L := hpr 15 7 rfl (by kernel_rfl)
      clear ht hdep hgl hpr
      go_simp
      exact hG _ _ (Below.refl _ _) rfl
    ·refine .inr (.inr ⟨fun _ => ?_, can_no (by kernel_rfl), can_no (by kernel_rfl)⟩)
     ·intro ρ w' hbw ht hcs hfn hgl hpr hdep G hG
      replace hbw : Below w3.heap.size w3 w' := hbw
      refine ⟨fun _ => ?_, fun h => by cases h⟩
      have s0 : ρ (.tmp 0) = .slice (some ⟨g, 0, none⟩) n cg := ht 0 rfl
      clear ht hdep hgl hpr
      go_simp
      exact hG _ _ (Below.refl _ _) rfl
    ·refine .inr (.inr ⟨fun _ => ?_, can_no (by kernel_rfl), can_no (by kernel_rfl)⟩)
     ·intro ρ w' hbw ht hcs hfn hgl hpr hdep G hG
      replace hbw : Below w3.heap.size w3 w' := hbw
      refine ⟨fun _ => ?_, fun h => by cases h⟩
      have s1 : ρ (.tmp 1) = .int .i64 ri := ht 1 rfl
      clear ht hdep hgl hpr
      go_simp
      exact hG _ _ (Below.refl _ _) rfl
    ·refine .inr (.inr ⟨fun _ => ?_, can_no (by kernel_rfl), can_no (by kernel_rfl)⟩)
     ·intro ρ w' hbw ht hcs hfn hgl hpr hdep G hG
      replace hbw : Below w3.heap.size w3 w' := hbw
      refine ⟨fun _ => ?_, fun h => by cases h⟩
      have s9 : ρ (.tmp 9) = .pointer (some ⟨p9, 0, none⟩) := ht 9 rfl
      clear ht hdep hgl hpr
      go_simp
      exact hG _ _ (Below.refl _ _) rfl
    ·refine .inr (.inr ⟨fun _ => ?_, can_no (by kernel_rfl), can_no (by kernel_rfl)⟩)
     ·intro ρ w' hbw ht hcs hfn hgl hpr hdep G hG
      replace hbw : Below w3.heap.size w3 w' := hbw
      refine ⟨fun _ => ?_, fun h => by cases h⟩
      have s27 : ρ (.tmp 27) = .pointer (some ⟨p9, 0, none⟩) := hdep ⟨3, .data⟩ (by simp) rfl 27 rfl
      have r1 := cell_later hbw r1
      have r4 := cell_later hbw r4
      have y0 := cell_later hbw y0
      have y1 := cell_later hbw y1
      clear ht hdep hgl hpr
      go_simp
      exact hG _ _ (Below.refl _ _) rfl
    ·refine .inr (.inr ⟨fun _ => ?_, can_no (by kernel_rfl), can_no (by kernel_rfl)⟩)
     ·intro ρ w' hbw ht hcs hfn hgl hpr hdep G hG
      replace hbw : Below w3.heap.size w3 w' := hbw
      refine ⟨fun _ => ?_, fun h => by cases h⟩
      have s26 : ρ (.tmp 26) = .int .i64 ri := hdep ⟨2, .data⟩ (by simp) rfl 26 rfl
      have s28 : ρ (.tmp 28) = .int .i64 1 := hdep ⟨4, .data⟩ (by simp) rfl 28 rfl
      clear ht hdep hgl hpr
      go_simp
      exact hG _ _ (Below.refl _ _) rfl
    ·refine .inr (.inr ⟨fun _ => ?_, can_no (by kernel_rfl), can_no (by kernel_rfl)⟩)
     ·intro ρ w' hbw ht hcs hfn hgl hpr hdep G hG
      replace hbw : Below w3.heap.size w3 w' := hbw
      refine ⟨fun _ => ?_, fun h => by cases h⟩
      have s25 : ρ (.tmp 25) = .slice (some ⟨g, 0, none⟩) n cg := hdep ⟨1, .data⟩ (by simp) rfl 25 rfl
      have s29 : ρ (.tmp 29) = .int .i64 ip := hdep ⟨5, .data⟩ (by simp) rfl 29 rfl
      clear ht hdep hgl hpr
      go_simp
      exact hG _ _ (Below.refl _ _) rfl
    ·refine .inr (.inr ⟨fun _ => ?_, can_no (by kernel_rfl), can_no (by kernel_rfl)⟩)
     ·intro ρ w' hbw ht hcs hfn hgl hpr hdep G hG
      replace hbw : Below w3.heap.size w3 w' := hbw
      refine ⟨fun _ => ?_, fun h => by cases h⟩
      have s30 : ρ (.tmp 30) = .pointer (some ⟨g, ip, none⟩) := hdep ⟨6, .data⟩ (by simp) rfl 30 rfl
      have r1 := cell_later hbw r1
      have r4 := cell_later hbw r4
      have y0 := cell_later hbw y0
      have y1 := cell_later hbw y1
      clear ht hdep hgl hpr
      go_simp
      exact hG _ _ (Below.refl _ _) rfl
    ·refine .inr (.inr ⟨fun _ => ?_, can_no (by kernel_rfl), can_no (by kernel_rfl)⟩)
     ·intro ρ w' hbw ht hcs hfn hgl hpr hdep G hG
      replace hbw : Below w3.heap.size w3 w' := hbw
      refine ⟨fun _ => ?_, fun h => by cases h⟩
      have s2 : ρ (.tmp 2) = .int .i64 j := ht 2 rfl
      clear ht hdep hgl hpr
      go_simp
      exact hG _ _ (Below.refl _ _) rfl
    ·refine .inr (.inr ⟨fun _ => ?_, can_no (by kernel_rfl), can_no (by kernel_rfl)⟩)
     ·intro ρ w' hbw ht hcs hfn hgl hpr hdep G hG
      replace hbw : Below w3.heap.size w3 w' := hbw
      refine ⟨fun _ => ?_, fun h => by cases h⟩
      have s9 : ρ (.tmp 9) = .pointer (some ⟨p9, 0, none⟩) := ht 9 rfl
      clear ht hdep hgl hpr
      go_simp
      exact hG _ _ (Below.refl _ _) rfl
    ·refine .inr (.inr ⟨fun _ => ?_, can_no (by kernel_rfl), can_no (by kernel_rfl)⟩)
     ·intro ρ w' hbw ht hcs hfn hgl hpr hdep G hG
      replace hbw : Below w3.heap.size w3 w' := hbw
      refine ⟨fun _ => ?_, fun h => by cases h⟩
      have s33 : ρ (.tmp 33) = .pointer (some ⟨p9, 1, none⟩) := hdep ⟨9, .data⟩ (by simp) rfl 33 rfl
      have r1 := cell_later hbw r1
      have r4 := cell_later hbw r4
      have y0 := cell_later hbw y0
      have y1 := cell_later hbw y1
      clear ht hdep hgl hpr
      go_simp
      exact hG _ _ (Below.refl _ _) rfl
    ·refine .inr (.inr ⟨fun _ => ?_, can_no (by kernel_rfl), can_no (by kernel_rfl)⟩)
     ·intro ρ w' hbw ht hcs hfn hgl hpr hdep G hG
      replace hbw : Below w3.heap.size w3 w' := hbw
      refine ⟨fun _ => ?_, fun h => by cases h⟩
      have s32 : ρ (.tmp 32) = .int .i64 j := hdep ⟨8, .data⟩ (by simp) rfl 32 rfl
      have s34 : ρ (.tmp 34) = .int .i64 1 := hdep ⟨10, .data⟩ (by simp) rfl 34 rfl
      clear ht hdep hgl hpr
      go_simp
      exact hG _ _ (Below.refl _ _) rfl
    ·refine .inr (.inr ⟨fun _ => ?_, can_no (by kernel_rfl), can_no (by kernel_rfl)⟩)
     ·intro ρ w' hbw ht hcs hfn hgl hpr hdep G hG
      replace hbw : Below w3.heap.size w3 w' := hbw
      refine ⟨fun _ => ?_, fun h => by cases h⟩
      have s31 : ρ (.tmp 31) = .slice (some ⟨p, 0, none⟩) m cc := hdep ⟨7, .data⟩ (by simp) rfl 31 rfl
      have s35 : ρ (.tmp 35) = .int .i64 jp := hdep ⟨11, .data⟩ (by simp) rfl 35 rfl
      clear ht hdep hgl hpr
      go_simp
      exact hG _ _ (Below.refl _ _) rfl
    ·refine .inr (.inr ⟨fun _ => ?_, can_no (by kernel_rfl), can_no (by kernel_rfl)⟩)
     ·intro ρ w' hbw ht hcs hfn hgl hpr hdep G hG
      replace hbw : Below w3.heap.size w3 w' := hbw
      refine ⟨fun _ => ?_, fun h => by cases h⟩
      have s36 : ρ (.tmp 36) = .pointer (some ⟨p, jp, none⟩) := hdep ⟨12, .data⟩ (by simp) rfl 36 rfl
      have r1 := cell_later hbw r1
      have r4 := cell_later hbw r4
      have y0 := cell_later hbw y0
      have y1 := cell_later hbw y1
      clear ht hdep hgl hpr
      go_simp
      exact hG _ _ (Below.refl _ _) rfl
    ·exact .inl rfl
    ·exact .inr (.inl rfl)
   ·intro o ho
    obtain rfl := Option.some.inj ho
    intro ρ w' hbw ht hcs hfn hgl hpr hdep G hG
    replace hbw : Below w3.heap.size w3 w' := hbw
    refine ⟨fun _ => ?_, fun h => by cases h⟩
    have s24 : ρ (.tmp 24) = .int .i64 L := hdep ⟨0, .data⟩ (by simp) rfl 24 rfl
    have s37 : ρ (.tmp 37) = .int .i64 V := hdep ⟨13, .data⟩ (by simp) rfl 37 rfl
    clear ht hdep hgl hpr
    go_simp
    refine hG _ _ hbw rfl ?_
    intro j u hj hne h
    match j, h with
    | 0, h => exact h
    | 1, h => exact h
    | 2, h => exact h
    | 3, h => exact h
    | 4, h => exact h
    | 5, h => exact h
    | 6, h => exact h
    | 7, h => exact h
    | 8, h => exact h
    | 9, h => exact h
    | 10, h => exact h
    | 11, h => exact h
    | 12, h => exact h
    | 13, h => exact h
    | 14, h => exact absurd rfl hne
    | 15, h => exact trivial
    | (k + 16), h => exact h
   ·intro o ho
    obtain rfl := Option.some.inj ho
    intro ρ w' hbw ht hcs hfn hgl hpr hdep G hG
    replace hbw : Below w3.heap.size w3 w' := hbw
    refine ⟨fun _ => ?_, fun h => by cases h⟩
    have d38 := hdep ⟨14, .data⟩ (by simp) rfl 38 rfl
    clear ht hdep hgl hpr
    replace d38 : ρ (.tmp 38) = .int .i64 (min L V) := d38
    go_simp
    refine hG _ _ hbw rfl ?_
    intro j u hj hne hru h
    match j, h with
    | 0, h => exact h
    | 1, h => exact h
    | 2, h => exact h
    | 3, h => exact h
    | 4, h => exact h
    | 5, h => exact h
    | 6, h => exact h
    | 7, h => exact h
    | 8, h => exact h
    | 9, h => exact h
    | 10, h => exact h
    | 11, h => exact h
    | 12, h => exact h
    | 13, h => exact h
    | 14, h => exact h
    | 15, h => exact absurd rfl hne
    | (k + 16), h => exact h
   intro xx w6 hF hx
   have HW := hx 15 (by simp)
   clear hx
   simp only [putAll, Act.put, List.setIfInBounds_toArray, List.set_cons_succ, List.set_cons_zero, Nat.zero_add, Nat.reduceAdd]
   replace HW : xx 15 = .int .i64 (min L V) := HW
   rw [HE.out] at HW
   rw [HW]
   generalize xx 14 = u14 at *
   have hbw4 := hbw3.trans (hF.mono hbw3.size)
   clear HW
   go_wp2_with fail
   go_roundw
   case rel => exact ⟨1, by omega, by go_num, by rw [HN.out], hbw4⟩
   case measure => simp [intOf]
  ·obtain ⟨w3, hw3⟩ : ∃ u, u = w2.alloc (.cells #[.int .i64 1, .int .i64 0] 258) := ⟨_, rfl⟩
   obtain ⟨p9, hp9⟩ : ∃ p, p = w2.heap.size := ⟨_, rfl⟩
   obtain ⟨L, hL⟩ : ∃ L, L = leastK T 1099511627776 ri j 1 := ⟨_, rfl⟩
   have ix := ix1
   obtain ⟨N, hN⟩ : ∃ N, N = leastK T 1099511627776 ri j 2 := ⟨_, rfl⟩
   have hLe : L = least1 T 1099511627776 ri j := hL
   have hNe : N = least2 T 1099511627776 ri j := hN
   rw [← hL]
   go_upto_region 5 with fail
   rw [← hw3, ← hp9]
   have hb3 : Below w2.heap.size w2 w3 := by rw [hw3]; exact below_alloc _ _
   have q9 : Box w3 p9 #[.int .i64 1, .int .i64 0] 258 := by rw [hw3, hp9]; exact Box.new _ _ _
   have y0 := q9.cell (j := 0) rfl
   have y1 := q9.cell (j := 1) rfl
   have hbw3 := hb.trans (hb3.mono hbs)
   have HN := hid hN
   clear hw3 hp9 hL hN q9
   have gj : (0 : Int) ≤ (j : Int) := by omega
   by_cases hi1 : 1 ≤ ri
   rotate_left
   ·skip
    have gi : ¬ ((1 : Int) ≤ (ri : Int)) := by omega
    have HE := hid (show L = N by rw [hLe, hNe]; unfold least2; rw [if_neg (by omega)])
    clear hLe hNe
    go_wp2_with fail
    go_roundw
    case rel => exact ⟨2, by omega, by go_num, by rw [← HN.out, HE.out], hbw3⟩
    case measure => simp [intOf]
   have gi : (1 : Int) ≤ (ri : Int) := by omega
   obtain ⟨ip, hip⟩ : ∃ ip, ri = ip + 1 := ⟨ri - 1, by omega⟩
   have ei : ri - 1 = ip := by omega
   have wi : IntKind.i64.wrap ((ri : Int) - 1) = (ip : Int) := by rw [hip]; push_cast; rw [Int.add_sub_cancel]; exact IntWalk.i64_in _ (by omega)
   have ni : (ip : Int) < (n : Int) := by omega
   have wj : IntKind.i64.wrap (j : Int) = (j : Int) := IntWalk.i64_in _ (by omega)
   have nj : (j : Int) < (m : Int) := by omega
   obtain ⟨p, cc, r1, r2, r3, r4⟩ := ((H2.out hi1).below hb).below hb3
   unfold maxLen at r3
   rw [ei] at r1
   rw [ei] at r4
   obtain ⟨V, hV⟩ : ∃ V, V = T ip j := ⟨_, rfl⟩
   rw [← hV] at r4
   have HE := hid (show min L V = N by rw [hNe, hV, hLe]; unfold least2; rw [if_pos (by omega), ei])
   clear hLe hNe hV hip ei
   go_upto_region 6 with fail
   refine wp_region_stgy 14 15 (fun c w' => match c with | 0 => Below w3.heap.size w3 w' | 1 => Below w3.heap.size w3 w' | _ => Below w3.heap.size w3 w') (fun c i v w' => match i with
         | 0 => v = .int .i64 L
         | 1 => v = .slice (some ⟨g, 0, none⟩) n cg
         | 2 => v = .int .i64 ri
         | 3 => v = .pointer (some ⟨p9, 0, none⟩)
         | 4 => v = .int .i64 1
         | 5 => v = .int .i64 ip
         | 6 => v = .pointer (some ⟨g, ip, none⟩)
         | 7 => v = .slice (some ⟨p, 0, none⟩) m cc
         | 8 => v = .int .i64 j
         | 9 => v = .pointer (some ⟨p9, 1, none⟩)
         | 10 => v = .int .i64 0
         | 11 => v = .int .i64 j
         | 12 => v = .pointer (some ⟨p, j, none⟩)
         | 13 => v = .int .i64 V
         | 14 => (match c with | 0 => True | 1 => v = .int .i64 (min L V) | _ => v = .int .i64 (min L V))
         | 15 => (match c with | 0 => True | 1 => True | _ => v = .int .i64 (min L V))
         | _ => True) (by kernel_rfl) (by kernel_rfl) (by kernel_rfl) (by kernel_rfl) (by kernel_rfl) ?_ ?_ ?_ ?_ ?_ ?_ (by decide) ?_
   ·exact (Below.refl _ w3).drew
   ·intro c w w' h hb
    match c, h with
    | 0, h => exact Below.trans (B := w3.heap.size) h (hb.mono (Below.size h))
    | 1, h => exact Below.trans (B := w3.heap.size) h (hb.mono (Below.size h))
    | (k + 2), h => exact (h.trans (hb.mono h.size))
   ·intro c i v w w' h hb
    match i, h with
    | 0, h => exact h
    | 1, h => exact h
    | 2, h => exact h
    | 3, h => exact h
    | 4, h => exact h
    | 5, h => exact h
    | 6, h => exact h
    | 7, h => exact h
    | 8, h => exact h
    | 9, h => exact h
    | 10, h => exact h
    | 11, h => exact h
    | 12, h => exact h
    | 13, h => exact h
    | 14, h =>
     match c, h with
     | 0, h => exact trivial
     | 1, h => exact h
     | (k + 2), h => exact h
    | 15, h =>
     match c, h with
     | 0, h => exact trivial
     | 1, h => exact trivial
     | (k + 2), h => exact h
    | (k + 16), h => exact h
   ·refine ⟨?_, ?_, ?_, ?_, ?_, ?_, ?_, ?_, ?_, ?_, ?_, ?_, ?_, ?_, ?_, ?_, trivial⟩
    ·refine .inr (.inr ⟨fun _ => ?_, can_no (by kernel_rfl), can_no (by kernel_rfl)⟩)
     ·intro ρ w' hbw ht hcs hfn hgl hpr hdep G hG
      replace hbw : Below w3.heap.size w3 w' := hbw
      refine ⟨fun _ => ?_, fun h => by cases h⟩
      have s7 : ρ (.tmp 7) = .int .i64 L := hpr 15 7 rfl (by kernel_rfl)
      clear ht hdep hgl hpr
      go_simp
      exact hG _ _ (Below.refl _ _) rfl
    ·refine .inr (.inr ⟨fun _ => ?_, can_no (by kernel_rfl), can_no (by kernel_rfl)⟩)
     ·intro ρ w' hbw ht hcs hfn hgl hpr hdep G hG
      replace hbw : Below w3.heap.size w3 w' := hbw
      refine ⟨fun _ => ?_, fun h => by cases h⟩
      have s0 : ρ (.tmp 0) = .slice (some ⟨g, 0, none⟩) n cg := ht 0 rfl
      clear ht hdep hgl hpr
      go_simp
      exact hG _ _ (Below.refl _ _) rfl
    ·refine .inr (.inr ⟨fun _ => ?_, can_no (by kernel_rfl), can_no (by kernel_rfl)⟩)
     ·intro ρ w' hbw ht hcs hfn hgl hpr hdep G hG
      replace hbw : Below w3.heap.size w3 w' := hbw
      refine ⟨fun _ => ?_, fun h => by cases h⟩
      have s1 : ρ (.tmp 1) = .int .i64 ri := ht 1 rfl
      clear ht hdep hgl hpr
      go_simp
      exact hG _ _ (Below.refl _ _) rfl
    ·refine .inr (.inr ⟨fun _ => ?_, can_no (by kernel_rfl), can_no (by kernel_rfl)⟩)
     ·intro ρ w' hbw ht hcs hfn hgl hpr hdep G hG
      replace hbw : Below w3.heap.size w3 w' := hbw
      refine ⟨fun _ => ?_, fun h => by cases h⟩
      have s9 : ρ (.tmp 9) = .pointer (some ⟨p9, 0, none⟩) := ht 9 rfl
      clear ht hdep hgl hpr
      go_simp
      exact hG _ _ (Below.refl _ _) rfl
    ·refine .inr (.inr ⟨fun _ => ?_, can_no (by kernel_rfl), can_no (by kernel_rfl)⟩)
     ·intro ρ w' hbw ht hcs hfn hgl hpr hdep G hG
      replace hbw : Below w3.heap.size w3 w' := hbw
      refine ⟨fun _ => ?_, fun h => by cases h⟩
      have s27 : ρ (.tmp 27) = .pointer (some ⟨p9, 0, none⟩) := hdep ⟨3, .data⟩ (by simp) rfl 27 rfl
      have r1 := cell_later hbw r1
      have r4 := cell_later hbw r4
      have y0 := cell_later hbw y0
      have y1 := cell_later hbw y1
      clear ht hdep hgl hpr
      go_simp
      exact hG _ _ (Below.refl _ _) rfl
    ·refine .inr (.inr ⟨fun _ => ?_, can_no (by kernel_rfl), can_no (by kernel_rfl)⟩)
     ·intro ρ w' hbw ht hcs hfn hgl hpr hdep G hG
      replace hbw : Below w3.heap.size w3 w' := hbw
      refine ⟨fun _ => ?_, fun h => by cases h⟩
      have s26 : ρ (.tmp 26) = .int .i64 ri := hdep ⟨2, .data⟩ (by simp) rfl 26 rfl
      have s28 : ρ (.tmp 28) = .int .i64 1 := hdep ⟨4, .data⟩ (by simp) rfl 28 rfl
      clear ht hdep hgl hpr
      go_simp
      exact hG _ _ (Below.refl _ _) rfl
    ·refine .inr (.inr ⟨fun _ => ?_, can_no (by kernel_rfl), can_no (by kernel_rfl)⟩)
     ·intro ρ w' hbw ht hcs hfn hgl hpr hdep G hG
      replace hbw : Below w3.heap.size w3 w' := hbw
      refine ⟨fun _ => ?_, fun h => by cases h⟩
      have s25 : ρ (.tmp 25) = .slice (some ⟨g, 0, none⟩) n cg := hdep ⟨1, .data⟩ (by simp) rfl 25 rfl
      have s29 : ρ (.tmp 29) = .int .i64 ip := hdep ⟨5, .data⟩ (by simp) rfl 29 rfl
      clear ht hdep hgl hpr
      go_simp
      exact hG _ _ (Below.refl _ _) rfl
    ·refine .inr (.inr ⟨fun _ => ?_, can_no (by kernel_rfl), can_no (by kernel_rfl)⟩)
     ·intro ρ w' hbw ht hcs hfn hgl hpr hdep G hG
      replace hbw : Below w3.heap.size w3 w' := hbw
      refine ⟨fun _ => ?_, fun h => by cases h⟩
      have s30 : ρ (.tmp 30) = .pointer (some ⟨g, ip, none⟩) := hdep ⟨6, .data⟩ (by simp) rfl 30 rfl
      have r1 := cell_later hbw r1
      have r4 := cell_later hbw r4
      have y0 := cell_later hbw y0
      have y1 := cell_later hbw y1
      clear ht hdep hgl hpr
      go_simp
      exact hG _ _ (Below.refl _ _) rfl
    ·refine .inr (.inr ⟨fun _ => ?_, can_no (by kernel_rfl), can_no (by kernel_rfl)⟩)
     ·intro ρ w' hbw ht hcs hfn hgl hpr hdep G hG
      replace hbw : Below w3.heap.size w3 w' := hbw
      refine ⟨fun _ => ?_, fun h => by cases h⟩
      have s2 : ρ (.tmp 2) = .int .i64 j := ht 2 rfl
      clear ht hdep hgl hpr
      go_simp
      exact hG _ _ (Below.refl _ _) rfl
    ·refine .inr (.inr ⟨fun _ => ?_, can_no (by kernel_rfl), can_no (by kernel_rfl)⟩)
     ·intro ρ w' hbw ht hcs hfn hgl hpr hdep G hG
      replace hbw : Below w3.heap.size w3 w' := hbw
      refine ⟨fun _ => ?_, fun h => by cases h⟩
      have s9 : ρ (.tmp 9) = .pointer (some ⟨p9, 0, none⟩) := ht 9 rfl
      clear ht hdep hgl hpr
      go_simp
      exact hG _ _ (Below.refl _ _) rfl
    ·refine .inr (.inr ⟨fun _ => ?_, can_no (by kernel_rfl), can_no (by kernel_rfl)⟩)
     ·intro ρ w' hbw ht hcs hfn hgl hpr hdep G hG
      replace hbw : Below w3.heap.size w3 w' := hbw
      refine ⟨fun _ => ?_, fun h => by cases h⟩
      have s33 : ρ (.tmp 33) = .pointer (some ⟨p9, 1, none⟩) := hdep ⟨9, .data⟩ (by simp) rfl 33 rfl
      have r1 := cell_later hbw r1
      have r4 := cell_later hbw r4
      have y0 := cell_later hbw y0
      have y1 := cell_later hbw y1
      clear ht hdep hgl hpr
      go_simp
      exact hG _ _ (Below.refl _ _) rfl
    ·refine .inr (.inr ⟨fun _ => ?_, can_no (by kernel_rfl), can_no (by kernel_rfl)⟩)
     ·intro ρ w' hbw ht hcs hfn hgl hpr hdep G hG
      replace hbw : Below w3.heap.size w3 w' := hbw
      refine ⟨fun _ => ?_, fun h => by cases h⟩
      have s32 : ρ (.tmp 32) = .int .i64 j := hdep ⟨8, .data⟩ (by simp) rfl 32 rfl
      have s34 : ρ (.tmp 34) = .int .i64 0 := hdep ⟨10, .data⟩ (by simp) rfl 34 rfl
      clear ht hdep hgl hpr
      go_simp
      exact hG _ _ (Below.refl _ _) rfl
    ·refine .inr (.inr ⟨fun _ => ?_, can_no (by kernel_rfl), can_no (by kernel_rfl)⟩)
     ·intro ρ w' hbw ht hcs hfn hgl hpr hdep G hG
      replace hbw : Below w3.heap.size w3 w' := hbw
      refine ⟨fun _ => ?_, fun h => by cases h⟩
      have s31 : ρ (.tmp 31) = .slice (some ⟨p, 0, none⟩) m cc := hdep ⟨7, .data⟩ (by simp) rfl 31 rfl
      have s35 : ρ (.tmp 35) = .int .i64 j := hdep ⟨11, .data⟩ (by simp) rfl 35 rfl
      clear ht hdep hgl hpr
      go_simp
      exact hG _ _ (Below.refl _ _) rfl
    ·refine .inr (.inr ⟨fun _ => ?_, can_no (by kernel_rfl), can_no (by kernel_rfl)⟩)
     ·intro ρ w' hbw ht hcs hfn hgl hpr hdep G hG
      replace hbw : Below w3.heap.size w3 w' := hbw
      refine ⟨fun _ => ?_, fun h => by cases h⟩
      have s36 : ρ (.tmp 36) = .pointer (some ⟨p, j, none⟩) := hdep ⟨12, .data⟩ (by simp) rfl 36 rfl
      have r1 := cell_later hbw r1
      have r4 := cell_later hbw r4
      have y0 := cell_later hbw y0
      have y1 := cell_later hbw y1
      clear ht hdep hgl hpr
      go_simp
      exact hG _ _ (Below.refl _ _) rfl
    ·exact .inl rfl
    ·exact .inr (.inl rfl)
   ·intro o ho
    obtain rfl := Option.some.inj ho
    intro ρ w' hbw ht hcs hfn hgl hpr hdep G hG
    replace hbw : Below w3.heap.size w3 w' := hbw
    refine ⟨fun _ => ?_, fun h => by cases h⟩
    have s24 : ρ (.tmp 24) = .int .i64 L := hdep ⟨0, .data⟩ (by simp) rfl 24 rfl
    have s37 : ρ (.tmp 37) = .int .i64 V := hdep ⟨13, .data⟩ (by simp) rfl 37 rfl
    clear ht hdep hgl hpr
    go_simp
    refine hG _ _ hbw rfl ?_
    intro j u hj hne h
    match j, h with
    | 0, h => exact h
    | 1, h => exact h
    | 2, h => exact h
    | 3, h => exact h
    | 4, h => exact h
    | 5, h => exact h
    | 6, h => exact h
    | 7, h => exact h
    | 8, h => exact h
    | 9, h => exact h
    | 10, h => exact h
    | 11, h => exact h
    | 12, h => exact h
    | 13, h => exact h
    | 14, h => exact absurd rfl hne
    | 15, h => exact trivial
    | (k + 16), h => exact h
   ·intro o ho
    obtain rfl := Option.some.inj ho
    intro ρ w' hbw ht hcs hfn hgl hpr hdep G hG
    replace hbw : Below w3.heap.size w3 w' := hbw
    refine ⟨fun _ => ?_, fun h => by cases h⟩
    have d38 := hdep ⟨14, .data⟩ (by simp) rfl 38 rfl
    clear ht hdep hgl hpr
    replace d38 : ρ (.tmp 38) = .int .i64 (min L V) := d38
    go_simp
    refine hG _ _ hbw rfl ?_
    intro j u hj hne hru h
    match j, h with
    | 0, h => exact h
    | 1, h => exact h
    | 2, h => exact h
    | 3, h => exact h
    | 4, h => exact h
    | 5, h => exact h
    | 6, h => exact h
    | 7, h => exact h
    | 8, h => exact h
    | 9, h => exact h
    | 10, h => exact h
    | 11, h => exact h
    | 12, h => exact h
    | 13, h => exact h
    | 14, h => exact h
    | 15, h => exact absurd rfl hne
    | (k + 16), h => exact h
   intro xx w6 hF hx
   have HW := hx 15 (by simp)
   clear hx
   simp only [putAll, Act.put, List.setIfInBounds_toArray, List.set_cons_succ, List.set_cons_zero, Nat.zero_add, Nat.reduceAdd]
   replace HW : xx 15 = .int .i64 (min L V) := HW
   rw [HE.out] at HW
   rw [HW]
   generalize xx 14 = u14 at *
   have hbw4 := hbw3.trans (hF.mono hbw3.size)
   clear HW
   go_wp2_with fail
   go_roundw
   case rel => exact ⟨2, by omega, by go_num, by rw [HN.out], hbw4⟩
   case measure => simp [intOf]
  ·obtain ⟨w3, hw3⟩ : ∃ u, u = w2.alloc (.cells #[.int .i64 0, .int .i64 1] 258) := ⟨_, rfl⟩
   obtain ⟨p9, hp9⟩ : ∃ p, p = w2.heap.size := ⟨_, rfl⟩
   obtain ⟨L, hL⟩ : ∃ L, L = leastK T 1099511627776 ri j 2 := ⟨_, rfl⟩
   have ix := ix2
   obtain ⟨N, hN⟩ : ∃ N, N = leastK T 1099511627776 ri j 3 := ⟨_, rfl⟩
   have hLe : L = least2 T 1099511627776 ri j := hL
   have hNe : N = least3 T 1099511627776 ri j := hN
   rw [← hL]
   go_upto_region 5 with fail
   rw [← hw3, ← hp9]
   have hb3 : Below w2.heap.size w2 w3 := by rw [hw3]; exact below_alloc _ _
   have q9 : Box w3 p9 #[.int .i64 0, .int .i64 1] 258 := by rw [hw3, hp9]; exact Box.new _ _ _
   have y0 := q9.cell (j := 0) rfl
   have y1 := q9.cell (j := 1) rfl
   have hbw3 := hb.trans (hb3.mono hbs)
   have HN := hid hN
   clear hw3 hp9 hL hN q9
   have gi : (0 : Int) ≤ (ri : Int) := by omega
   by_cases hj1 : 1 ≤ j
   rotate_left
   ·skip
    have gj : ¬ ((1 : Int) ≤ (j : Int)) := by omega
    have HE := hid (show L = N by rw [hLe, hNe]; unfold least3; rw [if_neg (by omega)])
    clear hLe hNe
    go_wp2_with fail
    go_roundw
    case rel => exact ⟨3, by omega, by go_num, by rw [← HN.out, HE.out], hbw3⟩
    case measure => simp [intOf]
   have gj : (1 : Int) ≤ (j : Int) := by omega
   have wi : IntKind.i64.wrap (ri : Int) = (ri : Int) := IntWalk.i64_in _ (by omega)
   have ni : (ri : Int) < (n : Int) := by omega
   obtain ⟨jp, hjp⟩ : ∃ jp, j = jp + 1 := ⟨j - 1, by omega⟩
   have ej : j - 1 = jp := by omega
   have wj : IntKind.i64.wrap ((j : Int) - 1) = (jp : Int) := by rw [hjp]; push_cast; rw [Int.add_sub_cancel]; exact IntWalk.i64_in _ (by omega)
   have nj : (jp : Int) < (m : Int) := by omega
   obtain ⟨p, cc, r1, r2, r3, r4⟩ := ((H3.out hj1).below hb).below hb3
   unfold maxLen at r3
   rw [ej] at r4
   obtain ⟨V, hV⟩ : ∃ V, V = T ri jp := ⟨_, rfl⟩
   rw [← hV] at r4
   have HE := hid (show min L V = N by rw [hNe, hV, hLe]; unfold least3; rw [if_pos (by omega), ej])
   clear hLe hNe hV hjp ej
   go_upto_region 6 with fail
   refine wp_region_stgy 14 15 (fun c w' => match c with | 0 => Below w3.heap.size w3 w' | 1 => Below w3.heap.size w3 w' | _ => Below w3.heap.size w3 w') (fun c i v w' => match i with
         | 0 => v = .int .i64 L
         | 1 => v = .slice (some ⟨g, 0, none⟩) n cg
         | 2 => v = .int .i64 ri
         | 3 => v = .pointer (some ⟨p9, 0, none⟩)
         | 4 => v = .int .i64 0
         | 5 => v = .int .i64 ri
         | 6 => v = .pointer (some ⟨g, ri, none⟩)
         | 7 => v = .slice (some ⟨p, 0, none⟩) m cc
         | 8 => v = .int .i64 j
         | 9 => v = .pointer (some ⟨p9, 1, none⟩)
         | 10 => v = .int .i64 1
         | 11 => v = .int .i64 jp
         | 12 => v = .pointer (some ⟨p, jp, none⟩)
         | 13 => v = .int .i64 V
         | 14 => (match c with | 0 => True | 1 => v = .int .i64 (min L V) | _ => v = .int .i64 (min L V))
         | 15 => (match c with | 0 => True | 1 => True | _ => v = .int .i64 (min L V))
         | _ => True) (by kernel_rfl) (by kernel_rfl) (by kernel_rfl) (by kernel_rfl) (by kernel_rfl) ?_ ?_ ?_ ?_ ?_ ?_ (by decide) ?_
   ·exact (Below.refl _ w3).drew
   ·intro c w w' h hb
    match c, h with
    | 0, h => exact Below.trans (B := w3.heap.size) h (hb.mono (Below.size h))
    | 1, h => exact Below.trans (B := w3.heap.size) h (hb.mono (Below.size h))
    | (k + 2), h => exact (h.trans (hb.mono h.size))
   ·intro c i v w w' h hb
    match i, h with
    | 0, h => exact h
    | 1, h => exact h
    | 2, h => exact h
    | 3, h => exact h
    | 4, h => exact h
    | 5, h => exact h
    | 6, h => exact h
    | 7, h => exact h
    | 8, h => exact h
    | 9, h => exact h
    | 10, h => exact h
    | 11, h => exact h
    | 12, h => exact h
    | 13, h => exact h
    | 14, h =>
     match c, h with
     | 0, h => exact trivial
     | 1, h => exact h
     | (k + 2), h => exact h
    | 15, h =>
     match c, h with
     | 0, h => exact trivial
     | 1, h => exact trivial
     | (k + 2), h => exact h
    | (k + 16), h => exact h
   ·refine ⟨?_, ?_, ?_, ?_, ?_, ?_, ?_, ?_, ?_, ?_, ?_, ?_, ?_, ?_, ?_, ?_, trivial⟩
    ·refine .inr (.inr ⟨fun _ => ?_, can_no (by kernel_rfl), can_no (by kernel_rfl)⟩)
     ·intro ρ w' hbw ht hcs hfn hgl hpr hdep G hG
      replace hbw : Below w3.heap.size w3 w' := hbw
      refine ⟨fun _ => ?_, fun h => by cases h⟩
      have s7 : ρ (.tmp 7) = .int .i64 L := hpr 15 7 rfl (by kernel_rfl)
      clear ht hdep hgl hpr
      go_simp
      exact hG _ _ (Below.refl _ _) rfl
    ·refine .inr (.inr ⟨fun _ => ?_, can_no (by kernel_rfl), can_no (by kernel_rfl)⟩)
     ·intro ρ w' hbw ht hcs hfn hgl hpr hdep G hG
      replace hbw : Below w3.heap.size w3 w' := hbw
      refine ⟨fun _ => ?_, fun h => by cases h⟩
      have s0 : ρ (.tmp 0) = .slice (some ⟨g, 0, none⟩) n cg := ht 0 rfl
      clear ht hdep hgl hpr
      go_simp
      exact hG _ _ (Below.refl _ _) rfl
    ·refine .inr (.inr ⟨fun _ => ?_, can_no (by kernel_rfl), can_no (by kernel_rfl)⟩)
     ·intro ρ w' hbw ht hcs hfn hgl hpr hdep G hG
      replace hbw : Below w3.heap.size w3 w' := hbw
      refine ⟨fun _ => ?_, fun h => by cases h⟩
      have s1 : ρ (.tmp 1) = .int .i64 ri := ht 1 rfl
      clear ht hdep hgl hpr
      go_simp
      exact hG _ _ (Below.refl _ _) rfl
    ·refine .inr (.inr ⟨fun _ => ?_, can_no (by kernel_rfl), can_no (by kernel_rfl)⟩)
     ·intro ρ w' hbw ht hcs hfn hgl hpr hdep G hG
      replace hbw : Below w3.heap.size w3 w' := hbw
      refine ⟨fun _ => ?_, fun h => by cases h⟩
      have s9 : ρ (.tmp 9) = .pointer (some ⟨p9, 0, none⟩) := ht 9 rfl
      clear ht hdep hgl hpr
      go_simp
      exact hG _ _ (Below.refl _ _) rfl
    ·refine .inr (.inr ⟨fun _ => ?_, can_no (by kernel_rfl), can_no (by kernel_rfl)⟩)
     ·intro ρ w' hbw ht hcs hfn hgl hpr hdep G hG
      replace hbw : Below w3.heap.size w3 w' := hbw
      refine ⟨fun _ => ?_, fun h => by cases h⟩
      have s27 : ρ (.tmp 27) = .pointer (some ⟨p9, 0, none⟩) := hdep ⟨3, .data⟩ (by simp) rfl 27 rfl
      have r1 := cell_later hbw r1
      have r4 := cell_later hbw r4
      have y0 := cell_later hbw y0
      have y1 := cell_later hbw y1
      clear ht hdep hgl hpr
      go_simp
      exact hG _ _ (Below.refl _ _) rfl
    ·refine .inr (.inr ⟨fun _ => ?_, can_no (by kernel_rfl), can_no (by kernel_rfl)⟩)
     ·intro ρ w' hbw ht hcs hfn hgl hpr hdep G hG
      replace hbw : Below w3.heap.size w3 w' := hbw
      refine ⟨fun _ => ?_, fun h => by cases h⟩
      have s26 : ρ (.tmp 26) = .int .i64 ri := hdep ⟨2, .data⟩ (by simp) rfl 26 rfl
      have s28 : ρ (.tmp 28) = .int .i64 0 := hdep ⟨4, .data⟩ (by simp) rfl 28 rfl
      clear ht hdep hgl hpr
      go_simp
      exact hG _ _ (Below.refl _ _) rfl
    ·refine .inr (.inr ⟨fun _ => ?_, can_no (by kernel_rfl), can_no (by kernel_rfl)⟩)
     ·intro ρ w' hbw ht hcs hfn hgl hpr hdep G hG
      replace hbw : Below w3.heap.size w3 w' := hbw
      refine ⟨fun _ => ?_, fun h => by cases h⟩
      have s25 : ρ (.tmp 25) = .slice (some ⟨g, 0, none⟩) n cg := hdep ⟨1, .data⟩ (by simp) rfl 25 rfl
      have s29 : ρ (.tmp 29) = .int .i64 ri := hdep ⟨5, .data⟩ (by simp) rfl 29 rfl
      clear ht hdep hgl hpr
      go_simp
      exact hG _ _ (Below.refl _ _) rfl
    ·refine .inr (.inr ⟨fun _ => ?_, can_no (by kernel_rfl), can_no (by kernel_rfl)⟩)
     ·intro ρ w' hbw ht hcs hfn hgl hpr hdep G hG
      replace hbw : Below w3.heap.size w3 w' := hbw
      refine ⟨fun _ => ?_, fun h => by cases h⟩
      have s30 : ρ (.tmp 30) = .pointer (some ⟨g, ri, none⟩) := hdep ⟨6, .data⟩ (by simp) rfl 30 rfl
      have r1 := cell_later hbw r1
      have r4 := cell_later hbw r4
      have y0 := cell_later hbw y0
      have y1 := cell_later hbw y1
      clear ht hdep hgl hpr
      go_simp
      exact hG _ _ (Below.refl _ _) rfl
    ·refine .inr (.inr ⟨fun _ => ?_, can_no (by kernel_rfl), can_no (by kernel_rfl)⟩)
     ·intro ρ w' hbw ht hcs hfn hgl hpr hdep G hG
      replace hbw : Below w3.heap.size w3 w' := hbw
      refine ⟨fun _ => ?_, fun h => by cases h⟩
      have s2 : ρ (.tmp 2) = .int .i64 j := ht 2 rfl
      clear ht hdep hgl hpr
      go_simp
      exact hG _ _ (Below.refl _ _) rfl
    ·refine .inr (.inr ⟨fun _ => ?_, can_no (by kernel_rfl), can_no (by kernel_rfl)⟩)
     ·intro ρ w' hbw ht hcs hfn hgl hpr hdep G hG
      replace hbw : Below w3.heap.size w3 w' := hbw
      refine ⟨fun _ => ?_, fun h => by cases h⟩
      have s9 : ρ (.tmp 9) = .pointer (some ⟨p9, 0, none⟩) := ht 9 rfl
      clear ht hdep hgl hpr
      go_simp
      exact hG _ _ (Below.refl _ _) rfl
    ·refine .inr (.inr ⟨fun _ => ?_, can_no (by kernel_rfl), can_no (by kernel_rfl)⟩)
     ·intro ρ w' hbw ht hcs hfn hgl hpr hdep G hG
      replace hbw : Below w3.heap.size w3 w' := hbw
      refine ⟨fun _ => ?_, fun h => by cases h⟩
      have s33 : ρ (.tmp 33) = .pointer (some ⟨p9, 1, none⟩) := hdep ⟨9, .data⟩ (by simp) rfl 33 rfl
      have r1 := cell_later hbw r1
      have r4 := cell_later hbw r4
      have y0 := cell_later hbw y0
      have y1 := cell_later hbw y1
      clear ht hdep hgl hpr
      go_simp
      exact hG _ _ (Below.refl _ _) rfl
    ·refine .inr (.inr ⟨fun _ => ?_, can_no (by kernel_rfl), can_no (by kernel_rfl)⟩)
     ·intro ρ w' hbw ht hcs hfn hgl hpr hdep G hG
      replace hbw : Below w3.heap.size w3 w' := hbw
      refine ⟨fun _ => ?_, fun h => by cases h⟩
      have s32 : ρ (.tmp 32) = .int .i64 j := hdep ⟨8, .data⟩ (by simp) rfl 32 rfl
      have s34 : ρ (.tmp 34) = .int .i64 1 := hdep ⟨10, .data⟩ (by simp) rfl 34 rfl
      clear ht hdep hgl hpr
      go_simp
      exact hG _ _ (Below.refl _ _) rfl
    ·refine .inr (.inr ⟨fun _ => ?_, can_no (by kernel_rfl), can_no (by kernel_rfl)⟩)
     ·intro ρ w' hbw ht hcs hfn hgl hpr hdep G hG
      replace hbw : Below w3.heap.size w3 w' := hbw
      refine ⟨fun _ => ?_, fun h => by cases h⟩
      have s31 : ρ (.tmp 31) = .slice (some ⟨p, 0, none⟩) m cc := hdep ⟨7, .data⟩ (by simp) rfl 31 rfl
      have s35 : ρ (.tmp 35) = .int .i64 jp := hdep ⟨11, .data⟩ (by simp) rfl 35 rfl
      clear ht hdep hgl hpr
      go_simp
      exact hG _ _ (Below.refl _ _) rfl
    ·refine .inr (.inr ⟨fun _ => ?_, can_no (by kernel_rfl), can_no (by kernel_rfl)⟩)
     ·intro ρ w' hbw ht hcs hfn hgl hpr hdep G hG
      replace hbw : Below w3.heap.size w3 w' := hbw
      refine ⟨fun _ => ?_, fun h => by cases h⟩
      have s36 : ρ (.tmp 36) = .pointer (some ⟨p, jp, none⟩) := hdep ⟨12, .data⟩ (by simp) rfl 36 rfl
      have r1 := cell_later hbw r1
      have r4 := cell_later hbw r4
      have y0 := cell_later hbw y0
      have y1 := cell_later hbw y1
      clear ht hdep hgl hpr
      go_simp
      exact hG _ _ (Below.refl _ _) rfl
    ·exact .inl rfl
    ·exact .inr (.inl rfl)
   ·intro o ho
    obtain rfl := Option.some.inj ho
    intro ρ w' hbw ht hcs hfn hgl hpr hdep G hG
    replace hbw : Below w3.heap.size w3 w' := hbw
    refine ⟨fun _ => ?_, fun h => by cases h⟩
    have s24 : ρ (.tmp 24) = .int .i64 L := hdep ⟨0, .data⟩ (by simp) rfl 24 rfl
    have s37 : ρ (.tmp 37) = .int .i64 V := hdep ⟨13, .data⟩ (by simp) rfl 37 rfl
    clear ht hdep hgl hpr
    go_simp
    refine hG _ _ hbw rfl ?_
    intro j u hj hne h
    match j, h with
    | 0, h => exact h
    | 1, h => exact h
    | 2, h => exact h
    | 3, h => exact h
    | 4, h => exact h
    | 5, h => exact h
    | 6, h => exact h
    | 7, h => exact h
    | 8, h => exact h
    | 9, h => exact h
    | 10, h => exact h
    | 11, h => exact h
    | 12, h => exact h
    | 13, h => exact h
    | 14, h => exact absurd rfl hne
    | 15, h => exact trivial
    | (k + 16), h => exact h
   ·intro o ho
    obtain rfl := Option.some.inj ho
    intro ρ w' hbw ht hcs hfn hgl hpr hdep G hG
    replace hbw : Below w3.heap.size w3 w' := hbw
    refine ⟨fun _ => ?_, fun h => by cases h⟩
    have d38 := hdep ⟨14, .data⟩ (by simp) rfl 38 rfl
    clear ht hdep hgl hpr
    replace d38 : ρ (.tmp 38) = .int .i64 (min L V) := d38
    go_simp
    refine hG _ _ hbw rfl ?_
    intro j u hj hne hru h
    match j, h with
    | 0, h => exact h
    | 1, h => exact h
    | 2, h => exact h
    | 3, h => exact h
    | 4, h => exact h
    | 5, h => exact h
    | 6, h => exact h
    | 7, h => exact h
    | 8, h => exact h
    | 9, h => exact h
    | 10, h => exact h
    | 11, h => exact h
    | 12, h => exact h
    | 13, h => exact h
    | 14, h => exact h
    | 15, h => exact absurd rfl hne
    | (k + 16), h => exact h
   intro xx w6 hF hx
   have HW := hx 15 (by simp)
   clear hx
   simp only [putAll, Act.put, List.setIfInBounds_toArray, List.set_cons_succ, List.set_cons_zero, Nat.zero_add, Nat.reduceAdd]
   replace HW : xx 15 = .int .i64 (min L V) := HW
   rw [HE.out] at HW
   rw [HW]
   generalize xx 14 = u14 at *
   have hbw4 := hbw3.trans (hF.mono hbw3.size)
   clear HW
   go_wp2_with fail
   go_roundw
   case rel => exact ⟨3, by omega, by go_num, by rw [HN.out], hbw4⟩
   case measure => simp [intOf]
end Go.Proofs.YtlnoelbeaolikaaGreat
namespace Go.Proofs.YtlnoelbeaolikaaGreat
open Go.RowKit
theorem chg_below {B : Nat} {w w' : World} (h : Below B w w') : Chg B w.heap.size w w' := ⟨h.os, h.tape, h.output, h.size, fun k hk hj => h.block k (by omega)⟩
theorem ownS_get {e : TypeId} {B g cap n : Nat} {w : World} {xs : List SV} (h : Own eS1 e B w (.slice (some ⟨g, 0, none⟩) n cap) xs) {k : Nat} {s : SV} (hk : xs[k]? = some s) : w.cell? ⟨g, k, none⟩ = some (.slice s.a s.n s.c) := by
 obtain ⟨b, off, ao, cap', hv, _, _, hao, hc⟩ := h.arr
 have hk0 : 0 < xs.length := by have := (List.getElem?_eq_some_iff.1 hk).1; omega
 obtain ⟨e1, _⟩ := hao hk0
 simp only [Value.slice.injEq] at hv
 obtain ⟨e2, _, _⟩ := hv
 rw [e1] at e2
 simp only [Option.some.injEq, Addr.mk.injEq, and_true] at e2
 obtain ⟨rfl, rfl⟩ := e2
 have := eS1_cells hc hk
 rwa [Nat.zero_add] at this
theorem ownS_set {e : TypeId} {B g cap n : Nat} {w : World} {xs : List SV} (h : Own eS1 e B w (.slice (some ⟨g, 0, none⟩) n cap) xs) (hn : n = xs.length) {k : Nat} (hk : k < n) (s : SV) :
  Own eS1 e B (w.setCell ⟨g, k, none⟩ (.slice s.a s.n s.c)) (.slice (some ⟨g, 0, none⟩) n cap) (xs.set k s) ∧ w.grownBy (w.setCell ⟨g, k, none⟩ (.slice s.a s.n s.c)) (some g) := by
 have h1 := h.set hn k (by omega) s
 have e2 : storesAt w g (k * eS1.sz) (eS1.row s) = w.setCell ⟨g, k, none⟩ (.slice s.a s.n s.c) := by
  show w.setCell ⟨g, k * 1, none⟩ _ = _
  rw [Nat.mul_one]
  rfl
 rwa [e2] at h1
/-- the first k rows of the table lie in memory -/
def RowsT (T : Nat → Nat → Int) (g n m k : Nat) (vs : List SV) (w : World) : Prop :=
 Own eS1 139 g w (.slice (some ⟨g, 0, none⟩) n n) vs ∧ vs.length = n ∧ ∀ x, x < k → ∃ p c, vs[x]? = some ⟨some ⟨p, 0, none⟩, m, c⟩ ∧ g < p ∧ p < w.heap.size ∧ m ≤ c ∧ c ≤ maxLen ∧ ∀ y, y < m → w.cell? ⟨p, y, none⟩ = some (.int .i64 (T x y))
theorem RowsT.at_ {T : Nat → Nat → Int} {g n m k : Nat} {vs : List SV} {w : World} (h : RowsT T g n m k vs w) {x y : Nat} (hx : x < k) (hy : y < m) : RowAt w g m T x y := by
 obtain ⟨h1, h2, h3⟩ := h
 obtain ⟨p, c, h4, _, _, h5, h6, h7⟩ := h3 x hx
 exact ⟨p, c, ownS_get h1 h4, h5, h6, h7 y hy⟩
/-- a row is made, and laid in its place -/
theorem RowsT.put {T : Nat → Nat → Int} {g n m k q : Nat} {vs : List SV} {w w2 : World} (h : RowsT T g n m k vs w) (hb : Below w.heap.size w w2) (hk : k < n) :
  RowsT T g n m k (vs.set k ⟨some ⟨q, 0, none⟩, m, m⟩) (w2.setCell ⟨g, k, none⟩ (.slice (some ⟨q, 0, none⟩) m m)) ∧ w2.grownBy (w2.setCell ⟨g, k, none⟩ (.slice (some ⟨q, 0, none⟩) m m)) (some g) := by
 obtain ⟨h1, h2, h3⟩ := h
 have h4 := ownS_set (h1.below hb) h2.symm hk ⟨some ⟨q, 0, none⟩, m, m⟩
 refine ⟨⟨h4.1, by rw [List.length_set]; exact h2, fun x hx => ?_⟩, h4.2⟩
 obtain ⟨p, c, a1, a2, a3, a4, a5, a6⟩ := h3 x hx
 exact ⟨p, c, by rw [List.getElem?_set_ne (by omega)]; exact a1, a2, by have := hb.size; simp; omega, a4, a5, fun y hy => cell_other (cell_later hb (a6 y hy)) (by show p ≠ g; omega)⟩
/-- the row is filled -/
theorem RowsT.next {T : Nat → Nat → Int} {g n m k q : Nat} {vs : List SV} {w w' : World} {ys : List Int} (h : RowsT T g n m k vs w) (hv : vs[k]? = some ⟨some ⟨q, 0, none⟩, m, m⟩) (hb : Below q w w') (hgq : g < q) (hlo : ∀ x p c, x < k → vs[x]? = some ⟨some ⟨p, 0, none⟩, m, c⟩ → p < q)
  (ho : Own eI 2 q w' (.slice (some ⟨q, 0, none⟩) m m) ys) (hm : m ≤ maxLen) (hy : ∀ y, y < m → ys[y]? = some (T k y)) : RowsT T g n m (k + 1) vs w' := by
 obtain ⟨h1, h2, h3⟩ := h
 have hc := chg_below hb
 refine ⟨?_, h2, fun x hx => ?_⟩
 ·have h5 : OwnIn eS1 139 g (g + 1) w (.slice (some ⟨g, 0, none⟩) n n) vs := ⟨h1, fun g' hg' => by have e : some g = some g' := hg'; cases e; omega⟩
  exact (h5.chg hc (.inr hgq)).1
 ·by_cases e : x = k
  ·subst e
   exact ⟨q, m, hv, hgq, ho.lt.2, Nat.le_refl _, hm, fun y hyy => ownE_get ho (hy y hyy)⟩
  ·obtain ⟨p, c, a1, a2, a3, a4, a5, a6⟩ := h3 x (by omega)
   have hpq := hlo x p c (by omega) a1
   exact ⟨p, c, a1, a2, Nat.lt_of_lt_of_le a3 hb.size, a4, a5, fun y hy => below_cell hb hpq (a6 y hy)⟩
theorem infRowT : (Tryz.prog.info? 139).map (fun i => (i.zero, i.size, i.bytes)) = some (some (.slice none 0 0), 1, 24) := by kernel_rfl
def TabPostI (T : Nat → Nat → Int) (n m : Nat) (w : World) (e : Ending) (w' : World) : Prop := ∃ g vs, e = .returned (.slice (some ⟨g, 0, none⟩) n n) ∧ RowsT T g n m n vs w' ∧ Below w.heap.size w w'
set_option maxRecDepth 100000 in
set_option maxHeartbeats 8000000 in
theorem costTable_any (u v : Value) (a b : List DFeat) (r : Nat) (w : World) (ha : Arr eFeat w u a) (hb : Arr eFeat w v b) (oa : ∀ f ∈ a, okF f) (ob : ∀ f ∈ b, okF f) (a1 : 1 ≤ a.length) (a2 : a.length ≤ 72) (b1 : 1 ≤ b.length) (b2 : b.length ≤ 72) (_ : r ≤ 72) :
  Calls Tryz.prog 157 #[u, v, .int .i64 r] w (TabPostI (tabF 1099511627776 (cF a b) r) a.length b.length w) := by
 obtain ⟨ga, offa, aa, ca, rfl, hna, hma, haa, hca⟩ := ha
 obtain ⟨gb, offb, ab, cb, rfl, hnb, hmb, hab, hcb⟩ := hb
 obtain ⟨haa', hwa⟩ := haa (by omega)
 obtain ⟨hab', hwb⟩ := hab (by omega)
 subst haa' hab'
 unfold maxLen at hma hmb
 clear haa hab
 obtain ⟨i0, hi, hz0, hz1, hz2⟩ := info_parts infRowT
 obtain ⟨k0, ki, kz0, kz1, kz2⟩ := info_parts infoI
 have OKA := hid oa
 have OKB := hid ob
 have HT := hid (fun ri j => tabF_eq 1099511627776 (cF a b) r ri j)
 obtain ⟨T, hT⟩ : ∃ T, T = tabF 1099511627776 (cF a b) r := ⟨_, rfl⟩
 rw [← hT] at HT
 have HTT := hid hT
 clear oa ob hT
 go_enter Tryz.func157, Tryz.ntmps157
 go_wp2_with (at_make; refine wpList_make_full _ rfl _ _ 218 rfl w.heap.size 139 i0 _ 1 Tryz.underlying218 hi hz0 hz1 _ _ _ _ a.length rfl rfl rfl rfl (by rw [hz2]; omega) (by unfold maxLen; omega) (Nat.le_refl _) ?_; intro w1 hown hgr)
 have hown := Own.made (E := eS1) (z := (⟨none, 0, 0⟩ : SV)) hown rfl
 obtain ⟨g, hg⟩ : ∃ g, g = w.heap.size := ⟨_, rfl⟩
 rw [← hg] at hown ⊢
 have hw1 : Below g w w1 := by rw [hg]; exact (Below.refl _ _).grown hgr (Nat.le_refl _) (by simp)
 have hga : ga < g := by rw [hg]; exact hwa
 have hgb : gb < g := by rw [hg]; exact hwb
 have Hg := hid hg
 clear hg hgr hi hz0 hz1 hz2
 go_loopw [16] (fun iv wr => ∃ (ri : Nat) (vs : List SV), ri ≤ a.length ∧ iv = .int .i64 ri ∧ RowsT T g a.length b.length ri vs wr ∧ Below g w wr) (fun iv _ => a.length - (intOf iv).toNat)
 case atStart => exact ⟨0, _, Nat.zero_le _, rfl, ⟨hown, by simp, fun x hx => by omega⟩, hw1⟩
 case round =>
  clear hown hw1
  obtain ⟨w2, rfl⟩ : ∃ u, u = wr := ⟨wr, rfl⟩
  obtain ⟨ri, vs, hil, rfl, hrt, hbl⟩ := hrel
  by_cases hlt : ri < a.length
  ·have hli : (ri : Int) < (a.length : Int) := by omega
   obtain ⟨x, hx⟩ : ∃ x, a[ri]? = some x := ⟨_, List.getElem?_eq_getElem hlt⟩
   have hgw2 := hrt.1.lt.2
   obtain ⟨u0, hu0⟩ := ownN_slot hrt.1 hrt.2.1.symm rfl hlt
   have hfr0 := hrt.1.free hrt.2.1.symm ri
   by_cases hi0 : ri = 0
   ·subst hi0
    try rw [show (((0 : Nat)) : Int) = (0 : Int) from rfl]
    have hli0 : (0 : Int) < (a.length : Int) := by omega
    go_upto_region 6 with (at_make; refine wpList_make_full _ rfl _ _ 139 rfl w2.heap.size 2 k0 _ 1 Tryz.underlying139 ki kz0 kz1 _ _ _ _ b.length rfl rfl rfl rfl (by rw [kz2]; omega) (by unfold maxLen; omega) (Nat.le_refl _) ?_; intro w3 hrow hgr; have hb3 : Below w2.heap.size w2 w3 := (Below.refl _ _).grown hgr (Nat.le_refl _) (by simp); have hu3 := cell_later hb3 hu0; have hf3 := (hrt.1.below hb3).free hrt.2.1.symm 0)
    have hrow := Own.made (E := eI) (z := (0 : Int)) hrow rfl
    obtain ⟨q, hq⟩ : ∃ q, q = w2.heap.size := ⟨_, rfl⟩
    have hput := RowsT.put (q := q) hrt hb3 hlt
    have hlo : ∀ x p c, x < 0 → (vs.set 0 ⟨some ⟨q, 0, none⟩, b.length, b.length⟩)[x]? = some ⟨some ⟨p, 0, none⟩, b.length, c⟩ → p < q := fun x p c hx2 hv => by
     rw [List.getElem?_set_ne (by omega)] at hv
     obtain ⟨p', c', e1, _, e2, _⟩ := hrt.2.2 x hx2
     rw [hv] at e1
     have e3 := Option.some.inj e1
     simp only [SV.mk.injEq, Option.some.injEq, Addr.mk.injEq, and_true] at e3
     rw [hq, e3.1]
     exact e2
    have hvi : (vs.set 0 ⟨some ⟨q, 0, none⟩, b.length, b.length⟩)[0]? = some ⟨some ⟨q, 0, none⟩, b.length, b.length⟩ := List.getElem?_set_self (by rw [hrt.2.1]; exact hlt)
    rw [← hq] at hrow ⊢
    obtain ⟨w4, hw4⟩ : ∃ u, u = w3.setCell ⟨g, 0, none⟩ (.slice (some ⟨q, 0, none⟩) b.length b.length) := ⟨_, rfl⟩
    rw [← hw4] at hput ⊢
    have hgq : g < q := by rw [hq]; exact hgw2
    have hrow4 : Own eI 2 q w4 (.slice (some ⟨q, 0, none⟩) b.length b.length) (List.replicate b.length 0) := by rw [hw4]; exact hrow.setBelow (a := ⟨g, 0, none⟩) hgq _
    have hbl4 : Below g w w4 := (hbl.trans (hb3.mono (Nat.le_of_lt hgw2))).grown (by rw [hw4]; exact (RowsT.put (q := q) hrt hb3 hlt).2) (by have := hb3.size; omega) (fun kk hh => by cases hh; exact Nat.le_refl _)
    obtain ⟨vs2, hvs2⟩ : ∃ v, v = vs.set 0 ⟨some ⟨q, 0, none⟩, b.length, b.length⟩ := ⟨_, rfl⟩
    rw [← hvs2] at hput hlo hvi
    have hrt4 := hput.1
    have hgw4 := hrt4.1.lt.2
    have HLO := hid hlo
    have HVI := hid hvi
    clear hw4 hq hput hlo hvi hvs2 hrow hgr hb3 hu0 hfr0 hu3 hf3
    go_upto_region 7 with fail
    go_loopw [27] (fun jv wr => ∃ (j : Nat) (ys : List Int), j ≤ b.length ∧ jv = .int .i64 j ∧ Own eI 2 q wr (.slice (some ⟨q, 0, none⟩) b.length b.length) ys ∧ ys.length = b.length ∧ (∀ y, y < j → ys[y]? = some (T 0 y)) ∧ Below q w4 wr) (fun jv _ => b.length - (intOf jv).toNat)
    case atStart => exact ⟨0, _, Nat.zero_le _, rfl, hrow4, by simp, fun y hy => by omega, Below.refl _ _⟩
    case round =>
     clear hrow4
     obtain ⟨w5, rfl⟩ : ∃ u, u = wr := ⟨wr, rfl⟩
     obtain ⟨j, ys, hjl, rfl, hown, hyl, hpt, hb5⟩ := hrel
     by_cases hjt : j < b.length
     ·have hji : (j : Int) < (b.length : Int) := by omega
      obtain ⟨y, hy⟩ : ∃ y, b[j]? = some y := ⟨_, List.getElem?_eq_getElem hjt⟩
      have hbl5 : Below g w w5 := hbl4.trans (hb5.mono (Nat.le_of_lt hgq))
      obtain ⟨x0, x1, x2⟩ := eFeat_cells (hca.below hbl5 hga) hx
      obtain ⟨y0, y1, y2⟩ := eFeat_cells (hcb.below hbl5 hgb) hy
      have okx := OKA.out x (List.mem_of_getElem? hx)
      have oky := OKB.out y (List.mem_of_getElem? hy)
      have CC := fun w' => featCost_any x y w' okx oky
      have hcst := costF_bd okx oky
      have hcf : cF a b 0 j = costF x y := cF_eq hx hy
      have hTe := HT.out 0 j
      obtain ⟨B, hB⟩ : ∃ B, B = befF 1099511627776 (cF a b) r 0 j := ⟨_, rfl⟩
      rw [← hB] at hTe
      have hBd : B ≤ 1099511627776 := by rw [hB]; unfold befF; split; omega; exact least3_le _ _ _ _
      have hBd0 : 0 ≤ B := by rw [hB]; exact befF_nonneg (by omega) (fun ri j => (cF_bd OKA.out OKB.out ri j).1) r _ _
      have hqw := hown.lt.2
      have rA : ∀ x y, x < 0 → y < b.length → RowAt w5 g b.length T x y := fun x y hx2 hy2 => by
       obtain ⟨p, c, a3, a4, a5, a6, a7, a8⟩ := hrt4.2.2 x hx2
       have hpq := HLO.out x p c hx2 a3
       exact ⟨p, c, below_cell hb5 hgq (ownS_get hrt4.1 a3), a6, a7, below_cell hb5 hpq (a8 y hy2)⟩
      have rowc := below_cell hb5 hgq (ownS_get hrt4.1 HVI.out)
      have rB : ∀ y, y < j → RowAt w5 g b.length T 0 y := fun y hy2 => ⟨q, b.length, rowc, Nat.le_refl _, by unfold maxLen; omega, ownE_get hown (hpt y hy2)⟩
      have CL := leastBefore_any g a.length b.length a.length T 0 j w5 hlt hjt a2 b2 (Nat.le_refl _) (by unfold maxLen; omega) (fun e1 e2 => rA _ _ (by omega) (by omega)) (fun e1 => rA _ _ (by omega) hjt) (fun e1 => rB _ (by omega))
      have hnx : ∀ z, z < j + 1 → (ys.set j (T 0 j))[z]? = some (T 0 z) := fun z hz => by
       by_cases e : z = j
       ·subst e; rw [List.getElem?_set_self (by rw [hyl]; exact hjt)]
       ·rw [List.getElem?_set_ne (by omega)]; exact hpt z (by omega)
      obtain ⟨D, hD⟩ : ∃ D, D = absI (((0 : Nat) : Int) - (j : Int)) := ⟨_, rfl⟩
      have CSz : ∀ n w', n = ((0 : Nat) : Int) - (j : Int) → Calls Tryz.prog 156 #[.int .i64 n] w' fun e w'' => e = .returned (.int .i64 D) ∧ w' = w'' := fun n w' hn => by have := implAbs_any n w' (by omega) (by omega); rw [hD, ← hn]; exact this
      have HD := hid (@inBd_abs r 0 j)
      rw [← hD] at HD
      obtain ⟨V, hVd⟩ : ∃ V, V = cF a b 0 j := ⟨_, rfl⟩
      have HY := hid hyl
      have HNX := hid hnx
      have HTE := hid hTe
      have HCF := hid hcf
      have HO := hid hown
      have hLB : ¬ j = 0 → least3 T 1099511627776 0 j = B := fun h => by rw [hB]; unfold befF; rw [if_neg (by omega), ← HTT.out]
      clear hD hnx hTe hcf hpt hyl hown rA rB hx hy
      go_wp2_with fail
      refine CL.mono ?_
      rintro e w6 ⟨rfl, hb6⟩
      have rowc := cell_later hb6 rowc
      have x0 := cell_later hb6 x0
      have x1 := cell_later hb6 x1
      have x2 := cell_later hb6 x2
      have y0 := cell_later hb6 y0
      have y1 := cell_later hb6 y1
      have y2 := cell_later hb6 y2
      have hb56 := hb5.trans (hb6.mono (Nat.le_of_lt hqw))
      have hown6 := HO.out.below hb6
      have hq6 := hown6.lt.2
      obtain ⟨c0, hc0⟩ := ownN_slot hown6 HY.out.symm rfl hjt
      have hfr := hown6.free HY.out.symm j
      have HO := hid hown6
      clear CL hown6
      by_cases hj0 : j = 0
      ·subst hj0
       obtain rfl : B = 0 := by rw [hB]; rfl
       clear hLB hB
       go_upto_region 12 with fail
       by_cases hrd : (r : Int) < D
       ·have HV := hid (show T 0 0 = 1099511627776 by rw [HTE.out]; exact if_pos (.inl (HD.out.1 hrd)))
        go_wp2_with fail
        refine (CSz _ _ (by omega)).mono ?_
        rintro e w' ⟨rfl, rfl⟩
        go_wp2_with fail
        go_roundw
        case rel =>
         have h1 := ownE_set HO.out HY.out.symm hjt 1099511627776
         exact ⟨0 + 1, _, by omega, by go_num, h1.1, by rw [List.length_set]; exact HY.out, by rw [← HV.out]; exact HNX.out, hb56.grown h1.2 (Nat.le_of_lt hq6) (fun kk hh => by cases hh; exact Nat.le_refl _)⟩
        case measure => simp [intOf]; omega
       have hf : ¬ ((1099511627776 : Int) ≤ 0) := by omega
       have hVa : T 0 0 = 0 + V := by rw [HTE.out, hVd]; exact if_neg (fun h => h.elim (fun h => hrd (HD.out.2 h)) (fun h => by omega))
       have HV := hid (show T 0 0 = V by omega)
       have hVx : V = costF x y := by rw [hVd]; exact HCF.out
       rw [← hVx] at CC hcst
       clear hVx hVd hVa
       have wr1 : IntKind.i64.wrap V = V := IntWalk.i64_in _ (by omega)
       simp only [Nat.zero_mul, Nat.add_zero] at x0 x1 x2
       simp only [Nat.zero_mul, Nat.add_zero] at y0 y1 y2
       go_wp2_with fail
       refine (CSz _ _ (by omega)).mono ?_
       rintro e w' ⟨rfl, rfl⟩
       go_upto_region 14 with fail
       refine wp_region_stg 15 17 (fun c w' => match c with | 0 => Below w6.heap.size w6 w' | 1 => Below w6.heap.size w6 w' | _ => Own eI 2 q w' (.slice (some ⟨q, 0, none⟩) b.length b.length) (ys.set 0 V) ∧ Below q w4 w') (fun c i v w' => match i with
             | 0 => v = .slice (some ⟨g, 0, none⟩) a.length a.length
             | 1 => v = .int .i64 0
             | 2 => v = .pointer (some ⟨g, 0, none⟩)
             | 3 => v = .slice (some ⟨q, 0, none⟩) b.length b.length
             | 4 => v = .int .i64 0
             | 5 => v = .int .i64 0
             | 6 => v = .slice (some ⟨ga, offa, none⟩) a.length ca
             | 7 => v = .int .i64 0
             | 8 => v = .pointer (some ⟨ga, offa, none⟩)
             | 9 => v = .agg #[.int .i64 x.x, .int .i64 x.y, .int .i64 x.d]
             | 10 => v = .slice (some ⟨gb, offb, none⟩) b.length cb
             | 11 => v = .int .i64 0
             | 12 => v = .pointer (some ⟨gb, offb, none⟩)
             | 13 => v = .agg #[.int .i64 y.x, .int .i64 y.y, .int .i64 y.d]
             | 14 => v = .int .i64 V
             | 15 => (match c with | 0 => True | 1 => v = .int .i64 V | _ => v = .int .i64 V)
             | 16 => v = .pointer (some ⟨q, 0, none⟩)
             | 17 => (match c with | 0 => True | 1 => True | _ => True)
             | _ => True) (by kernel_rfl) (by kernel_rfl) (by kernel_rfl) (by kernel_rfl) (by kernel_rfl) ?_ ?_ ?_ ?_ ?_ ?_ (by decide) ?_
       ·exact (Below.refl _ w6).drew
       ·intro c w w' h hb
        match c, h with
        | 0, h => exact Below.trans (B := w6.heap.size) h (hb.mono (Below.size h))
        | 1, h => exact Below.trans (B := w6.heap.size) h (hb.mono (Below.size h))
        | (k + 2), h => exact ⟨h.1.below hb, h.2.trans (hb.mono (Nat.le_of_lt h.1.lt.2))⟩
       ·intro c i v w w' h hb
        match i, h with
        | 0, h => exact h
        | 1, h => exact h
        | 2, h => exact h
        | 3, h => exact h
        | 4, h => exact h
        | 5, h => exact h
        | 6, h => exact h
        | 7, h => exact h
        | 8, h => exact h
        | 9, h => exact h
        | 10, h => exact h
        | 11, h => exact h
        | 12, h => exact h
        | 13, h => exact h
        | 14, h => exact h
        | 15, h =>
         match c, h with
         | 0, h => exact trivial
         | 1, h => exact h
         | (k + 2), h => exact h
        | 16, h => exact h
        | 17, h =>
         match c, h with
         | 0, h => exact trivial
         | 1, h => exact trivial
         | (k + 2), h => exact trivial
        | (k + 18), h => exact h
       ·refine ⟨?_, ?_, ?_, ?_, ?_, ?_, ?_, ?_, ?_, ?_, ?_, ?_, ?_, ?_, ?_, ?_, ?_, ?_, trivial⟩
        ·refine .inr (.inr ⟨fun _ => ?_, fun _ => ?_, can_no (by kernel_rfl)⟩)
         ·intro ρ w' hbw ht hcs hfn hgl hdep G hG
          replace hbw : Below w6.heap.size w6 w' := hbw
          refine ⟨fun _ => ?_, fun h => by cases h⟩
          have s7 : ρ (.tmp 7) = .slice (some ⟨g, 0, none⟩) a.length a.length := ht 7 rfl
          clear ht hdep hgl
          go_simp
          exact hG _ _ (Below.refl _ _) rfl
         ·intro ρ w' hbw ht hcs hfn hgl hdep G hG
          replace hbw : Below w6.heap.size w6 w' := hbw
          refine ⟨fun _ => ?_, fun h => by cases h⟩
          have s7 : ρ (.tmp 7) = .slice (some ⟨g, 0, none⟩) a.length a.length := ht 7 rfl
          clear ht hdep hgl
          go_simp
          exact hG _ _ (Below.refl _ _) rfl
        ·refine .inr (.inr ⟨fun _ => ?_, fun _ => ?_, can_no (by kernel_rfl)⟩)
         ·intro ρ w' hbw ht hcs hfn hgl hdep G hG
          replace hbw : Below w6.heap.size w6 w' := hbw
          refine ⟨fun _ => ?_, fun h => by cases h⟩
          have s8 : ρ (.tmp 8) = .int .i64 0 := ht 8 rfl
          clear ht hdep hgl
          go_simp
          exact hG _ _ (Below.refl _ _) rfl
         ·intro ρ w' hbw ht hcs hfn hgl hdep G hG
          replace hbw : Below w6.heap.size w6 w' := hbw
          refine ⟨fun _ => ?_, fun h => by cases h⟩
          have s8 : ρ (.tmp 8) = .int .i64 0 := ht 8 rfl
          clear ht hdep hgl
          go_simp
          exact hG _ _ (Below.refl _ _) rfl
        ·refine .inr (.inr ⟨fun _ => ?_, fun _ => ?_, can_no (by kernel_rfl)⟩)
         ·intro ρ w' hbw ht hcs hfn hgl hdep G hG
          replace hbw : Below w6.heap.size w6 w' := hbw
          refine ⟨fun _ => ?_, fun h => by cases h⟩
          have s56 : ρ (.tmp 56) = .slice (some ⟨g, 0, none⟩) a.length a.length := hdep ⟨0, .data⟩ (by simp) rfl 56 rfl
          have s57 : ρ (.tmp 57) = .int .i64 0 := hdep ⟨1, .data⟩ (by simp) rfl 57 rfl
          clear ht hdep hgl
          go_simp
          exact hG _ _ (Below.refl _ _) rfl
         ·intro ρ w' hbw ht hcs hfn hgl hdep G hG
          replace hbw : Below w6.heap.size w6 w' := hbw
          refine ⟨fun _ => ?_, fun h => by cases h⟩
          have s56 : ρ (.tmp 56) = .slice (some ⟨g, 0, none⟩) a.length a.length := hdep ⟨0, .data⟩ (by simp) rfl 56 rfl
          have s57 : ρ (.tmp 57) = .int .i64 0 := hdep ⟨1, .data⟩ (by simp) rfl 57 rfl
          clear ht hdep hgl
          go_simp
          exact hG _ _ (Below.refl _ _) rfl
        ·refine .inr (.inr ⟨fun _ => ?_, fun _ => ?_, can_no (by kernel_rfl)⟩)
         ·intro ρ w' hbw ht hcs hfn hgl hdep G hG
          replace hbw : Below w6.heap.size w6 w' := hbw
          refine ⟨fun _ => ?_, fun h => by cases h⟩
          have s58 : ρ (.tmp 58) = .pointer (some ⟨g, 0, none⟩) := hdep ⟨2, .data⟩ (by simp) rfl 58 rfl
          have x0 := cell_later hbw x0
          have x1 := cell_later hbw x1
          have x2 := cell_later hbw x2
          have y0 := cell_later hbw y0
          have y1 := cell_later hbw y1
          have y2 := cell_later hbw y2
          have rowc := cell_later hbw rowc
          clear ht hdep hgl
          go_simp
          exact hG _ _ (Below.refl _ _) rfl
         ·intro ρ w' hbw ht hcs hfn hgl hdep G hG
          replace hbw : Below w6.heap.size w6 w' := hbw
          refine ⟨fun _ => ?_, fun h => by cases h⟩
          have s58 : ρ (.tmp 58) = .pointer (some ⟨g, 0, none⟩) := hdep ⟨2, .data⟩ (by simp) rfl 58 rfl
          have x0 := cell_later hbw x0
          have x1 := cell_later hbw x1
          have x2 := cell_later hbw x2
          have y0 := cell_later hbw y0
          have y1 := cell_later hbw y1
          have y2 := cell_later hbw y2
          have rowc := cell_later hbw rowc
          clear ht hdep hgl
          go_simp
          exact hG _ _ (Below.refl _ _) rfl
        ·refine .inr (.inr ⟨fun _ => ?_, fun _ => ?_, can_no (by kernel_rfl)⟩)
         ·intro ρ w' hbw ht hcs hfn hgl hdep G hG
          replace hbw : Below w6.heap.size w6 w' := hbw
          refine ⟨fun _ => ?_, fun h => by cases h⟩
          have s9 : ρ (.tmp 9) = .int .i64 0 := ht 9 rfl
          clear ht hdep hgl
          go_simp
          exact hG _ _ (Below.refl _ _) rfl
         ·intro ρ w' hbw ht hcs hfn hgl hdep G hG
          replace hbw : Below w6.heap.size w6 w' := hbw
          refine ⟨fun _ => ?_, fun h => by cases h⟩
          have s9 : ρ (.tmp 9) = .int .i64 0 := ht 9 rfl
          clear ht hdep hgl
          go_simp
          exact hG _ _ (Below.refl _ _) rfl
        ·refine .inr (.inr ⟨fun _ => ?_, can_no (by kernel_rfl), can_no (by kernel_rfl)⟩)
         ·intro ρ w' hbw ht hcs hfn hgl hdep G hG
          replace hbw : Below w6.heap.size w6 w' := hbw
          refine ⟨fun _ => ?_, fun h => by cases h⟩
          have s10 : ρ (.tmp 10) = .int .i64 0 := ht 10 rfl
          clear ht hdep hgl
          go_simp
          exact hG _ _ (Below.refl _ _) rfl
        ·refine .inr (.inr ⟨fun _ => ?_, can_no (by kernel_rfl), can_no (by kernel_rfl)⟩)
         ·intro ρ w' hbw ht hcs hfn hgl hdep G hG
          replace hbw : Below w6.heap.size w6 w' := hbw
          refine ⟨fun _ => ?_, fun h => by cases h⟩
          have s0 : ρ (.tmp 0) = .slice (some ⟨ga, offa, none⟩) a.length ca := ht 0 rfl
          clear ht hdep hgl
          go_simp
          exact hG _ _ (Below.refl _ _) rfl
        ·refine .inr (.inr ⟨fun _ => ?_, can_no (by kernel_rfl), can_no (by kernel_rfl)⟩)
         ·intro ρ w' hbw ht hcs hfn hgl hdep G hG
          replace hbw : Below w6.heap.size w6 w' := hbw
          refine ⟨fun _ => ?_, fun h => by cases h⟩
          have s8 : ρ (.tmp 8) = .int .i64 0 := ht 8 rfl
          clear ht hdep hgl
          go_simp
          exact hG _ _ (Below.refl _ _) rfl
        ·refine .inr (.inr ⟨fun _ => ?_, can_no (by kernel_rfl), can_no (by kernel_rfl)⟩)
         ·intro ρ w' hbw ht hcs hfn hgl hdep G hG
          replace hbw : Below w6.heap.size w6 w' := hbw
          refine ⟨fun _ => ?_, fun h => by cases h⟩
          have s62 : ρ (.tmp 62) = .slice (some ⟨ga, offa, none⟩) a.length ca := hdep ⟨6, .data⟩ (by simp) rfl 62 rfl
          have s63 : ρ (.tmp 63) = .int .i64 0 := hdep ⟨7, .data⟩ (by simp) rfl 63 rfl
          clear ht hdep hgl
          go_simp
          exact hG _ _ (Below.refl _ _) rfl
        ·refine .inr (.inr ⟨fun _ => ?_, can_no (by kernel_rfl), can_no (by kernel_rfl)⟩)
         ·intro ρ w' hbw ht hcs hfn hgl hdep G hG
          replace hbw : Below w6.heap.size w6 w' := hbw
          refine ⟨fun _ => ?_, fun h => by cases h⟩
          have s64 : ρ (.tmp 64) = .pointer (some ⟨ga, offa, none⟩) := hdep ⟨8, .data⟩ (by simp) rfl 64 rfl
          have x0 := cell_later hbw x0
          have x1 := cell_later hbw x1
          have x2 := cell_later hbw x2
          have y0 := cell_later hbw y0
          have y1 := cell_later hbw y1
          have y2 := cell_later hbw y2
          have rowc := cell_later hbw rowc
          clear ht hdep hgl
          go_simp
          exact hG _ _ (Below.refl _ _) rfl
        ·refine .inr (.inr ⟨fun _ => ?_, can_no (by kernel_rfl), can_no (by kernel_rfl)⟩)
         ·intro ρ w' hbw ht hcs hfn hgl hdep G hG
          replace hbw : Below w6.heap.size w6 w' := hbw
          refine ⟨fun _ => ?_, fun h => by cases h⟩
          have s1 : ρ (.tmp 1) = .slice (some ⟨gb, offb, none⟩) b.length cb := ht 1 rfl
          clear ht hdep hgl
          go_simp
          exact hG _ _ (Below.refl _ _) rfl
        ·refine .inr (.inr ⟨fun _ => ?_, can_no (by kernel_rfl), can_no (by kernel_rfl)⟩)
         ·intro ρ w' hbw ht hcs hfn hgl hdep G hG
          replace hbw : Below w6.heap.size w6 w' := hbw
          refine ⟨fun _ => ?_, fun h => by cases h⟩
          have s9 : ρ (.tmp 9) = .int .i64 0 := ht 9 rfl
          clear ht hdep hgl
          go_simp
          exact hG _ _ (Below.refl _ _) rfl
        ·refine .inr (.inr ⟨fun _ => ?_, can_no (by kernel_rfl), can_no (by kernel_rfl)⟩)
         ·intro ρ w' hbw ht hcs hfn hgl hdep G hG
          replace hbw : Below w6.heap.size w6 w' := hbw
          refine ⟨fun _ => ?_, fun h => by cases h⟩
          have s66 : ρ (.tmp 66) = .slice (some ⟨gb, offb, none⟩) b.length cb := hdep ⟨10, .data⟩ (by simp) rfl 66 rfl
          have s67 : ρ (.tmp 67) = .int .i64 0 := hdep ⟨11, .data⟩ (by simp) rfl 67 rfl
          clear ht hdep hgl
          go_simp
          exact hG _ _ (Below.refl _ _) rfl
        ·refine .inr (.inr ⟨fun _ => ?_, can_no (by kernel_rfl), can_no (by kernel_rfl)⟩)
         ·intro ρ w' hbw ht hcs hfn hgl hdep G hG
          replace hbw : Below w6.heap.size w6 w' := hbw
          refine ⟨fun _ => ?_, fun h => by cases h⟩
          have s68 : ρ (.tmp 68) = .pointer (some ⟨gb, offb, none⟩) := hdep ⟨12, .data⟩ (by simp) rfl 68 rfl
          have x0 := cell_later hbw x0
          have x1 := cell_later hbw x1
          have x2 := cell_later hbw x2
          have y0 := cell_later hbw y0
          have y1 := cell_later hbw y1
          have y2 := cell_later hbw y2
          have rowc := cell_later hbw rowc
          clear ht hdep hgl
          go_simp
          exact hG _ _ (Below.refl _ _) rfl
        ·refine .inr (.inr ⟨fun _ => ?_, can_no (by kernel_rfl), can_no (by kernel_rfl)⟩)
         ·intro ρ w' hbw ht hcs hfn hgl hdep G hG
          replace hbw : Below w6.heap.size w6 w' := hbw
          refine ⟨fun _ => ?_, fun h => by cases h⟩
          have s65 : ρ (.tmp 65) = .agg #[.int .i64 x.x, .int .i64 x.y, .int .i64 x.d] := hdep ⟨9, .data⟩ (by simp) rfl 65 rfl
          have s69 : ρ (.tmp 69) = .agg #[.int .i64 y.x, .int .i64 y.y, .int .i64 y.d] := hdep ⟨13, .data⟩ (by simp) rfl 69 rfl
          clear ht hdep hgl
          go_simp
          exact (CC w').mono fun e w'' ⟨he, hb⟩ => ⟨_, he, hG _ _ hb rfl⟩
        ·exact .inl rfl
        ·refine .inr (.inr ⟨fun _ => ?_, fun _ => ?_, can_no (by kernel_rfl)⟩)
         ·intro ρ w' hbw ht hcs hfn hgl hdep G hG
          replace hbw : Below w6.heap.size w6 w' := hbw
          refine ⟨fun _ => ?_, fun h => by cases h⟩
          have s59 : ρ (.tmp 59) = .slice (some ⟨q, 0, none⟩) b.length b.length := hdep ⟨3, .data⟩ (by simp) rfl 59 rfl
          have s60 : ρ (.tmp 60) = .int .i64 0 := hdep ⟨4, .data⟩ (by simp) rfl 60 rfl
          clear ht hdep hgl
          go_simp
          exact hG _ _ (Below.refl _ _) rfl
         ·intro ρ w' hbw ht hcs hfn hgl hdep G hG
          replace hbw : Below w6.heap.size w6 w' := hbw
          refine ⟨fun _ => ?_, fun h => by cases h⟩
          have s59 : ρ (.tmp 59) = .slice (some ⟨q, 0, none⟩) b.length b.length := hdep ⟨3, .data⟩ (by simp) rfl 59 rfl
          have s60 : ρ (.tmp 60) = .int .i64 0 := hdep ⟨4, .data⟩ (by simp) rfl 60 rfl
          clear ht hdep hgl
          go_simp
          exact hG _ _ (Below.refl _ _) rfl
        ·exact .inr (.inl rfl)
       ·intro o ho
        obtain rfl := Option.some.inj ho
        intro ρ w' hbw ht hcs hfn hgl hdep G hG
        replace hbw : Below w6.heap.size w6 w' := hbw
        refine ⟨fun _ => ?_, fun h => by cases h⟩
        have s61 : ρ (.tmp 61) = .int .i64 0 := hdep ⟨5, .data⟩ (by simp) rfl 61 rfl
        have s70 : ρ (.tmp 70) = .int .i64 V := hdep ⟨14, .data⟩ (by simp) rfl 70 rfl
        clear ht hdep hgl
        go_simp
        refine hG _ _ hbw rfl ?_
        intro j u hj hne h
        match j, h with
        | 0, h => exact h
        | 1, h => exact h
        | 2, h => exact h
        | 3, h => exact h
        | 4, h => exact h
        | 5, h => exact h
        | 6, h => exact h
        | 7, h => exact h
        | 8, h => exact h
        | 9, h => exact h
        | 10, h => exact h
        | 11, h => exact h
        | 12, h => exact h
        | 13, h => exact h
        | 14, h => exact h
        | 15, h => exact absurd rfl hne
        | 16, h => exact h
        | 17, h => exact trivial
        | (k + 18), h => exact h
       ·intro o ho
        obtain rfl := Option.some.inj ho
        intro ρ w' hbw ht hcs hfn hgl hdep G hG
        replace hbw : Below w6.heap.size w6 w' := hbw
        refine ⟨fun _ => ?_, fun h => by cases h⟩
        have s72 : ρ (.tmp 72) = .pointer (some ⟨q, 0, none⟩) := hdep ⟨16, .data⟩ (by simp) rfl 72 rfl
        have d71 := hdep ⟨15, .data⟩ (by simp) rfl 71 rfl
        clear ht hdep hgl
        replace d71 : ρ (.tmp 71) = .int .i64 V := d71
        have f0 := cell_later hbw hc0
        have ff := (HO.out.below hbw).free HY.out.symm 0
        have h1 := ownE_set (HO.out.below hbw) HY.out.symm (k := 0) hjt V
        have hx := hid (show Own eI 2 q (w'.setCell ⟨q, 0, none⟩ (.int .i64 V)) (.slice (some ⟨q, 0, none⟩) b.length b.length) (ys.set 0 V) ∧ Below q w4 (w'.setCell ⟨q, 0, none⟩ (.int .i64 V)) from ⟨h1.1, (hb56.trans (hbw.mono (Nat.le_of_lt hq6))).grown h1.2 (Nat.le_trans (Nat.le_of_lt hq6) hbw.size) (fun kk hh => by cases hh; exact Nat.le_refl _)⟩)
        clear h1
        go_simp
        refine hG _ _ hx.out trivial ?_
        intro j u hj hne h
        match j, h with
        | 0, h => exact h
        | 1, h => exact h
        | 2, h => exact h
        | 3, h => exact h
        | 4, h => exact h
        | 5, h => exact h
        | 6, h => exact h
        | 7, h => exact h
        | 8, h => exact h
        | 9, h => exact h
        | 10, h => exact h
        | 11, h => exact h
        | 12, h => exact h
        | 13, h => exact h
        | 14, h => exact h
        | 15, h => exact h
        | 16, h => exact h
        | 17, h => exact trivial
        | (k + 18), h => exact h
       intro xx w7 hF hx
       clear hx
       simp only [putAll, Act.put, List.setIfInBounds_toArray, List.set_cons_succ, List.set_cons_zero, Nat.zero_add, Nat.reduceAdd]
       generalize xx 15 = u16 at *
       obtain ⟨hFo, hFb⟩ := hF
       go_wp2_with fail
       go_roundw
       case rel => exact ⟨0 + 1, _, by omega, by go_num, hFo, by rw [List.length_set]; exact HY.out, by rw [← HV.out]; exact HNX.out, hFb⟩
       case measure => simp [intOf]; omega
      have ej : ((j : Int) == 0) = false := by rw [beq_eq_false_iff_ne]; omega
      have hBl := hLB hj0
      rw [hBl]
      clear hBl hLB hB hj0
      go_upto_region 12 with fail
      by_cases hrd : (r : Int) < D
      ·have HV := hid (show T 0 j = 1099511627776 by rw [HTE.out]; exact if_pos (.inl (HD.out.1 hrd)))
       go_wp2_with fail
       refine (CSz _ _ (by omega)).mono ?_
       rintro e w' ⟨rfl, rfl⟩
       go_wp2_with fail
       go_roundw
       case rel =>
        have h1 := ownE_set HO.out HY.out.symm hjt 1099511627776
        exact ⟨j + 1, _, by omega, by go_num, h1.1, by rw [List.length_set]; exact HY.out, by rw [← HV.out]; exact HNX.out, hb56.grown h1.2 (Nat.le_of_lt hq6) (fun kk hh => by cases hh; exact Nat.le_refl _)⟩
       case measure => simp [intOf]; omega
      by_cases hf : 1099511627776 ≤ B
      ·have HV := hid (show T 0 j = 1099511627776 by rw [HTE.out]; exact if_pos (.inr hf))
       go_wp2_with fail
       refine (CSz _ _ (by omega)).mono ?_
       rintro e w' ⟨rfl, rfl⟩
       go_wp2_with fail
       go_roundw
       case rel =>
        have h1 := ownE_set HO.out HY.out.symm hjt 1099511627776
        exact ⟨j + 1, _, by omega, by go_num, h1.1, by rw [List.length_set]; exact HY.out, by rw [← HV.out]; exact HNX.out, hb56.grown h1.2 (Nat.le_of_lt hq6) (fun kk hh => by cases hh; exact Nat.le_refl _)⟩
       case measure => simp [intOf]; omega
      have hVa : T 0 j = B + V := by rw [HTE.out, hVd]; exact if_neg (fun h => h.elim (fun h => hrd (HD.out.2 h)) (fun h => by omega))
      have HV := hid (show T 0 j = (B + V) by omega)
      have hVx : V = costF x y := by rw [hVd]; exact HCF.out
      rw [← hVx] at CC hcst
      clear hVx hVd hVa
      have wr1 : IntKind.i64.wrap (B + V) = (B + V) := IntWalk.i64_in _ (by omega)
      simp only [Nat.zero_mul, Nat.add_zero] at x0 x1 x2
      go_wp2_with fail
      refine (CSz _ _ (by omega)).mono ?_
      rintro e w' ⟨rfl, rfl⟩
      go_upto_region 14 with fail
      refine wp_region_stg 15 17 (fun c w' => match c with | 0 => Below w6.heap.size w6 w' | 1 => Below w6.heap.size w6 w' | _ => Own eI 2 q w' (.slice (some ⟨q, 0, none⟩) b.length b.length) (ys.set j (B + V)) ∧ Below q w4 w') (fun c i v w' => match i with
            | 0 => v = .slice (some ⟨g, 0, none⟩) a.length a.length
            | 1 => v = .int .i64 0
            | 2 => v = .pointer (some ⟨g, 0, none⟩)
            | 3 => v = .slice (some ⟨q, 0, none⟩) b.length b.length
            | 4 => v = .int .i64 j
            | 5 => v = .int .i64 B
            | 6 => v = .slice (some ⟨ga, offa, none⟩) a.length ca
            | 7 => v = .int .i64 0
            | 8 => v = .pointer (some ⟨ga, offa, none⟩)
            | 9 => v = .agg #[.int .i64 x.x, .int .i64 x.y, .int .i64 x.d]
            | 10 => v = .slice (some ⟨gb, offb, none⟩) b.length cb
            | 11 => v = .int .i64 j
            | 12 => v = .pointer (some ⟨gb, offb + j * 3, none⟩)
            | 13 => v = .agg #[.int .i64 y.x, .int .i64 y.y, .int .i64 y.d]
            | 14 => v = .int .i64 V
            | 15 => (match c with | 0 => True | 1 => v = .int .i64 (B + V) | _ => v = .int .i64 (B + V))
            | 16 => v = .pointer (some ⟨q, j, none⟩)
            | 17 => (match c with | 0 => True | 1 => True | _ => True)
            | _ => True) (by kernel_rfl) (by kernel_rfl) (by kernel_rfl) (by kernel_rfl) (by kernel_rfl) ?_ ?_ ?_ ?_ ?_ ?_ (by decide) ?_
      ·exact (Below.refl _ w6).drew
      ·intro c w w' h hb
       match c, h with
       | 0, h => exact Below.trans (B := w6.heap.size) h (hb.mono (Below.size h))
       | 1, h => exact Below.trans (B := w6.heap.size) h (hb.mono (Below.size h))
       | (k + 2), h => exact ⟨h.1.below hb, h.2.trans (hb.mono (Nat.le_of_lt h.1.lt.2))⟩
      ·intro c i v w w' h hb
       match i, h with
       | 0, h => exact h
       | 1, h => exact h
       | 2, h => exact h
       | 3, h => exact h
       | 4, h => exact h
       | 5, h => exact h
       | 6, h => exact h
       | 7, h => exact h
       | 8, h => exact h
       | 9, h => exact h
       | 10, h => exact h
       | 11, h => exact h
       | 12, h => exact h
       | 13, h => exact h
       | 14, h => exact h
       | 15, h =>
        match c, h with
        | 0, h => exact trivial
        | 1, h => exact h
        | (k + 2), h => exact h
       | 16, h => exact h
       | 17, h =>
        match c, h with
        | 0, h => exact trivial
        | 1, h => exact trivial
        | (k + 2), h => exact trivial
       | (k + 18), h => exact h
      ·refine ⟨?_, ?_, ?_, ?_, ?_, ?_, ?_, ?_, ?_, ?_, ?_, ?_, ?_, ?_, ?_, ?_, ?_, ?_, trivial⟩
       ·refine .inr (.inr ⟨fun _ => ?_, fun _ => ?_, can_no (by kernel_rfl)⟩)
        ·intro ρ w' hbw ht hcs hfn hgl hdep G hG
         replace hbw : Below w6.heap.size w6 w' := hbw
         refine ⟨fun _ => ?_, fun h => by cases h⟩
         have s7 : ρ (.tmp 7) = .slice (some ⟨g, 0, none⟩) a.length a.length := ht 7 rfl
         clear ht hdep hgl
         go_simp
         exact hG _ _ (Below.refl _ _) rfl
        ·intro ρ w' hbw ht hcs hfn hgl hdep G hG
         replace hbw : Below w6.heap.size w6 w' := hbw
         refine ⟨fun _ => ?_, fun h => by cases h⟩
         have s7 : ρ (.tmp 7) = .slice (some ⟨g, 0, none⟩) a.length a.length := ht 7 rfl
         clear ht hdep hgl
         go_simp
         exact hG _ _ (Below.refl _ _) rfl
       ·refine .inr (.inr ⟨fun _ => ?_, fun _ => ?_, can_no (by kernel_rfl)⟩)
        ·intro ρ w' hbw ht hcs hfn hgl hdep G hG
         replace hbw : Below w6.heap.size w6 w' := hbw
         refine ⟨fun _ => ?_, fun h => by cases h⟩
         have s8 : ρ (.tmp 8) = .int .i64 0 := ht 8 rfl
         clear ht hdep hgl
         go_simp
         exact hG _ _ (Below.refl _ _) rfl
        ·intro ρ w' hbw ht hcs hfn hgl hdep G hG
         replace hbw : Below w6.heap.size w6 w' := hbw
         refine ⟨fun _ => ?_, fun h => by cases h⟩
         have s8 : ρ (.tmp 8) = .int .i64 0 := ht 8 rfl
         clear ht hdep hgl
         go_simp
         exact hG _ _ (Below.refl _ _) rfl
       ·refine .inr (.inr ⟨fun _ => ?_, fun _ => ?_, can_no (by kernel_rfl)⟩)
        ·intro ρ w' hbw ht hcs hfn hgl hdep G hG
         replace hbw : Below w6.heap.size w6 w' := hbw
         refine ⟨fun _ => ?_, fun h => by cases h⟩
         have s56 : ρ (.tmp 56) = .slice (some ⟨g, 0, none⟩) a.length a.length := hdep ⟨0, .data⟩ (by simp) rfl 56 rfl
         have s57 : ρ (.tmp 57) = .int .i64 0 := hdep ⟨1, .data⟩ (by simp) rfl 57 rfl
         clear ht hdep hgl
         go_simp
         exact hG _ _ (Below.refl _ _) rfl
        ·intro ρ w' hbw ht hcs hfn hgl hdep G hG
         replace hbw : Below w6.heap.size w6 w' := hbw
         refine ⟨fun _ => ?_, fun h => by cases h⟩
         have s56 : ρ (.tmp 56) = .slice (some ⟨g, 0, none⟩) a.length a.length := hdep ⟨0, .data⟩ (by simp) rfl 56 rfl
         have s57 : ρ (.tmp 57) = .int .i64 0 := hdep ⟨1, .data⟩ (by simp) rfl 57 rfl
         clear ht hdep hgl
         go_simp
         exact hG _ _ (Below.refl _ _) rfl
       ·refine .inr (.inr ⟨fun _ => ?_, fun _ => ?_, can_no (by kernel_rfl)⟩)
        ·intro ρ w' hbw ht hcs hfn hgl hdep G hG
         replace hbw : Below w6.heap.size w6 w' := hbw
         refine ⟨fun _ => ?_, fun h => by cases h⟩
         have s58 : ρ (.tmp 58) = .pointer (some ⟨g, 0, none⟩) := hdep ⟨2, .data⟩ (by simp) rfl 58 rfl
         have x0 := cell_later hbw x0
         have x1 := cell_later hbw x1
         have x2 := cell_later hbw x2
         have y0 := cell_later hbw y0
         have y1 := cell_later hbw y1
         have y2 := cell_later hbw y2
         have rowc := cell_later hbw rowc
         clear ht hdep hgl
         go_simp
         exact hG _ _ (Below.refl _ _) rfl
        ·intro ρ w' hbw ht hcs hfn hgl hdep G hG
         replace hbw : Below w6.heap.size w6 w' := hbw
         refine ⟨fun _ => ?_, fun h => by cases h⟩
         have s58 : ρ (.tmp 58) = .pointer (some ⟨g, 0, none⟩) := hdep ⟨2, .data⟩ (by simp) rfl 58 rfl
         have x0 := cell_later hbw x0
         have x1 := cell_later hbw x1
         have x2 := cell_later hbw x2
         have y0 := cell_later hbw y0
         have y1 := cell_later hbw y1
         have y2 := cell_later hbw y2
         have rowc := cell_later hbw rowc
         clear ht hdep hgl
         go_simp
         exact hG _ _ (Below.refl _ _) rfl
       ·refine .inr (.inr ⟨fun _ => ?_, fun _ => ?_, can_no (by kernel_rfl)⟩)
        ·intro ρ w' hbw ht hcs hfn hgl hdep G hG
         replace hbw : Below w6.heap.size w6 w' := hbw
         refine ⟨fun _ => ?_, fun h => by cases h⟩
         have s9 : ρ (.tmp 9) = .int .i64 j := ht 9 rfl
         clear ht hdep hgl
         go_simp
         exact hG _ _ (Below.refl _ _) rfl
        ·intro ρ w' hbw ht hcs hfn hgl hdep G hG
         replace hbw : Below w6.heap.size w6 w' := hbw
         refine ⟨fun _ => ?_, fun h => by cases h⟩
         have s9 : ρ (.tmp 9) = .int .i64 j := ht 9 rfl
         clear ht hdep hgl
         go_simp
         exact hG _ _ (Below.refl _ _) rfl
       ·refine .inr (.inr ⟨fun _ => ?_, can_no (by kernel_rfl), can_no (by kernel_rfl)⟩)
        ·intro ρ w' hbw ht hcs hfn hgl hdep G hG
         replace hbw : Below w6.heap.size w6 w' := hbw
         refine ⟨fun _ => ?_, fun h => by cases h⟩
         have s10 : ρ (.tmp 10) = .int .i64 B := ht 10 rfl
         clear ht hdep hgl
         go_simp
         exact hG _ _ (Below.refl _ _) rfl
       ·refine .inr (.inr ⟨fun _ => ?_, can_no (by kernel_rfl), can_no (by kernel_rfl)⟩)
        ·intro ρ w' hbw ht hcs hfn hgl hdep G hG
         replace hbw : Below w6.heap.size w6 w' := hbw
         refine ⟨fun _ => ?_, fun h => by cases h⟩
         have s0 : ρ (.tmp 0) = .slice (some ⟨ga, offa, none⟩) a.length ca := ht 0 rfl
         clear ht hdep hgl
         go_simp
         exact hG _ _ (Below.refl _ _) rfl
       ·refine .inr (.inr ⟨fun _ => ?_, can_no (by kernel_rfl), can_no (by kernel_rfl)⟩)
        ·intro ρ w' hbw ht hcs hfn hgl hdep G hG
         replace hbw : Below w6.heap.size w6 w' := hbw
         refine ⟨fun _ => ?_, fun h => by cases h⟩
         have s8 : ρ (.tmp 8) = .int .i64 0 := ht 8 rfl
         clear ht hdep hgl
         go_simp
         exact hG _ _ (Below.refl _ _) rfl
       ·refine .inr (.inr ⟨fun _ => ?_, can_no (by kernel_rfl), can_no (by kernel_rfl)⟩)
        ·intro ρ w' hbw ht hcs hfn hgl hdep G hG
         replace hbw : Below w6.heap.size w6 w' := hbw
         refine ⟨fun _ => ?_, fun h => by cases h⟩
         have s62 : ρ (.tmp 62) = .slice (some ⟨ga, offa, none⟩) a.length ca := hdep ⟨6, .data⟩ (by simp) rfl 62 rfl
         have s63 : ρ (.tmp 63) = .int .i64 0 := hdep ⟨7, .data⟩ (by simp) rfl 63 rfl
         clear ht hdep hgl
         go_simp
         exact hG _ _ (Below.refl _ _) rfl
       ·refine .inr (.inr ⟨fun _ => ?_, can_no (by kernel_rfl), can_no (by kernel_rfl)⟩)
        ·intro ρ w' hbw ht hcs hfn hgl hdep G hG
         replace hbw : Below w6.heap.size w6 w' := hbw
         refine ⟨fun _ => ?_, fun h => by cases h⟩
         have s64 : ρ (.tmp 64) = .pointer (some ⟨ga, offa, none⟩) := hdep ⟨8, .data⟩ (by simp) rfl 64 rfl
         have x0 := cell_later hbw x0
         have x1 := cell_later hbw x1
         have x2 := cell_later hbw x2
         have y0 := cell_later hbw y0
         have y1 := cell_later hbw y1
         have y2 := cell_later hbw y2
         have rowc := cell_later hbw rowc
         clear ht hdep hgl
         go_simp
         exact hG _ _ (Below.refl _ _) rfl
       ·refine .inr (.inr ⟨fun _ => ?_, can_no (by kernel_rfl), can_no (by kernel_rfl)⟩)
        ·intro ρ w' hbw ht hcs hfn hgl hdep G hG
         replace hbw : Below w6.heap.size w6 w' := hbw
         refine ⟨fun _ => ?_, fun h => by cases h⟩
         have s1 : ρ (.tmp 1) = .slice (some ⟨gb, offb, none⟩) b.length cb := ht 1 rfl
         clear ht hdep hgl
         go_simp
         exact hG _ _ (Below.refl _ _) rfl
       ·refine .inr (.inr ⟨fun _ => ?_, can_no (by kernel_rfl), can_no (by kernel_rfl)⟩)
        ·intro ρ w' hbw ht hcs hfn hgl hdep G hG
         replace hbw : Below w6.heap.size w6 w' := hbw
         refine ⟨fun _ => ?_, fun h => by cases h⟩
         have s9 : ρ (.tmp 9) = .int .i64 j := ht 9 rfl
         clear ht hdep hgl
         go_simp
         exact hG _ _ (Below.refl _ _) rfl
       ·refine .inr (.inr ⟨fun _ => ?_, can_no (by kernel_rfl), can_no (by kernel_rfl)⟩)
        ·intro ρ w' hbw ht hcs hfn hgl hdep G hG
         replace hbw : Below w6.heap.size w6 w' := hbw
         refine ⟨fun _ => ?_, fun h => by cases h⟩
         have s66 : ρ (.tmp 66) = .slice (some ⟨gb, offb, none⟩) b.length cb := hdep ⟨10, .data⟩ (by simp) rfl 66 rfl
         have s67 : ρ (.tmp 67) = .int .i64 j := hdep ⟨11, .data⟩ (by simp) rfl 67 rfl
         clear ht hdep hgl
         go_simp
         exact hG _ _ (Below.refl _ _) rfl
       ·refine .inr (.inr ⟨fun _ => ?_, can_no (by kernel_rfl), can_no (by kernel_rfl)⟩)
        ·intro ρ w' hbw ht hcs hfn hgl hdep G hG
         replace hbw : Below w6.heap.size w6 w' := hbw
         refine ⟨fun _ => ?_, fun h => by cases h⟩
         have s68 : ρ (.tmp 68) = .pointer (some ⟨gb, offb + j * 3, none⟩) := hdep ⟨12, .data⟩ (by simp) rfl 68 rfl
         have x0 := cell_later hbw x0
         have x1 := cell_later hbw x1
         have x2 := cell_later hbw x2
         have y0 := cell_later hbw y0
         have y1 := cell_later hbw y1
         have y2 := cell_later hbw y2
         have rowc := cell_later hbw rowc
         clear ht hdep hgl
         go_simp
         exact hG _ _ (Below.refl _ _) rfl
       ·refine .inr (.inr ⟨fun _ => ?_, can_no (by kernel_rfl), can_no (by kernel_rfl)⟩)
        ·intro ρ w' hbw ht hcs hfn hgl hdep G hG
         replace hbw : Below w6.heap.size w6 w' := hbw
         refine ⟨fun _ => ?_, fun h => by cases h⟩
         have s65 : ρ (.tmp 65) = .agg #[.int .i64 x.x, .int .i64 x.y, .int .i64 x.d] := hdep ⟨9, .data⟩ (by simp) rfl 65 rfl
         have s69 : ρ (.tmp 69) = .agg #[.int .i64 y.x, .int .i64 y.y, .int .i64 y.d] := hdep ⟨13, .data⟩ (by simp) rfl 69 rfl
         clear ht hdep hgl
         go_simp
         exact (CC w').mono fun e w'' ⟨he, hb⟩ => ⟨_, he, hG _ _ hb rfl⟩
       ·exact .inl rfl
       ·refine .inr (.inr ⟨fun _ => ?_, fun _ => ?_, can_no (by kernel_rfl)⟩)
        ·intro ρ w' hbw ht hcs hfn hgl hdep G hG
         replace hbw : Below w6.heap.size w6 w' := hbw
         refine ⟨fun _ => ?_, fun h => by cases h⟩
         have s59 : ρ (.tmp 59) = .slice (some ⟨q, 0, none⟩) b.length b.length := hdep ⟨3, .data⟩ (by simp) rfl 59 rfl
         have s60 : ρ (.tmp 60) = .int .i64 j := hdep ⟨4, .data⟩ (by simp) rfl 60 rfl
         clear ht hdep hgl
         go_simp
         exact hG _ _ (Below.refl _ _) rfl
        ·intro ρ w' hbw ht hcs hfn hgl hdep G hG
         replace hbw : Below w6.heap.size w6 w' := hbw
         refine ⟨fun _ => ?_, fun h => by cases h⟩
         have s59 : ρ (.tmp 59) = .slice (some ⟨q, 0, none⟩) b.length b.length := hdep ⟨3, .data⟩ (by simp) rfl 59 rfl
         have s60 : ρ (.tmp 60) = .int .i64 j := hdep ⟨4, .data⟩ (by simp) rfl 60 rfl
         clear ht hdep hgl
         go_simp
         exact hG _ _ (Below.refl _ _) rfl
       ·exact .inr (.inl rfl)
      ·intro o ho
       obtain rfl := Option.some.inj ho
       intro ρ w' hbw ht hcs hfn hgl hdep G hG
       replace hbw : Below w6.heap.size w6 w' := hbw
       refine ⟨fun _ => ?_, fun h => by cases h⟩
       have s61 : ρ (.tmp 61) = .int .i64 B := hdep ⟨5, .data⟩ (by simp) rfl 61 rfl
       have s70 : ρ (.tmp 70) = .int .i64 V := hdep ⟨14, .data⟩ (by simp) rfl 70 rfl
       clear ht hdep hgl
       go_simp
       refine hG _ _ hbw rfl ?_
       intro j u hj hne h
       match j, h with
       | 0, h => exact h
       | 1, h => exact h
       | 2, h => exact h
       | 3, h => exact h
       | 4, h => exact h
       | 5, h => exact h
       | 6, h => exact h
       | 7, h => exact h
       | 8, h => exact h
       | 9, h => exact h
       | 10, h => exact h
       | 11, h => exact h
       | 12, h => exact h
       | 13, h => exact h
       | 14, h => exact h
       | 15, h => exact absurd rfl hne
       | 16, h => exact h
       | 17, h => exact trivial
       | (k + 18), h => exact h
      ·intro o ho
       obtain rfl := Option.some.inj ho
       intro ρ w' hbw ht hcs hfn hgl hdep G hG
       replace hbw : Below w6.heap.size w6 w' := hbw
       refine ⟨fun _ => ?_, fun h => by cases h⟩
       have s72 : ρ (.tmp 72) = .pointer (some ⟨q, j, none⟩) := hdep ⟨16, .data⟩ (by simp) rfl 72 rfl
       have d71 := hdep ⟨15, .data⟩ (by simp) rfl 71 rfl
       clear ht hdep hgl
       replace d71 : ρ (.tmp 71) = .int .i64 (B + V) := d71
       have f0 := cell_later hbw hc0
       have ff := (HO.out.below hbw).free HY.out.symm j
       have h1 := ownE_set (HO.out.below hbw) HY.out.symm (k := j) hjt (B + V)
       have hx := hid (show Own eI 2 q (w'.setCell ⟨q, j, none⟩ (.int .i64 (B + V))) (.slice (some ⟨q, 0, none⟩) b.length b.length) (ys.set j (B + V)) ∧ Below q w4 (w'.setCell ⟨q, j, none⟩ (.int .i64 (B + V))) from ⟨h1.1, (hb56.trans (hbw.mono (Nat.le_of_lt hq6))).grown h1.2 (Nat.le_trans (Nat.le_of_lt hq6) hbw.size) (fun kk hh => by cases hh; exact Nat.le_refl _)⟩)
       clear h1
       go_simp
       refine hG _ _ hx.out trivial ?_
       intro j u hj hne h
       match j, h with
       | 0, h => exact h
       | 1, h => exact h
       | 2, h => exact h
       | 3, h => exact h
       | 4, h => exact h
       | 5, h => exact h
       | 6, h => exact h
       | 7, h => exact h
       | 8, h => exact h
       | 9, h => exact h
       | 10, h => exact h
       | 11, h => exact h
       | 12, h => exact h
       | 13, h => exact h
       | 14, h => exact h
       | 15, h => exact h
       | 16, h => exact h
       | 17, h => exact trivial
       | (k + 18), h => exact h
      intro xx w7 hF hx
      clear hx
      simp only [putAll, Act.put, List.setIfInBounds_toArray, List.set_cons_succ, List.set_cons_zero, Nat.zero_add, Nat.reduceAdd]
      generalize xx 15 = u16 at *
      obtain ⟨hFo, hFb⟩ := hF
      go_wp2_with fail
      go_roundw
      case rel => exact ⟨j + 1, _, by omega, by go_num, hFo, by rw [List.length_set]; exact HY.out, by rw [← HV.out]; exact HNX.out, hFb⟩
      case measure => simp [intOf]; omega
     ·have hji : ¬ ((j : Int) < (b.length : Int)) := by omega
      obtain rfl : j = b.length := by omega
      have HR := hid (RowsT.next hrt4 HVI.out hb5 hgq HLO.out hown (by unfold maxLen; omega) hpt)
      have hbl5 : Below g w w5 := hbl4.trans (hb5.mono (Nat.le_of_lt hgq))
      clear hpt
      go_wp2_with fail
      go_roundw
      case rel => exact ⟨0 + 1, vs2, by omega, by go_num, HR.out, hbl5⟩
      case measure => simp [intOf]; omega
   ·have ei : ((ri : Int) == 0) = false := by rw [beq_eq_false_iff_ne]; omega
    go_upto_region 6 with (at_make; refine wpList_make_full _ rfl _ _ 139 rfl w2.heap.size 2 k0 _ 1 Tryz.underlying139 ki kz0 kz1 _ _ _ _ b.length rfl rfl rfl rfl (by rw [kz2]; omega) (by unfold maxLen; omega) (Nat.le_refl _) ?_; intro w3 hrow hgr; have hb3 : Below w2.heap.size w2 w3 := (Below.refl _ _).grown hgr (Nat.le_refl _) (by simp); have hu3 := cell_later hb3 hu0; have hf3 := (hrt.1.below hb3).free hrt.2.1.symm ri)
    have hrow := Own.made (E := eI) (z := (0 : Int)) hrow rfl
    obtain ⟨q, hq⟩ : ∃ q, q = w2.heap.size := ⟨_, rfl⟩
    have hput := RowsT.put (q := q) hrt hb3 hlt
    have hlo : ∀ x p c, x < ri → (vs.set ri ⟨some ⟨q, 0, none⟩, b.length, b.length⟩)[x]? = some ⟨some ⟨p, 0, none⟩, b.length, c⟩ → p < q := fun x p c hx2 hv => by
     rw [List.getElem?_set_ne (by omega)] at hv
     obtain ⟨p', c', e1, _, e2, _⟩ := hrt.2.2 x hx2
     rw [hv] at e1
     have e3 := Option.some.inj e1
     simp only [SV.mk.injEq, Option.some.injEq, Addr.mk.injEq, and_true] at e3
     rw [hq, e3.1]
     exact e2
    have hvi : (vs.set ri ⟨some ⟨q, 0, none⟩, b.length, b.length⟩)[ri]? = some ⟨some ⟨q, 0, none⟩, b.length, b.length⟩ := List.getElem?_set_self (by rw [hrt.2.1]; exact hlt)
    rw [← hq] at hrow ⊢
    obtain ⟨w4, hw4⟩ : ∃ u, u = w3.setCell ⟨g, ri, none⟩ (.slice (some ⟨q, 0, none⟩) b.length b.length) := ⟨_, rfl⟩
    rw [← hw4] at hput ⊢
    have hgq : g < q := by rw [hq]; exact hgw2
    have hrow4 : Own eI 2 q w4 (.slice (some ⟨q, 0, none⟩) b.length b.length) (List.replicate b.length 0) := by rw [hw4]; exact hrow.setBelow (a := ⟨g, ri, none⟩) hgq _
    have hbl4 : Below g w w4 := (hbl.trans (hb3.mono (Nat.le_of_lt hgw2))).grown (by rw [hw4]; exact (RowsT.put (q := q) hrt hb3 hlt).2) (by have := hb3.size; omega) (fun kk hh => by cases hh; exact Nat.le_refl _)
    obtain ⟨vs2, hvs2⟩ : ∃ v, v = vs.set ri ⟨some ⟨q, 0, none⟩, b.length, b.length⟩ := ⟨_, rfl⟩
    rw [← hvs2] at hput hlo hvi
    have hrt4 := hput.1
    have hgw4 := hrt4.1.lt.2
    have HLO := hid hlo
    have HVI := hid hvi
    clear hw4 hq hput hlo hvi hvs2 hrow hgr hb3 hu0 hfr0 hu3 hf3
    go_upto_region 7 with fail
    go_loopw [27] (fun jv wr => ∃ (j : Nat) (ys : List Int), j ≤ b.length ∧ jv = .int .i64 j ∧ Own eI 2 q wr (.slice (some ⟨q, 0, none⟩) b.length b.length) ys ∧ ys.length = b.length ∧ (∀ y, y < j → ys[y]? = some (T ri y)) ∧ Below q w4 wr) (fun jv _ => b.length - (intOf jv).toNat)
    case atStart => exact ⟨0, _, Nat.zero_le _, rfl, hrow4, by simp, fun y hy => by omega, Below.refl _ _⟩
    case round =>
     clear hrow4
     obtain ⟨w5, rfl⟩ : ∃ u, u = wr := ⟨wr, rfl⟩
     obtain ⟨j, ys, hjl, rfl, hown, hyl, hpt, hb5⟩ := hrel
     by_cases hjt : j < b.length
     ·have hji : (j : Int) < (b.length : Int) := by omega
      obtain ⟨y, hy⟩ : ∃ y, b[j]? = some y := ⟨_, List.getElem?_eq_getElem hjt⟩
      have hbl5 : Below g w w5 := hbl4.trans (hb5.mono (Nat.le_of_lt hgq))
      obtain ⟨x0, x1, x2⟩ := eFeat_cells (hca.below hbl5 hga) hx
      obtain ⟨y0, y1, y2⟩ := eFeat_cells (hcb.below hbl5 hgb) hy
      have okx := OKA.out x (List.mem_of_getElem? hx)
      have oky := OKB.out y (List.mem_of_getElem? hy)
      have CC := fun w' => featCost_any x y w' okx oky
      have hcst := costF_bd okx oky
      have hcf : cF a b ri j = costF x y := cF_eq hx hy
      have hTe := HT.out ri j
      obtain ⟨B, hB⟩ : ∃ B, B = befF 1099511627776 (cF a b) r ri j := ⟨_, rfl⟩
      rw [← hB] at hTe
      have hBd : B ≤ 1099511627776 := by rw [hB]; unfold befF; split; omega; exact least3_le _ _ _ _
      have hBd0 : 0 ≤ B := by rw [hB]; exact befF_nonneg (by omega) (fun ri j => (cF_bd OKA.out OKB.out ri j).1) r _ _
      have hqw := hown.lt.2
      have rA : ∀ x y, x < ri → y < b.length → RowAt w5 g b.length T x y := fun x y hx2 hy2 => by
       obtain ⟨p, c, a3, a4, a5, a6, a7, a8⟩ := hrt4.2.2 x hx2
       have hpq := HLO.out x p c hx2 a3
       exact ⟨p, c, below_cell hb5 hgq (ownS_get hrt4.1 a3), a6, a7, below_cell hb5 hpq (a8 y hy2)⟩
      have rowc := below_cell hb5 hgq (ownS_get hrt4.1 HVI.out)
      have rB : ∀ y, y < j → RowAt w5 g b.length T ri y := fun y hy2 => ⟨q, b.length, rowc, Nat.le_refl _, by unfold maxLen; omega, ownE_get hown (hpt y hy2)⟩
      have CL := leastBefore_any g a.length b.length a.length T ri j w5 hlt hjt a2 b2 (Nat.le_refl _) (by unfold maxLen; omega) (fun e1 e2 => rA _ _ (by omega) (by omega)) (fun e1 => rA _ _ (by omega) hjt) (fun e1 => rB _ (by omega))
      have hnx : ∀ z, z < j + 1 → (ys.set j (T ri j))[z]? = some (T ri z) := fun z hz => by
       by_cases e : z = j
       ·subst e; rw [List.getElem?_set_self (by rw [hyl]; exact hjt)]
       ·rw [List.getElem?_set_ne (by omega)]; exact hpt z (by omega)
      obtain ⟨D, hD⟩ : ∃ D, D = absI (((ri : Nat) : Int) - (j : Int)) := ⟨_, rfl⟩
      have CSz : ∀ n w', n = ((ri : Nat) : Int) - (j : Int) → Calls Tryz.prog 156 #[.int .i64 n] w' fun e w'' => e = .returned (.int .i64 D) ∧ w' = w'' := fun n w' hn => by have := implAbs_any n w' (by omega) (by omega); rw [hD, ← hn]; exact this
      have HD := hid (@inBd_abs r ri j)
      rw [← hD] at HD
      obtain ⟨V, hVd⟩ : ∃ V, V = cF a b ri j := ⟨_, rfl⟩
      have HY := hid hyl
      have HNX := hid hnx
      have HTE := hid hTe
      have HCF := hid hcf
      have HO := hid hown
      have hLB : least3 T 1099511627776 ri j = B := by rw [hB]; unfold befF; rw [if_neg (by omega), ← HTT.out]
      clear hD hnx hTe hcf hpt hyl hown rA rB hx hy
      go_wp2_with fail
      refine CL.mono ?_
      rintro e w6 ⟨rfl, hb6⟩
      have rowc := cell_later hb6 rowc
      have x0 := cell_later hb6 x0
      have x1 := cell_later hb6 x1
      have x2 := cell_later hb6 x2
      have y0 := cell_later hb6 y0
      have y1 := cell_later hb6 y1
      have y2 := cell_later hb6 y2
      have hb56 := hb5.trans (hb6.mono (Nat.le_of_lt hqw))
      have hown6 := HO.out.below hb6
      have hq6 := hown6.lt.2
      obtain ⟨c0, hc0⟩ := ownN_slot hown6 HY.out.symm rfl hjt
      have hfr := hown6.free HY.out.symm j
      have HO := hid hown6
      clear CL hown6
      have hBl := hLB
      rw [hBl]
      clear hBl hLB hB
      go_upto_region 12 with fail
      by_cases hrd : (r : Int) < D
      ·have HV := hid (show T ri j = 1099511627776 by rw [HTE.out]; exact if_pos (.inl (HD.out.1 hrd)))
       go_wp2_with fail
       refine (CSz _ _ (by omega)).mono ?_
       rintro e w' ⟨rfl, rfl⟩
       go_wp2_with fail
       go_roundw
       case rel =>
        have h1 := ownE_set HO.out HY.out.symm hjt 1099511627776
        exact ⟨j + 1, _, by omega, by go_num, h1.1, by rw [List.length_set]; exact HY.out, by rw [← HV.out]; exact HNX.out, hb56.grown h1.2 (Nat.le_of_lt hq6) (fun kk hh => by cases hh; exact Nat.le_refl _)⟩
       case measure => simp [intOf]; omega
      by_cases hf : 1099511627776 ≤ B
      ·have HV := hid (show T ri j = 1099511627776 by rw [HTE.out]; exact if_pos (.inr hf))
       go_wp2_with fail
       refine (CSz _ _ (by omega)).mono ?_
       rintro e w' ⟨rfl, rfl⟩
       go_wp2_with fail
       go_roundw
       case rel =>
        have h1 := ownE_set HO.out HY.out.symm hjt 1099511627776
        exact ⟨j + 1, _, by omega, by go_num, h1.1, by rw [List.length_set]; exact HY.out, by rw [← HV.out]; exact HNX.out, hb56.grown h1.2 (Nat.le_of_lt hq6) (fun kk hh => by cases hh; exact Nat.le_refl _)⟩
       case measure => simp [intOf]; omega
      have hVa : T ri j = B + V := by rw [HTE.out, hVd]; exact if_neg (fun h => h.elim (fun h => hrd (HD.out.2 h)) (fun h => by omega))
      have HV := hid (show T ri j = (B + V) by omega)
      have hVx : V = costF x y := by rw [hVd]; exact HCF.out
      rw [← hVx] at CC hcst
      clear hVx hVd hVa
      have wr1 : IntKind.i64.wrap (B + V) = (B + V) := IntWalk.i64_in _ (by omega)
      go_wp2_with fail
      refine (CSz _ _ (by omega)).mono ?_
      rintro e w' ⟨rfl, rfl⟩
      go_upto_region 14 with fail
      refine wp_region_stg 15 17 (fun c w' => match c with | 0 => Below w6.heap.size w6 w' | 1 => Below w6.heap.size w6 w' | _ => Own eI 2 q w' (.slice (some ⟨q, 0, none⟩) b.length b.length) (ys.set j (B + V)) ∧ Below q w4 w') (fun c i v w' => match i with
            | 0 => v = .slice (some ⟨g, 0, none⟩) a.length a.length
            | 1 => v = .int .i64 ri
            | 2 => v = .pointer (some ⟨g, ri, none⟩)
            | 3 => v = .slice (some ⟨q, 0, none⟩) b.length b.length
            | 4 => v = .int .i64 j
            | 5 => v = .int .i64 B
            | 6 => v = .slice (some ⟨ga, offa, none⟩) a.length ca
            | 7 => v = .int .i64 ri
            | 8 => v = .pointer (some ⟨ga, offa + ri * 3, none⟩)
            | 9 => v = .agg #[.int .i64 x.x, .int .i64 x.y, .int .i64 x.d]
            | 10 => v = .slice (some ⟨gb, offb, none⟩) b.length cb
            | 11 => v = .int .i64 j
            | 12 => v = .pointer (some ⟨gb, offb + j * 3, none⟩)
            | 13 => v = .agg #[.int .i64 y.x, .int .i64 y.y, .int .i64 y.d]
            | 14 => v = .int .i64 V
            | 15 => (match c with | 0 => True | 1 => v = .int .i64 (B + V) | _ => v = .int .i64 (B + V))
            | 16 => v = .pointer (some ⟨q, j, none⟩)
            | 17 => (match c with | 0 => True | 1 => True | _ => True)
            | _ => True) (by kernel_rfl) (by kernel_rfl) (by kernel_rfl) (by kernel_rfl) (by kernel_rfl) ?_ ?_ ?_ ?_ ?_ ?_ (by decide) ?_
      ·exact (Below.refl _ w6).drew
      ·intro c w w' h hb
       match c, h with
       | 0, h => exact Below.trans (B := w6.heap.size) h (hb.mono (Below.size h))
       | 1, h => exact Below.trans (B := w6.heap.size) h (hb.mono (Below.size h))
       | (k + 2), h => exact ⟨h.1.below hb, h.2.trans (hb.mono (Nat.le_of_lt h.1.lt.2))⟩
      ·intro c i v w w' h hb
       match i, h with
       | 0, h => exact h
       | 1, h => exact h
       | 2, h => exact h
       | 3, h => exact h
       | 4, h => exact h
       | 5, h => exact h
       | 6, h => exact h
       | 7, h => exact h
       | 8, h => exact h
       | 9, h => exact h
       | 10, h => exact h
       | 11, h => exact h
       | 12, h => exact h
       | 13, h => exact h
       | 14, h => exact h
       | 15, h =>
        match c, h with
        | 0, h => exact trivial
        | 1, h => exact h
        | (k + 2), h => exact h
       | 16, h => exact h
       | 17, h =>
        match c, h with
        | 0, h => exact trivial
        | 1, h => exact trivial
        | (k + 2), h => exact trivial
       | (k + 18), h => exact h
      ·refine ⟨?_, ?_, ?_, ?_, ?_, ?_, ?_, ?_, ?_, ?_, ?_, ?_, ?_, ?_, ?_, ?_, ?_, ?_, trivial⟩
       ·refine .inr (.inr ⟨fun _ => ?_, fun _ => ?_, can_no (by kernel_rfl)⟩)
        ·intro ρ w' hbw ht hcs hfn hgl hdep G hG
         replace hbw : Below w6.heap.size w6 w' := hbw
         refine ⟨fun _ => ?_, fun h => by cases h⟩
         have s7 : ρ (.tmp 7) = .slice (some ⟨g, 0, none⟩) a.length a.length := ht 7 rfl
         clear ht hdep hgl
         go_simp
         exact hG _ _ (Below.refl _ _) rfl
        ·intro ρ w' hbw ht hcs hfn hgl hdep G hG
         replace hbw : Below w6.heap.size w6 w' := hbw
         refine ⟨fun _ => ?_, fun h => by cases h⟩
         have s7 : ρ (.tmp 7) = .slice (some ⟨g, 0, none⟩) a.length a.length := ht 7 rfl
         clear ht hdep hgl
         go_simp
         exact hG _ _ (Below.refl _ _) rfl
       ·refine .inr (.inr ⟨fun _ => ?_, fun _ => ?_, can_no (by kernel_rfl)⟩)
        ·intro ρ w' hbw ht hcs hfn hgl hdep G hG
         replace hbw : Below w6.heap.size w6 w' := hbw
         refine ⟨fun _ => ?_, fun h => by cases h⟩
         have s8 : ρ (.tmp 8) = .int .i64 ri := ht 8 rfl
         clear ht hdep hgl
         go_simp
         exact hG _ _ (Below.refl _ _) rfl
        ·intro ρ w' hbw ht hcs hfn hgl hdep G hG
         replace hbw : Below w6.heap.size w6 w' := hbw
         refine ⟨fun _ => ?_, fun h => by cases h⟩
         have s8 : ρ (.tmp 8) = .int .i64 ri := ht 8 rfl
         clear ht hdep hgl
         go_simp
         exact hG _ _ (Below.refl _ _) rfl
       ·refine .inr (.inr ⟨fun _ => ?_, fun _ => ?_, can_no (by kernel_rfl)⟩)
        ·intro ρ w' hbw ht hcs hfn hgl hdep G hG
         replace hbw : Below w6.heap.size w6 w' := hbw
         refine ⟨fun _ => ?_, fun h => by cases h⟩
         have s56 : ρ (.tmp 56) = .slice (some ⟨g, 0, none⟩) a.length a.length := hdep ⟨0, .data⟩ (by simp) rfl 56 rfl
         have s57 : ρ (.tmp 57) = .int .i64 ri := hdep ⟨1, .data⟩ (by simp) rfl 57 rfl
         clear ht hdep hgl
         go_simp
         exact hG _ _ (Below.refl _ _) rfl
        ·intro ρ w' hbw ht hcs hfn hgl hdep G hG
         replace hbw : Below w6.heap.size w6 w' := hbw
         refine ⟨fun _ => ?_, fun h => by cases h⟩
         have s56 : ρ (.tmp 56) = .slice (some ⟨g, 0, none⟩) a.length a.length := hdep ⟨0, .data⟩ (by simp) rfl 56 rfl
         have s57 : ρ (.tmp 57) = .int .i64 ri := hdep ⟨1, .data⟩ (by simp) rfl 57 rfl
         clear ht hdep hgl
         go_simp
         exact hG _ _ (Below.refl _ _) rfl
       ·refine .inr (.inr ⟨fun _ => ?_, fun _ => ?_, can_no (by kernel_rfl)⟩)
        ·intro ρ w' hbw ht hcs hfn hgl hdep G hG
         replace hbw : Below w6.heap.size w6 w' := hbw
         refine ⟨fun _ => ?_, fun h => by cases h⟩
         have s58 : ρ (.tmp 58) = .pointer (some ⟨g, ri, none⟩) := hdep ⟨2, .data⟩ (by simp) rfl 58 rfl
         have x0 := cell_later hbw x0
         have x1 := cell_later hbw x1
         have x2 := cell_later hbw x2
         have y0 := cell_later hbw y0
         have y1 := cell_later hbw y1
         have y2 := cell_later hbw y2
         have rowc := cell_later hbw rowc
         clear ht hdep hgl
         go_simp
         exact hG _ _ (Below.refl _ _) rfl
        ·intro ρ w' hbw ht hcs hfn hgl hdep G hG
         replace hbw : Below w6.heap.size w6 w' := hbw
         refine ⟨fun _ => ?_, fun h => by cases h⟩
         have s58 : ρ (.tmp 58) = .pointer (some ⟨g, ri, none⟩) := hdep ⟨2, .data⟩ (by simp) rfl 58 rfl
         have x0 := cell_later hbw x0
         have x1 := cell_later hbw x1
         have x2 := cell_later hbw x2
         have y0 := cell_later hbw y0
         have y1 := cell_later hbw y1
         have y2 := cell_later hbw y2
         have rowc := cell_later hbw rowc
         clear ht hdep hgl
         go_simp
         exact hG _ _ (Below.refl _ _) rfl
       ·refine .inr (.inr ⟨fun _ => ?_, fun _ => ?_, can_no (by kernel_rfl)⟩)
        ·intro ρ w' hbw ht hcs hfn hgl hdep G hG
         replace hbw : Below w6.heap.size w6 w' := hbw
         refine ⟨fun _ => ?_, fun h => by cases h⟩
         have s9 : ρ (.tmp 9) = .int .i64 j := ht 9 rfl
         clear ht hdep hgl
         go_simp
         exact hG _ _ (Below.refl _ _) rfl
        ·intro ρ w' hbw ht hcs hfn hgl hdep G hG
         replace hbw : Below w6.heap.size w6 w' := hbw
         refine ⟨fun _ => ?_, fun h => by cases h⟩
         have s9 : ρ (.tmp 9) = .int .i64 j := ht 9 rfl
         clear ht hdep hgl
         go_simp
         exact hG _ _ (Below.refl _ _) rfl
       ·refine .inr (.inr ⟨fun _ => ?_, can_no (by kernel_rfl), can_no (by kernel_rfl)⟩)
        ·intro ρ w' hbw ht hcs hfn hgl hdep G hG
         replace hbw : Below w6.heap.size w6 w' := hbw
         refine ⟨fun _ => ?_, fun h => by cases h⟩
         have s10 : ρ (.tmp 10) = .int .i64 B := ht 10 rfl
         clear ht hdep hgl
         go_simp
         exact hG _ _ (Below.refl _ _) rfl
       ·refine .inr (.inr ⟨fun _ => ?_, can_no (by kernel_rfl), can_no (by kernel_rfl)⟩)
        ·intro ρ w' hbw ht hcs hfn hgl hdep G hG
         replace hbw : Below w6.heap.size w6 w' := hbw
         refine ⟨fun _ => ?_, fun h => by cases h⟩
         have s0 : ρ (.tmp 0) = .slice (some ⟨ga, offa, none⟩) a.length ca := ht 0 rfl
         clear ht hdep hgl
         go_simp
         exact hG _ _ (Below.refl _ _) rfl
       ·refine .inr (.inr ⟨fun _ => ?_, can_no (by kernel_rfl), can_no (by kernel_rfl)⟩)
        ·intro ρ w' hbw ht hcs hfn hgl hdep G hG
         replace hbw : Below w6.heap.size w6 w' := hbw
         refine ⟨fun _ => ?_, fun h => by cases h⟩
         have s8 : ρ (.tmp 8) = .int .i64 ri := ht 8 rfl
         clear ht hdep hgl
         go_simp
         exact hG _ _ (Below.refl _ _) rfl
       ·refine .inr (.inr ⟨fun _ => ?_, can_no (by kernel_rfl), can_no (by kernel_rfl)⟩)
        ·intro ρ w' hbw ht hcs hfn hgl hdep G hG
         replace hbw : Below w6.heap.size w6 w' := hbw
         refine ⟨fun _ => ?_, fun h => by cases h⟩
         have s62 : ρ (.tmp 62) = .slice (some ⟨ga, offa, none⟩) a.length ca := hdep ⟨6, .data⟩ (by simp) rfl 62 rfl
         have s63 : ρ (.tmp 63) = .int .i64 ri := hdep ⟨7, .data⟩ (by simp) rfl 63 rfl
         clear ht hdep hgl
         go_simp
         exact hG _ _ (Below.refl _ _) rfl
       ·refine .inr (.inr ⟨fun _ => ?_, can_no (by kernel_rfl), can_no (by kernel_rfl)⟩)
        ·intro ρ w' hbw ht hcs hfn hgl hdep G hG
         replace hbw : Below w6.heap.size w6 w' := hbw
         refine ⟨fun _ => ?_, fun h => by cases h⟩
         have s64 : ρ (.tmp 64) = .pointer (some ⟨ga, offa + ri * 3, none⟩) := hdep ⟨8, .data⟩ (by simp) rfl 64 rfl
         have x0 := cell_later hbw x0
         have x1 := cell_later hbw x1
         have x2 := cell_later hbw x2
         have y0 := cell_later hbw y0
         have y1 := cell_later hbw y1
         have y2 := cell_later hbw y2
         have rowc := cell_later hbw rowc
         clear ht hdep hgl
         go_simp
         exact hG _ _ (Below.refl _ _) rfl
       ·refine .inr (.inr ⟨fun _ => ?_, can_no (by kernel_rfl), can_no (by kernel_rfl)⟩)
        ·intro ρ w' hbw ht hcs hfn hgl hdep G hG
         replace hbw : Below w6.heap.size w6 w' := hbw
         refine ⟨fun _ => ?_, fun h => by cases h⟩
         have s1 : ρ (.tmp 1) = .slice (some ⟨gb, offb, none⟩) b.length cb := ht 1 rfl
         clear ht hdep hgl
         go_simp
         exact hG _ _ (Below.refl _ _) rfl
       ·refine .inr (.inr ⟨fun _ => ?_, can_no (by kernel_rfl), can_no (by kernel_rfl)⟩)
        ·intro ρ w' hbw ht hcs hfn hgl hdep G hG
         replace hbw : Below w6.heap.size w6 w' := hbw
         refine ⟨fun _ => ?_, fun h => by cases h⟩
         have s9 : ρ (.tmp 9) = .int .i64 j := ht 9 rfl
         clear ht hdep hgl
         go_simp
         exact hG _ _ (Below.refl _ _) rfl
       ·refine .inr (.inr ⟨fun _ => ?_, can_no (by kernel_rfl), can_no (by kernel_rfl)⟩)
        ·intro ρ w' hbw ht hcs hfn hgl hdep G hG
         replace hbw : Below w6.heap.size w6 w' := hbw
         refine ⟨fun _ => ?_, fun h => by cases h⟩
         have s66 : ρ (.tmp 66) = .slice (some ⟨gb, offb, none⟩) b.length cb := hdep ⟨10, .data⟩ (by simp) rfl 66 rfl
         have s67 : ρ (.tmp 67) = .int .i64 j := hdep ⟨11, .data⟩ (by simp) rfl 67 rfl
         clear ht hdep hgl
         go_simp
         exact hG _ _ (Below.refl _ _) rfl
       ·refine .inr (.inr ⟨fun _ => ?_, can_no (by kernel_rfl), can_no (by kernel_rfl)⟩)
        ·intro ρ w' hbw ht hcs hfn hgl hdep G hG
         replace hbw : Below w6.heap.size w6 w' := hbw
         refine ⟨fun _ => ?_, fun h => by cases h⟩
         have s68 : ρ (.tmp 68) = .pointer (some ⟨gb, offb + j * 3, none⟩) := hdep ⟨12, .data⟩ (by simp) rfl 68 rfl
         have x0 := cell_later hbw x0
         have x1 := cell_later hbw x1
         have x2 := cell_later hbw x2
         have y0 := cell_later hbw y0
         have y1 := cell_later hbw y1
         have y2 := cell_later hbw y2
         have rowc := cell_later hbw rowc
         clear ht hdep hgl
         go_simp
         exact hG _ _ (Below.refl _ _) rfl
       ·refine .inr (.inr ⟨fun _ => ?_, can_no (by kernel_rfl), can_no (by kernel_rfl)⟩)
        ·intro ρ w' hbw ht hcs hfn hgl hdep G hG
         replace hbw : Below w6.heap.size w6 w' := hbw
         refine ⟨fun _ => ?_, fun h => by cases h⟩
         have s65 : ρ (.tmp 65) = .agg #[.int .i64 x.x, .int .i64 x.y, .int .i64 x.d] := hdep ⟨9, .data⟩ (by simp) rfl 65 rfl
         have s69 : ρ (.tmp 69) = .agg #[.int .i64 y.x, .int .i64 y.y, .int .i64 y.d] := hdep ⟨13, .data⟩ (by simp) rfl 69 rfl
         clear ht hdep hgl
         go_simp
         exact (CC w').mono fun e w'' ⟨he, hb⟩ => ⟨_, he, hG _ _ hb rfl⟩
       ·exact .inl rfl
       ·refine .inr (.inr ⟨fun _ => ?_, fun _ => ?_, can_no (by kernel_rfl)⟩)
        ·intro ρ w' hbw ht hcs hfn hgl hdep G hG
         replace hbw : Below w6.heap.size w6 w' := hbw
         refine ⟨fun _ => ?_, fun h => by cases h⟩
         have s59 : ρ (.tmp 59) = .slice (some ⟨q, 0, none⟩) b.length b.length := hdep ⟨3, .data⟩ (by simp) rfl 59 rfl
         have s60 : ρ (.tmp 60) = .int .i64 j := hdep ⟨4, .data⟩ (by simp) rfl 60 rfl
         clear ht hdep hgl
         go_simp
         exact hG _ _ (Below.refl _ _) rfl
        ·intro ρ w' hbw ht hcs hfn hgl hdep G hG
         replace hbw : Below w6.heap.size w6 w' := hbw
         refine ⟨fun _ => ?_, fun h => by cases h⟩
         have s59 : ρ (.tmp 59) = .slice (some ⟨q, 0, none⟩) b.length b.length := hdep ⟨3, .data⟩ (by simp) rfl 59 rfl
         have s60 : ρ (.tmp 60) = .int .i64 j := hdep ⟨4, .data⟩ (by simp) rfl 60 rfl
         clear ht hdep hgl
         go_simp
         exact hG _ _ (Below.refl _ _) rfl
       ·exact .inr (.inl rfl)
      ·intro o ho
       obtain rfl := Option.some.inj ho
       intro ρ w' hbw ht hcs hfn hgl hdep G hG
       replace hbw : Below w6.heap.size w6 w' := hbw
       refine ⟨fun _ => ?_, fun h => by cases h⟩
       have s61 : ρ (.tmp 61) = .int .i64 B := hdep ⟨5, .data⟩ (by simp) rfl 61 rfl
       have s70 : ρ (.tmp 70) = .int .i64 V := hdep ⟨14, .data⟩ (by simp) rfl 70 rfl
       clear ht hdep hgl
       go_simp
       refine hG _ _ hbw rfl ?_
       intro j u hj hne h
       match j, h with
       | 0, h => exact h
       | 1, h => exact h
       | 2, h => exact h
       | 3, h => exact h
       | 4, h => exact h
       | 5, h => exact h
       | 6, h => exact h
       | 7, h => exact h
       | 8, h => exact h
       | 9, h => exact h
       | 10, h => exact h
       | 11, h => exact h
       | 12, h => exact h
       | 13, h => exact h
       | 14, h => exact h
       | 15, h => exact absurd rfl hne
       | 16, h => exact h
       | 17, h => exact trivial
       | (k + 18), h => exact h
      ·intro o ho
       obtain rfl := Option.some.inj ho
       intro ρ w' hbw ht hcs hfn hgl hdep G hG
       replace hbw : Below w6.heap.size w6 w' := hbw
       refine ⟨fun _ => ?_, fun h => by cases h⟩
       have s72 : ρ (.tmp 72) = .pointer (some ⟨q, j, none⟩) := hdep ⟨16, .data⟩ (by simp) rfl 72 rfl
       have d71 := hdep ⟨15, .data⟩ (by simp) rfl 71 rfl
       clear ht hdep hgl
       replace d71 : ρ (.tmp 71) = .int .i64 (B + V) := d71
       have f0 := cell_later hbw hc0
       have ff := (HO.out.below hbw).free HY.out.symm j
       have h1 := ownE_set (HO.out.below hbw) HY.out.symm (k := j) hjt (B + V)
       have hx := hid (show Own eI 2 q (w'.setCell ⟨q, j, none⟩ (.int .i64 (B + V))) (.slice (some ⟨q, 0, none⟩) b.length b.length) (ys.set j (B + V)) ∧ Below q w4 (w'.setCell ⟨q, j, none⟩ (.int .i64 (B + V))) from ⟨h1.1, (hb56.trans (hbw.mono (Nat.le_of_lt hq6))).grown h1.2 (Nat.le_trans (Nat.le_of_lt hq6) hbw.size) (fun kk hh => by cases hh; exact Nat.le_refl _)⟩)
       clear h1
       go_simp
       refine hG _ _ hx.out trivial ?_
       intro j u hj hne h
       match j, h with
       | 0, h => exact h
       | 1, h => exact h
       | 2, h => exact h
       | 3, h => exact h
       | 4, h => exact h
       | 5, h => exact h
       | 6, h => exact h
       | 7, h => exact h
       | 8, h => exact h
       | 9, h => exact h
       | 10, h => exact h
       | 11, h => exact h
       | 12, h => exact h
       | 13, h => exact h
       | 14, h => exact h
       | 15, h => exact h
       | 16, h => exact h
       | 17, h => exact trivial
       | (k + 18), h => exact h
      intro xx w7 hF hx
      clear hx
      simp only [putAll, Act.put, List.setIfInBounds_toArray, List.set_cons_succ, List.set_cons_zero, Nat.zero_add, Nat.reduceAdd]
      generalize xx 15 = u16 at *
      obtain ⟨hFo, hFb⟩ := hF
      go_wp2_with fail
      go_roundw
      case rel => exact ⟨j + 1, _, by omega, by go_num, hFo, by rw [List.length_set]; exact HY.out, by rw [← HV.out]; exact HNX.out, hFb⟩
      case measure => simp [intOf]; omega
     ·have hji : ¬ ((j : Int) < (b.length : Int)) := by omega
      obtain rfl : j = b.length := by omega
      have HR := hid (RowsT.next hrt4 HVI.out hb5 hgq HLO.out hown (by unfold maxLen; omega) hpt)
      have hbl5 : Below g w w5 := hbl4.trans (hb5.mono (Nat.le_of_lt hgq))
      clear hpt
      go_wp2_with fail
      go_roundw
      case rel => exact ⟨ri + 1, vs2, by omega, by go_num, HR.out, hbl5⟩
      case measure => simp [intOf]; omega
  ·have hli : ¬ ((ri : Int) < (a.length : Int)) := by omega
   obtain rfl : ri = a.length := by omega
   go_wp2_with fail
   go_ret
   exact ⟨g, vs, rfl, by rw [← HTT.out]; exact hrt, by rw [← Hg.out]; exact hbl⟩
set_option maxHeartbeats 1000000 in
theorem elastic_any (u v : Value) (a b : List DFeat) (r : Nat) (w : World) (ha : Arr eFeat w u a) (hb : Arr eFeat w v b) (oa : ∀ f ∈ a, okF f) (ob : ∀ f ∈ b, okF f) (a1 : 1 ≤ a.length) (a2 : a.length ≤ 72) (b1 : 1 ≤ b.length) (b2 : b.length ≤ 72) (hr : r ≤ 72) :
  Calls Tryz.prog 108 #[u, v, .int .i64 r] w (Ret (.int .i64 (elasF 1099511627776 a b r)) w) := by
 have CT := costTable_any u v a b r w ha hb oa ob a1 a2 b1 b2 hr
 obtain ⟨sa, sc, rfl⟩ := ha.isSlice
 obtain ⟨sb, sd, rfl⟩ := hb.isSlice
 have ek : ((a.length : Int) - 1).toNat = a.length - 1 := by omega
 have el1 : (0 : Int) ≤ (a.length : Int) - 1 := by omega
 have el2 : (a.length : Int) - 1 < (a.length : Int) := by omega
 have fk : ((b.length : Int) - 1).toNat = b.length - 1 := by omega
 have fl1 : (0 : Int) ≤ (b.length : Int) - 1 := by omega
 have fl2 : (b.length : Int) - 1 < (b.length : Int) := by omega
 go_enter Tryz.func108, Tryz.ntmps108
 go_wp2_with fail
 refine CT.mono ?_
 rintro e w2 ⟨g, vs, rfl, hrt, hb2⟩
 obtain ⟨p, c, r1, r2, r3, r4⟩ := hrt.at_ (x := a.length - 1) (y := b.length - 1) (by omega) (by omega)
 have HE := hid (show tabF 1099511627776 (cF a b) r (a.length - 1) (b.length - 1) = elasF 1099511627776 a b r from rfl)
 rw [HE.out] at r4
 clear hrt CT
 go_wp2_with fail
 go_ret
 exact ret_int rfl hb2
end Go.Proofs.YtlnoelbeaolikaaGreat
