/- The reference's merge of hypotheses: the call. -/
import Derived.Test.YtnanegdcoegahaaHySpec
import Derived.Test.YtnanegdcoegahaaMinMax
namespace Go.Proofs.Ytnanegdcoegahaa
open Go.RowKit Go.Sort
attribute [local go_sem ↓] Go.wp_at_zero Go.wp_at_succ

set_option maxHeartbeats 1000000 in
set_option maxRecDepth 100000 in
theorem l13First_any (v : Value) (L : List DHyp) (k : Nat) (w : World) (hL : Arr eHyp w v L) (hl : L.length ≤ 100) (hk : k ≤ 8) :
    Calls Try.prog 96 #[v, .int .i64 k] w (RetOwn eHyp 130 (L.take k) w) := by
  have hL0 := hL
  obtain ⟨b, off, ao, cap, rfl, hnc, hcm, hao, hc⟩ := hL
  unfold maxLen at hcm
  have hb0 : Below w.heap.size w (w.alloc (.cells #[] 130)) := below_alloc _ _
  cases ao with
  | none =>
    have hx : L = [] := by
      cases L with
      | nil => rfl
      | cons a t => have := (hao (by simp)).1; simp at this
    subst hx
    have hmin : min (k : Int) 0 = 0 := by omega
    simp only [List.length_nil]
    have hsrc : Arr eHyp (w.alloc (.cells #[] 130)) (.slice none 0 cap) [] := ⟨0, 0, none, cap, rfl, Nat.zero_le _, hL0.isSlice.elim fun _ _ => by unfold maxLen; omega, fun h => absurd h (by simp), fun j a ha => by simp at ha⟩
    go_enter Try.func96, Try.ntmps96
    go_wp2_with (first | (go_at_call 61; refine (l00Min_any _ _ _).mono ?_; rintro e w' ⟨rfl, rfl⟩; rw [hmin]) | (at_builtin; (refine wpList_appA rfl _ _ 78 rfl w.heap.size 130 _ 24 infHyp Try.underlying78 rfl _ [] rfl (Own.empty _ _ (Nat.le_refl _)) _ [] rfl hsrc (by unfold maxLen; simp) (by simp) (by simp) ?_; intro v' wA hoA hbA htA)))
    go_ret
    exact ⟨_, rfl, by simpa using hoA, hb0.trans hbA⟩
  | some ad =>
    have had : ∃ b' off', ad = ⟨b', off', none⟩ ∨ L = [] := by
      cases L with
      | nil => exact ⟨0, 0, .inr rfl⟩
      | cons a t => have := (hao (by simp)).1; cases this; exact ⟨b, off, .inl rfl⟩
    obtain ⟨q, hq⟩ : ∃ q : Nat, q = min k L.length := ⟨_, rfl⟩
    have hmin : min (k : Int) (L.length : Int) = (q : Int) := by omega
    have hqX : L.take k = L.take q := by
      rcases Nat.le_total k L.length with h | h
      · rw [hq, Nat.min_eq_left h]
      · rw [hq, Nat.min_eq_right h, List.take_of_length_le h, List.take_length]
    have hql : q ≤ L.length := by omega
    have hqc : (q : Int) ≤ (cap : Int) := by omega
    have hqt : (L.take q).length = q := by rw [List.length_take]; omega
    have hsrc : Arr eHyp (w.alloc (.cells #[] 130)) (.slice (some ad) q cap) (L.take q) := by
      refine (show Arr eHyp w (.slice (some ad) q cap) (L.take q) from ?_).alloc _
      refine ⟨b, off, some ad, cap, by rw [hqt], by omega, by unfold maxLen; omega, fun h => ?_, fun j a ha => ?_⟩
      · exact hao (by rw [hqt] at h; omega)
      · rw [List.getElem?_take] at ha
        split at ha
        · exact hc j a ha
        · cases ha
    have HQX := hid hqX
    have hq8 : q ≤ 100 := by omega
    clear hq hqX hc hao had hL0
    go_enter Try.func96, Try.ntmps96
    go_wp2_with (first | (go_at_call 61; refine (l00Min_any _ _ _).mono ?_; rintro e w' ⟨rfl, rfl⟩; rw [hmin]) | (at_builtin; (refine wpList_appA rfl _ _ 78 rfl w.heap.size 130 _ 24 infHyp Try.underlying78 rfl _ [] rfl (Own.empty _ _ (Nat.le_refl _)) _ (L.take q) rfl hsrc (by unfold maxLen; rw [hqt]; simp; omega) (by rw [hqt]; simp; omega) (by simp) ?_; intro v' wA hoA hbA htA)))
    go_ret
    exact ⟨_, rfl, by rw [HQX.out]; simpa using hoA, hb0.trans hbA⟩
set_option maxHeartbeats 4000000 in
set_option maxRecDepth 100000 in
theorem specMergeHyps_any (v1 : Value) (a : XHypS) (v2 : Value) (b : XHypS) (k : Int) (w : World) {lo1 hi1 lo2 hi2 : Nat} (h1 : rHypS.at_ lo1 hi1 w v1 a) (h2 : rHypS.at_ lo2 hi2 w v2 b) (ok1 : okHypS a) (ok2 : okHypS b) (g1 : goodHypS a) (g2 : goodHypS b) :
    Calls Try.prog 42 #[v1, v2, .int .i64 k] w (RetNew rHypS (mergeHy a b k) #[.int .i64 (mergeC a b k)] w) := by
  have hA := ArrIn.arr h1
  have hB := ArrIn.arr h2
  obtain ⟨sa1, sc1, hu⟩ := hA.isSlice
  subst hu
  obtain ⟨sa2, sc2, hu⟩ := hB.isSlice
  subst hu
  have finish : ∀ (w' : World) (u : Value) (z : List DHyp) (c : Int), Hid (mergeHy a b k = z ∧ mergeC a b k = c) → Own eHyp 130 w.heap.size w' u z → Below w.heap.size w w' → RetNew rHypS (mergeHy a b k) #[.int .i64 (mergeC a b k)] w (.returned (.tuple #[u, .int .i64 c])) w' := by
    intro w' u z c hz ho hb
    rw [hz.out.1, hz.out.2]
    exact ⟨_, rfl, rHypS_own ho (Nat.le_refl _), hb⟩
  have C1 := l13Ok_any (.slice sa1 a.length sc1) a w hA ok1 g1
  have C2 := fun w' (hb : Below w.heap.size w w') => l13Ok_any (.slice sa2 b.length sc2) b w' (hB.below hb) ok2 g2
  cases hv1 : validHy a
  · have HZ : Hid (mergeHy a b k = [] ∧ mergeC a b k = 1) := by show _ ∧ _; simp [mergeHy, mergeC, hv1]
    rw [hv1] at C1
    go_enter Try.func42, Try.ntmps42
    go_wp2_with fail
    refine C1.mono ?_
    rintro e w3 ⟨rfl, hb⟩
    go_wp2_with fail
    go_ret2
    exact finish _ _ _ _ HZ (Own.nil _ _ _) hb
  rw [hv1] at C1
  cases hv2 : validHy b
  · have HZ : Hid (mergeHy a b k = [] ∧ mergeC a b k = 1) := by show _ ∧ _; simp [mergeHy, mergeC, hv1, hv2]
    rw [hv2] at C2
    go_enter Try.func42, Try.ntmps42
    go_wp2_with fail
    refine C1.mono ?_
    rintro e w3 ⟨rfl, hb⟩
    go_wp2_with fail
    refine (C2 w3 hb).mono ?_
    rintro e w4 ⟨rfl, hb4⟩
    go_wp2_with fail
    go_ret2
    exact finish _ _ _ _ HZ (Own.nil _ _ _) (hb.trans (hb4.mono hb.size))
  rw [hv2] at C2
  have HI : ∀ w', Calls Try.prog 60 #[.int .i64 k, .int .i64 1, .int .i64 8] w' fun e w'' => e = .returned (.bool (inB k 1 8)) ∧ w' = w'' := fun w' => l00In_any _ _ _ w'
  cases hk : inB k 1 8
  · have HZ : Hid (mergeHy a b k = [] ∧ mergeC a b k = 2) := by show _ ∧ _; simp [mergeHy, mergeC, hv1, hv2, hk]
    rw [hk] at HI
    go_enter Try.func42, Try.ntmps42
    go_wp2_with fail
    refine C1.mono ?_
    rintro e w3 ⟨rfl, hb⟩
    go_wp2_with fail
    refine (C2 w3 hb).mono ?_
    rintro e w4 ⟨rfl, hb4⟩
    go_wp2_with (go_at_call 60; refine (HI _).mono ?_; rintro e w' ⟨rfl, rfl⟩)
    go_ret2
    exact finish _ _ _ _ HZ (Own.nil _ _ _) (hb.trans (hb4.mono hb.size))
  rw [hk] at HI
  obtain ⟨hk1, hk2⟩ := inB_true.1 hk
  obtain ⟨kn, rfl⟩ : ∃ kn : Nat, k = kn := ⟨k.toNat, by omega⟩
  have hk8 : kn ≤ 8 := by omega
  have la : a.length ≤ 8 := by have h := hv1; rw [validHy, Bool.and_eq_true] at h; simpa using h.2
  have lb : b.length ≤ 8 := by have h := hv2; rw [validHy, Bool.and_eq_true] at h; simpa using h.2
  have HZ : Hid (mergeHy a b (kn : Int) = (b.foldl insH a).take kn ∧ mergeC a b (kn : Int) = 0) := by show _ ∧ _; simp [mergeHy, mergeC, hv1, hv2, hk]
  clear hv1 hv2 hk
  go_enter Try.func42, Try.ntmps42
  go_wp2_with fail
  refine C1.mono ?_
  rintro e w3 ⟨rfl, hb⟩
  go_wp2_with fail
  refine (C2 w3 hb).mono ?_
  rintro e w4 ⟨rfl, hb4⟩
  have hb5 := hb.trans (hb4.mono hb.size)
  have hm : Below w4.heap.size w4 (w4.alloc (.cells #[] 130)) := below_alloc _ _
  have hb6 : Below w.heap.size w (w4.alloc (.cells #[] 130)) := hb5.trans (hm.mono hb5.size)
  go_wp2_with (first | (go_at_call 60; refine (HI _).mono ?_; rintro e w' ⟨rfl, rfl⟩) | (at_builtin; (refine wpList_appA rfl _ _ 78 rfl w4.heap.size 130 _ 24 infHyp Try.underlying78 rfl _ [] rfl (Own.empty _ _ (Nat.le_refl _)) _ a rfl ((hA.below hb5).alloc _) (by unfold maxLen; simp; omega) (by simp; omega) (by simp) ?_; intro v' wA hoA hbA htA)))
  have hb7 : Below w.heap.size w wA := hb5.trans ((hm.trans hbA).mono hb5.size)
  have hbB : Below wA.heap.size wA wA := Below.refl _ _
  obtain ⟨b', off', ao', cap', he', hnc, hcm, hao, hc⟩ := hB
  simp only [Value.slice.injEq] at he'
  obtain ⟨rfl, -, rfl⟩ := he'
  unfold maxLen at hcm
  have hoA' : Arr eHyp wA v' a := by have := hoA.arr; simpa using this
  clear hoA hbA htA hm hb6 C1 C2 hb4 hb hb5
  go_loopw [8, 9] (fun l i wr => ∃ (j : Nat) (L : List DHyp), j ≤ b.length ∧ i = .int .i64 j ∧ L = (b.take j).foldl insH a ∧ L.length ≤ 8 + j ∧ Arr eHyp wr l L ∧ Below w.heap.size w wr) (fun _ i _ => b.length - (intOf i).toNat)
  case atStart => exact ⟨0, a, Nat.zero_le _, rfl, rfl, by omega, hoA', hb7⟩
  case round =>
    obtain ⟨j, L, hj, rfl, hLe, hLl, hL, hb⟩ := hrel
    have HLE := hid hLe
    clear hLe
    by_cases hlt : j < b.length
    · obtain ⟨hao', hbw⟩ := hao (by omega)
      subst hao'
      obtain ⟨e, he⟩ : ∃ e, b[j]? = some e := ⟨_, List.getElem?_eq_getElem hlt⟩
      have hli : (j : Int) < (b.length : Int) := by omega
      obtain ⟨c0, c1⟩ := eHyp_cells (hc.below hb hbw) he
      have HT : Hid ((b.take (j + 1)).foldl insH a = insH L e) := hid (by rw [List.take_add_one, he, List.foldl_append, HLE.out]; rfl)
      have hil := insH_len L e
      have HC := hid (l13Insert_any _ L e wr hL (by omega))
      obtain ⟨lb', cb'⟩ := e
      simp only at c0 c1 HC
      clear he
      go_wp2_with (go_at_call 95; refine HC.out.mono ?_; rintro e w5 ⟨u, rfl, hu, hb5⟩)
      go_roundw
      case rel => exact ⟨j + 1, _, by omega, by go_num, HT.out.symm, by omega, hu, hb.trans (hb5.mono hb.size)⟩
      case measure => simp [intOf]; omega
    · obtain rfl : j = b.length := by omega
      rw [List.take_length] at HLE
      have HC := hid (l13First_any _ L kn wr hL (by omega) hk8)
      go_wp2_with (go_at_call 96; refine HC.out.mono ?_; rintro e w5 ⟨u, rfl, hu, hb5⟩)
      go_ret2
      exact finish _ _ _ _ HZ (by rw [← HLE.out]; exact hu.mono hb.size) (hb.trans (hb5.mono hb.size))
end Go.Proofs.Ytnanegdcoegahaa
