/- The code of a training: both calls. -/
import Derived.Test.YtdifhnckhocmdabGreatPcTrP
import Derived.Test.YtdifhnckhocmdabGreatPcClo
namespace Go.Proofs.YtdifhnckhocmdabGreat
open Go.RowKit

theorem goodSmp {X : XSampleS} {k : Nat} {x : XSample} (hx : X[k]? = some x) (g : goodSampleS X) : x.1.size ≤ 9223372036854775807 := (g x (List.mem_of_getElem? hx)).1
set_option maxHeartbeats 1000000 in
theorem l12Sample_any (b o : Nat) (s : XSample) (sa : Option Addr) (sc : Nat) (w : World) (m0 : w.cell? ⟨b, o, none⟩ = some (.string s.1)) (m1 : w.cell? ⟨b, o + 1, none⟩ = some (.slice sa s.2.length sc)) (hA : Arr eFeat w (.slice sa s.2.length sc) s.2) (ok : okFeatS s.2) (g : s.1.size ≤ 9223372036854775807) :
    Calls Tryz.prog 47 #[.pointer (some ⟨b, o, none⟩)] w (Ret (.bool (smpOk s)) w) := by
  cases hl : isLabelB s.1
  · have HL := specLabel_is g hl
    have HZ : Hid (smpOk s = false) := hid (by simp [smpOk, hl])
    go_enter Tryz.func47, Tryz.ntmps47
    go_wp2_with (go_at_call 64; refine (HL _).mono ?_; rintro e w' ⟨rfl, rfl⟩)
    go_ret
    exact ret_bool HZ.out.symm (Below.refl _ _)
  · have HL := specLabel_is g hl
    have HZ : Hid (smpOk s = featsOk s.2) := hid (by simp [smpOk, hl])
    have CF := l08Ok_any _ s.2 w hA ok
    go_enter Tryz.func47, Tryz.ntmps47
    go_wp2_with (first | (go_at_call 64; refine (HL _).mono ?_; rintro e w' ⟨rfl, rfl⟩) | (go_at_call 65; refine CF.mono ?_; rintro e w' ⟨rfl, hb⟩))
    go_ret
    exact ret_bool HZ.out.symm hb
set_option maxHeartbeats 1000000 in
theorem l12Find_any (p : Nat) (v : Value) (L : XStringS) (s : ByteArray) (w : World) (m0 : w.cell? ⟨p, 0, none⟩ = some v) (h : Arr eStr w v L) (ok : L.length ≤ 1048576) :
    Calls Tryz.prog 48 #[.pointer (some ⟨p, 0, none⟩), .string s] w fun e w' => e = .returned (.int .i64 (posOf (labIx L s))) ∧ w = w' := by
  obtain ⟨b, off, ao, cap, rfl, hnc, hcm, hao, hc⟩ := h
  unfold maxLen at hcm
  go_enter Tryz.func48, Tryz.ntmps48
  go_wp2
  go_loop [5] (fun i => ∃ k : Nat, k ≤ L.length ∧ i = .int .i64 k ∧ Hid (∀ j a, j < k → L[j]? = some a → eqS a s = false)) (fun i => L.length - (intOf i).toNat)
  case atStart => exact ⟨0, Nat.zero_le _, rfl, hid (fun j e h => by omega)⟩
  case round =>
    obtain ⟨k, hk, rfl, HA⟩ := hrel
    by_cases hlt : k < L.length
    · obtain ⟨hao', hbw⟩ := hao (by omega)
      subst hao'
      obtain ⟨e, he⟩ : ∃ e, L[k]? = some e := ⟨_, List.getElem?_eq_getElem hlt⟩
      have c0 := eStr_cell hc he
      have hli : (k : Int) < (L.length : Int) := by omega
      have HE := hid he
      clear he hao
      cases hq : (e.toList == s.toList)
      · have HQ : Hid (eqS e s = false) := hid hq
        go_wp2
        go_round
        case rel =>
          refine ⟨k + 1, by omega, by go_num, hid (fun j a hj ha => ?_)⟩
          by_cases ej : j = k
          · subst ej; rw [HE.out] at ha; obtain rfl := Option.some.inj ha; exact HQ.out
          · exact HA.out j a (by omega) ha
        case measure => simp [intOf]; omega
      · have HQ : Hid (labIx L s = some k) := hid (find_some HE.out hq HA.out)
        go_wp2
        go_ret
        exact ⟨by rw [HQ.out]; rfl, rfl⟩
    · have HV : Hid (labIx L s = none) := hid (find_none fun j a hj => HA.out j a (by omega))
      have hli : ¬ ((k : Int) < (L.length : Int)) := by omega
      clear hao
      go_wp2
      go_ret
      exact ⟨by rw [HV.out]; rfl, rfl⟩
set_option maxHeartbeats 1000000 in
theorem indexStr_any (v : Value) (L : XStringS) (s : ByteArray) (w : World) (h : Arr eStr w v L) (ok : L.length ≤ 1048576) :
    Calls Tryz.prog 77 #[v, .string s] w fun e w' => e = .returned (.int .i64 (posOf (labIx L s))) ∧ w = w' := by
  obtain ⟨b, off, ao, cap, rfl, hnc, hcm, hao, hc⟩ := h
  unfold maxLen at hcm
  go_enter Tryz.func77, Tryz.ntmps77
  go_wp2
  go_loop [8] (fun i => ∃ k : Nat, k ≤ L.length ∧ i = .int .i64 k ∧ Hid (∀ j a, j < k → L[j]? = some a → eqS a s = false)) (fun i => L.length - (intOf i).toNat)
  case atStart => exact ⟨0, Nat.zero_le _, rfl, hid (fun j e h => by omega)⟩
  case round =>
    obtain ⟨k, hk, rfl, HA⟩ := hrel
    by_cases hlt : k < L.length
    · obtain ⟨hao', hbw⟩ := hao (by omega)
      subst hao'
      obtain ⟨e, he⟩ : ∃ e, L[k]? = some e := ⟨_, List.getElem?_eq_getElem hlt⟩
      have c0 := eStr_cell hc he
      have hli : (k : Int) < (L.length : Int) := by omega
      have HE := hid he
      clear he hao
      cases hq : (s.toList == e.toList)
      · have HQ : Hid (eqS e s = false) := hid (by rw [eqS_symm]; exact hq)
        go_wp2
        go_round
        case rel =>
          refine ⟨k + 1, by omega, by go_num, hid (fun j a hj ha => ?_)⟩
          by_cases ej : j = k
          · subst ej; rw [HE.out] at ha; obtain rfl := Option.some.inj ha; exact HQ.out
          · exact HA.out j a (by omega) ha
        case measure => simp [intOf]; omega
      · have HQ : Hid (labIx L s = some k) := hid (find_some HE.out (by rw [eqS_symm]; exact hq) HA.out)
        go_wp2
        go_ret
        exact ⟨by rw [HQ.out]; rfl, rfl⟩
    · have HV : Hid (labIx L s = none) := hid (find_none fun j a hj => HA.out j a (by omega))
      have hli : ¬ ((k : Int) < (L.length : Int)) := by omega
      clear hao
      go_wp2
      go_ret
      exact ⟨by rw [HV.out]; rfl, rfl⟩
theorem pos_ge (o : Option Nat) : decide ((0 : Int) ≤ posOf o) = o.isSome := by
  cases o with
  | none => rfl
  | some k => simp [posOf]
theorem pos_bd {L : XStringS} {s : ByteArray} (ok : L.length ≤ 1048576) : -1 ≤ posOf (labIx L s) ∧ posOf (labIx L s) ≤ 1048576 := by
  cases h : labIx L s with
  | none => simp [posOf]
  | some k =>
    have := (List.findIdx?_eq_some_iff_getElem.1 h).1
    simp [posOf]; omega
set_option maxHeartbeats 1000000 in
theorem containsStr_any (v : Value) (L : XStringS) (s : ByteArray) (w : World) (h : Arr eStr w v L) (ok : L.length ≤ 1048576) :
    Calls Tryz.prog 57 #[v, .string s] w fun e w' => e = .returned (.bool (labIx L s).isSome) ∧ w = w' := by
  have CI := indexStr_any v L s w h ok
  have HP := hid (pos_ge (labIx L s))
  generalize (labIx L s).isSome = bb at *
  generalize posOf (labIx L s) = n at *
  go_enter Tryz.func57, Tryz.ntmps57
  go_wp2_with (go_at_call 77; refine CI.mono ?_; rintro e w' ⟨rfl, rfl⟩)
  go_ret
  exact ⟨by rw [← HP.out]; rfl, rfl⟩
set_option maxHeartbeats 1000000 in
theorem validSample_any (s : XSample) (sa : Option Addr) (sc : Nat) (w : World) (hA : Arr eFeat w (.slice sa s.2.length sc) s.2) (ok : okFeatS s.2) (g : s.1.size ≤ 9223372036854775807) :
    Calls Tryz.prog 55 #[.agg #[.string s.1, .slice sa s.2.length sc]] w (Ret (.bool (smpOk s)) w) := by
  cases hl : isLabelB s.1
  · have HL := implLabel_is g hl
    have HZ : Hid (smpOk s = false) := hid (by simp [smpOk, hl])
    go_enter Tryz.func55, Tryz.ntmps55
    go_wp2_with (go_at_call 75; refine (HL _).mono ?_; rintro e w' ⟨rfl, rfl⟩)
    go_ret
    exact ret_bool HZ.out.symm (below_alloc _ _)
  · have HL := implLabel_is g hl
    have HZ : Hid (smpOk s = featsOk s.2) := hid (by simp [smpOk, hl])
    have CF := fun o => validFeats_any _ s.2 (w.alloc o) (hA.alloc o) ok
    go_enter Tryz.func55, Tryz.ntmps55
    go_wp2_with (first | (go_at_call 75; refine (HL _).mono ?_; rintro e w' ⟨rfl, rfl⟩) | (go_at_call 76; refine (CF _).mono ?_; rintro e w' ⟨rfl, hb⟩))
    go_ret
    exact ret_bool HZ.out.symm ((below_alloc _ _).trans (hb.mono (by simp)))
theorem trClo1_any (s : XSample) (sa : Option Addr) (sc : Nat) (w : World) (hA : Arr eFeat w (.slice sa s.2.length sc) s.2) (ok : okFeatS s.2) (g : s.1.size ≤ 9223372036854775807) :
    Calls Tryz.prog 54 #[.agg #[.string s.1, .slice sa s.2.length sc]] w (Ret (.bool (!smpOk s)) w) := by
  have CV := fun o => validSample_any s sa sc (w.alloc o) (hA.alloc o) ok g
  go_enter Tryz.func54, Tryz.ntmps54
  go_wp2_with (go_at_call 55; refine (CV _).mono ?_; rintro e w' ⟨rfl, hb⟩)
  go_ret
  exact ret_bool rfl ((below_alloc _ _).trans (hb.mono (by simp)))
theorem trClo2_any (p : Nat) (v : Value) (L : XStringS) (s : XSample) (sa : Option Addr) (sc : Nat) (w : World) (m0 : w.cell? ⟨p, 0, none⟩ = some v) (h : Arr eStr w v L) (ok : L.length ≤ 1048576) :
    Calls Tryz.prog 56 #[.agg #[.string s.1, .slice sa s.2.length sc], .pointer (some ⟨p, 0, none⟩)] w (Ret (.bool (!(labIx L s.1).isSome)) w) := by
  have CC := fun o => containsStr_any v L s.1 (w.alloc o) (h.alloc o) ok
  have c0 := fun o => cell_alloc m0 o
  have hpl := cell_lt m0
  go_enter Tryz.func56, Tryz.ntmps56
  go_wp2_with (go_at_call 57; refine (CC _).mono ?_; rintro e w' ⟨rfl, rfl⟩)
  go_ret
  exact ret_bool (by cases labIx L s.1 <;> rfl) (below_alloc _ _)
end Go.Proofs.YtdifhnckhocmdabGreat
