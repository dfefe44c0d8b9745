/- Numbers that are read: both calls. -/
import Derived.Test.YtbgjojnjbplblaaGreatDoorRtPl
import Derived.Test.YtbgjojnjbplblaaGreatDoorRtSpec
import Derived.Test.YtbgjojnjbplblaaGreatDoorTxBld
import Derived.Lib.AtoiErrMem
import Derived.Deep.Cut
namespace Go.Proofs.YtbgjojnjbplblaaGreatDoor
open Go.RowKit

theorem w64 (n : Int) (h : -9223372036854775808 ≤ n ∧ n ≤ 9223372036854775807) : wrap64 n = n := by unfold wrap64; omega
theorem w64d {d : Nat} (h : d ≤ 9) : wrap64 (d : Int) = (d : Int) := w64 _ (by omega)
theorem w64m {acc : Nat} (h : acc < 100000000000000000) : wrap64 (10 * (acc : Int)) = 10 * (acc : Int) := w64 _ (by omega)
theorem w64a {acc d : Nat} (h : acc < 100000000000000000) (hd : d ≤ 9) : wrap64 (10 * (acc : Int) + (d : Int)) = 10 * (acc : Int) + (d : Int) := w64 _ (by omega)
theorem w64n {acc : Nat} (h : acc < 1000000000000000000) : wrap64 (-(acc : Int)) = -(acc : Int) := w64 _ (by omega)
theorem okN_pm {acc : Nat} (h : acc < 1000000000000000000) : okN (acc : Int) ∧ okN (-(acc : Int)) := by unfold okN; omega
theorem dig_mod {D d : Nat} (e1 : 48 ≤ D) (e2 : D ≤ 57) (e3 : d = D - 48) : ((D : Int) - 48) % 256 = (d : Int) := by omega
theorem rdN_digits {l : List UInt8} {n : Int} (h : rdN l = some n) : noMinus l = Lib.decDigits n.natAbs := by
  rw [← (rdN_some h).1, noMinus_itoa]
theorem rdN_bad {l : List UInt8} {k : Nat} {b : UInt8} (h : (noMinus l)[k]? = some b) (hd : Lib.digitVal b = none) : rdN l = none := by
  cases hr : rdN l with
  | none => rfl
  | some n =>
    rw [rdN_digits hr] at h
    obtain ⟨d, he⟩ := Lib.digit_of_decFrom _ 0 _ (decFrom_digits n.natAbs) k b h
    rw [hd] at he; cases he
theorem rdN_len {l : List UInt8} (h : ¬ (1 ≤ (noMinus l).length ∧ (noMinus l).length ≤ 18)) : rdN l = none := by unfold rdN; rw [if_neg h]
theorem noMinus_eq {l : List UInt8} (h : l.head? ≠ some 45) : noMinus l = l := by
  cases l with
  | nil => rfl
  | cons c r => simp at h; simp [noMinus, h]
theorem noMinus_neg (r : List UInt8) : noMinus (45 :: r) = r := by simp [noMinus]
theorem atoi_pos {l : List UInt8} {acc : Nat} (h45 : l.head? ≠ some 45) (h : Lib.decFrom 0 l = some acc) (h1 : 1 ≤ l.length) : Lib.atoi l = some (acc : Int) := by
  cases l with
  | nil => simp at h1
  | cons c r =>
    simp at h45
    have hc : (c == 45) = false := by rw [beq_eq_false_iff_ne]; exact h45
    have hc2 : (c == 43) = false := by
      rw [beq_eq_false_iff_ne]
      rintro rfl
      obtain ⟨d, hd⟩ := Lib.digit_of_decFrom _ 0 acc h 0 43 rfl
      rw [show Lib.digitVal 43 = none from by decide] at hd
      cases hd
    simp only [Lib.atoi, hc, hc2, Bool.false_eq_true, if_false, Lib.decNat, List.isEmpty_cons]
    rw [h]; rfl
theorem atoi_neg {r : List UInt8} {acc : Nat} (h : Lib.decFrom 0 r = some acc) (h1 : 1 ≤ r.length) : Lib.atoi (45 :: r) = some (-(acc : Int)) := by
  simp only [Lib.atoi, beq_self_eq_true, if_true, Lib.decNat]
  rw [if_neg (by rw [List.isEmpty_iff]; intro e; rw [e] at h1; simp at h1), h]; rfl
theorem rdN_at {l : List UInt8} {n : Int} (ha : Lib.atoi l = some n) (h : 1 ≤ (noMinus l).length ∧ (noMinus l).length ≤ 18) : rdN l = if Lib.itoa n = l then some n else none := by
  unfold rdN; rw [if_pos h, ha]
theorem rdN_no {l : List UInt8} (ha : Lib.atoi l = none) : rdN l = none := by
  unfold rdN; rw [ha]; split <;> rfl
theorem rdNv_none {l : List UInt8} (h : rdN l = none) : rdNv l = 0 ∧ rdNb l = false := by unfold rdNv rdNb; rw [h]; exact ⟨rfl, rfl⟩
theorem rdNv_some {l : List UInt8} {n : Int} (h : rdN l = some n) : rdNv l = n ∧ rdNb l = true := by unfold rdNv rdNb; rw [h]; exact ⟨rfl, rfl⟩
theorem eqS_dec (n : Int) (s : ByteArray) : ((decS n).toList == s.toList) = decide (Lib.itoa n = s.data.toList) := by
  rw [ByteArray.toList_eq, ByteArray.toList_eq, decS_list, Bool.beq_eq_decide_eq]
theorem trimPre_minus (l : List UInt8) : Lib.trimPrefix l [45] = noMinus l := by
  unfold Lib.trimPrefix Lib.hasPrefix noMinus
  cases l with
  | nil => rfl
  | cons c r =>
    by_cases h : c = 45
    · subst h; simp [List.isPrefixOf]
    · have : ((45 : UInt8) == c) = false := by rw [beq_eq_false_iff_ne]; exact fun e => h e.symm
      simp [List.isPrefixOf, this, h]

/-! ### what the library's variables hold -/
def ErrL (w : World) : Prop := ∃ tp p, w.cell? ⟨0, 0, none⟩ = some (.iface tp p)
def MaxL (w : World) : Prop := ∃ m, w.cell? ⟨2, 0, none⟩ = some (.int .i64 m)
structure TabR (w : World) : Prop where
  tab : TabL w
  err : ErrL w
  max : MaxL w
theorem TabR.below {w w' : World} (h : TabR w) (hb : Below w.heap.size w w') : TabR w' := by
  obtain ⟨h1, ⟨tp, p, h2⟩, ⟨m, h3⟩⟩ := h
  exact ⟨h1.below hb, ⟨tp, p, cell_later hb h2⟩, ⟨m, cell_later hb h3⟩⟩
theorem TabR.alloc {w : World} (h : TabR w) (o : Obj) : TabR (w.alloc o) := h.below (below_alloc _ _)

theorem l01Digit_any (b : UInt8) (w : World) : Calls Tryz.prog 51 #[.int .u8 (b.toNat : Int)] w fun e w' => e = .returned (.bool (Lib.digitVal b).isSome) ∧ w = w' := by
  have hd : (Lib.digitVal b).isSome = (decide (48 ≤ b.toNat) && decide (b.toNat ≤ 57)) := by
    unfold Lib.digitVal
    by_cases h : 48 ≤ b.toNat ∧ b.toNat ≤ 57
    · rw [if_pos h]; simp [h.1, h.2]
    · rw [if_neg h]
      by_cases h1 : 48 ≤ b.toNat
      · have : ¬ b.toNat ≤ 57 := fun h2 => h ⟨h1, h2⟩
        simp [this]
      · simp [h1]
  rw [hd]
  by_cases h1 : 48 ≤ b.toNat
  · by_cases h2 : b.toNat ≤ 57
    · have i1 : (48 : Int) ≤ (b.toNat : Int) := by omega
      have i2 : (b.toNat : Int) ≤ 57 := by omega
      go_enter Tryz.func51, Tryz.ntmps51
      go_wp2_with fail
      go_ret
      exact ⟨by simp [h1, h2], by trivial⟩
    · have i1 : (48 : Int) ≤ (b.toNat : Int) := by omega
      have i2 : ¬ ((b.toNat : Int) ≤ 57) := by omega
      have i3 : decide ((b.toNat : Int) ≤ 57) = false := decide_eq_false i2
      go_enter Tryz.func51, Tryz.ntmps51
      go_wp2_with fail
      go_ret
      exact ⟨by simp, by trivial⟩
  · have i1 : ¬ ((48 : Int) ≤ (b.toNat : Int)) := by omega
    have i3 : decide ((48 : Int) ≤ (b.toNat : Int)) = false := decide_eq_false i1
    go_enter Tryz.func51, Tryz.ntmps51
    go_wp2_with fail
    go_ret
    exact ⟨by simp, by trivial⟩
set_option maxRecDepth 100000 in
set_option maxHeartbeats 4000000 in
theorem l01Number_any (s : ByteArray) (w : World) : Calls Tryz.prog 25 #[.string s] w (Ret (.tuple #[.int .i64 (rdNv s.data.toList), .bool (rdNb s.data.toList)]) w) := by
  have hL : s.data.toList.length = s.size := by rw [Array.length_toList]; rfl
  have HL := hid hL
  have bad : ∀ w', rdN s.data.toList = none → Below w.heap.size w w' → Ret (.tuple #[.int .i64 (rdNv s.data.toList), .bool (rdNb s.data.toList)]) w (.returned (.tuple #[.int .i64 0, .bool false])) w' := fun w' h hb => by
    rw [(rdNv_none h).1, (rdNv_none h).2]; exact ⟨rfl, hb⟩
  have BAD := hid bad
  clear bad hL
  by_cases hz : s.size = 0
  · have hl0 : s.data.toList = [] := List.length_eq_zero_iff.1 (by rw [HL.out, hz])
    have HN := hid (show rdN s.data.toList = none by rw [hl0]; rfl)
    have hs0 : s = ⟨#[]⟩ := baS_eq2 (by rw [hl0])
    subst hs0
    clear hl0
    go_enter Tryz.func25, Tryz.ntmps25
    go_wp2_with fail
    go_ret2
    exact BAD.out _ HN.out (Below.refl _ _)
  · have hs1 : 0 < s.size := by omega
    have hsne : ¬ (s.toList = []) := by
      rw [ByteArray.toList_eq]
      intro h
      have h2 : s.data.toList.length = 0 := by rw [h]; rfl
      rw [HL.out] at h2
      omega
    have hse : s.toList.isEmpty = false := by
      cases h : s.toList.isEmpty with
      | false => rfl
      | true => exact absurd (List.isEmpty_iff.1 h) hsne
    have HB0 := hid (byte_at s 0 hs1)
    by_cases h45 : s[0] = 45
    · have hqi : (((s[0]).toNat : Int) == 45) = true := by rw [h45]; rfl
      have hTl : (s.extract 1 s.size).data.toList = noMinus s.data.toList := by
        rw [Lib.extract_data]
        cases hl : s.data.toList with
        | nil => rw [hl] at HL; have := HL.out; simp at this; omega
        | cons c r =>
          have h0 := HB0.out
          rw [hl] at h0
          simp at h0
          rw [h0, h45, noMinus_neg]
          have h2 := HL.out
          rw [hl] at h2
          simp at h2
          rw [List.drop_one, List.tail_cons, List.take_of_length_le (by omega)]
      have hneg : s.data.toList = 45 :: noMinus s.data.toList := by
        cases hl : s.data.toList with
        | nil => rw [hl] at HL; have := HL.out; simp at this; omega
        | cons c r =>
          have h0 := HB0.out
          rw [hl] at h0
          simp at h0
          rw [h0, h45, noMinus_neg]
      have hTs : (s.extract 1 s.size).data.toList.length + 1 = s.size := by
        have h2 := congrArg List.length hneg
        rw [HL.out] at h2
        rw [hTl]; simp at h2; omega
      obtain ⟨T, hT⟩ : ∃ T, T = s.extract 1 s.size := ⟨_, rfl⟩
      rw [← hT] at hTl hTs
      have hTz : T.data.toList.length = T.size := by rw [Array.length_toList]; rfl
      rw [hTz] at hTs
      have HTL := hid hTl
      have HNEG := hid hneg
      have HTZ := hid hTz
      have HT := hid hT
      have hli1 : (1 : Int) ≤ (s.size : Int) := by omega
      have hlt' : (T.size : Int) < (s.size : Int) := by omega
      clear hTl hneg hTz hT h45
      go_enter Tryz.func25, Tryz.ntmps25
      go_upto_region 4 with fail
      all_goals first | (exfalso; exact hsne (by assumption)) | skip
      rw [← HT.out]
      by_cases h1 : T.size < 1
      · have h1i : (T.size : Int) < 1 := by omega
        have HN := hid (show rdN s.data.toList = none from rdN_len (by rw [← HTL.out, HTZ.out]; omega))
        go_wp2_with fail
        go_ret2
        exact BAD.out _ HN.out (Below.refl _ _)
      have h1i : ¬ ((T.size : Int) < 1) := by omega
      have h1d : decide ((T.size : Int) < 1) = false := decide_eq_false h1i
      by_cases h18 : 18 < T.size
      · have h18i : (18 : Int) < (T.size : Int) := by omega
        have HN := hid (show rdN s.data.toList = none from rdN_len (by rw [← HTL.out, HTZ.out]; omega))
        go_wp2_with fail
        go_ret2
        exact BAD.out _ HN.out (Below.refl _ _)
      have h18i : ¬ ((18 : Int) < (T.size : Int)) := by omega
      have h18d : decide ((18 : Int) < (T.size : Int)) = false := decide_eq_false h18i
      have hlen : 1 ≤ (noMinus s.data.toList).length ∧ (noMinus s.data.toList).length ≤ 18 := by rw [← HTL.out, HTZ.out]; omega
      have HLEN := hid hlen
      clear hlen
      go_wp2_with fail
      go_loopw [5, 6] (fun n i wr => ∃ k acc : Nat, k ≤ T.size ∧ i = .int .i64 k ∧ n = .int .i64 acc ∧ Hid (Lib.decFrom 0 (T.data.toList.take k) = some acc) ∧ w = wr) (fun _ i _ => T.size - (intOf i).toNat)
      case atStart => exact ⟨0, 0, Nat.zero_le _, rfl, rfl, hid rfl, rfl⟩
      case round =>
        obtain ⟨k, acc, hk, rfl, rfl, HD, rfl⟩ := hrel
        by_cases hlt : k < T.size
        · have hli : (k : Int) < (T.size : Int) := by omega
          have HB := hid (byte_at T k hlt)
          have CDg := fun w' => l01Digit_any T[k] w'
          cases hdv : Lib.digitVal T[k] with
          | none =>
            rw [hdv] at CDg
            have HN := hid (show rdN s.data.toList = none from rdN_bad (k := k) (by rw [← HTL.out]; exact HB.out) hdv)
            clear hdv
            go_wp2_with (go_at_call 51; refine (CDg _).mono ?_; rintro e w' ⟨rfl, rfl⟩)
            go_ret2
            exact BAD.out _ HN.out (Below.refl _ _)
          | some d =>
            rw [hdv] at CDg
            obtain ⟨e1, e2, e3⟩ := Lib.digitVal_eq hdv
            have hacc := Lib.decFrom_take_lt HD.out (by omega)
            have HD2 := hid (Lib.decFrom_take _ _ _ _ _ _ HD.out HB.out hdv)
            have hd9 : d ≤ 9 := by omega
            have hm : (((T[k]).toNat : Int) - 48) % 256 = (d : Int) := dig_mod e1 e2 e3
            have hw1 : wrap64 (10 * (acc : Int)) = 10 * (acc : Int) := w64m hacc
            have hw2 : wrap64 (10 * (acc : Int) + (d : Int)) = 10 * (acc : Int) + (d : Int) := w64a hacc hd9
            have hw3 : wrap64 (d : Int) = (d : Int) := w64d hd9
            clear hdv e1 e2 e3
            go_wp2_with (go_at_call 51; refine (CDg _).mono ?_; rintro e w' ⟨rfl, rfl⟩)
            go_roundw
            case rel => exact ⟨k + 1, acc * 10 + d, by omega, by go_num, by go_num, HD2, by trivial⟩
            case measure => simp [intOf]; omega
        · obtain rfl : k = T.size := by omega
          have hli : ¬ ((T.size : Int) < (T.size : Int)) := by omega
          have hdd : Lib.decFrom 0 (noMinus s.data.toList) = some acc := by
            have := HD.out
            rw [List.take_of_length_le (by rw [HTZ.out]; exact Nat.le_refl _), HTL.out] at this
            exact this
          have hacc18 : acc < 1000000000000000000 := Lib.decFrom_lt18 hdd HLEN.out.2
          have hat : Lib.atoi s.data.toList = some (-(acc : Int)) := by
            have h2 := atoi_neg hdd HLEN.out.1
            rw [← HNEG.out] at h2
            exact h2
          have hr := rdN_at hat HLEN.out
          have hokn : okN (-(acc : Int)) := by first | exact (okN_pm hacc18).1 | exact (okN_pm hacc18).2
          have CD := fun w' => l01Dec_any (-(acc : Int)) w' hokn
          have HEQ := hid (eqS_dec (-(acc : Int)) s)
          have HR := hid hr
          clear hat hr hdd hokn
          cases hq : ((decS (-(acc : Int))).toList == s.toList)
          · have HN := hid (show rdN s.data.toList = none by
              rw [HR.out, if_neg]
              have := HEQ.out
              rw [hq] at this
              simpa using this.symm)
            go_wp2_with (go_at_call 52; fail)
            refine (CD _).mono ?_
            rintro e w3 ⟨rfl, hb3⟩
            go_wp2_with fail
            go_ret2
            exact BAD.out _ HN.out hb3
          · have HN := hid (show rdN s.data.toList = some (-(acc : Int)) by
              rw [HR.out, if_pos]
              have := HEQ.out
              rw [hq] at this
              simpa using this.symm)
            go_wp2_with (go_at_call 52; fail)
            refine (CD _).mono ?_
            rintro e w3 ⟨rfl, hb3⟩
            go_wp2_with fail
            go_ret2
            rw [(rdNv_some HN.out).1, (rdNv_some HN.out).2]
            exact ⟨rfl, hb3⟩
    · have hqi : (((s[0]).toNat : Int) == 45) = false := by
        rw [beq_eq_false_iff_ne]
        intro h
        apply h45
        exact UInt8.toNat_inj.1 (by have : (45 : UInt8).toNat = 45 := rfl; omega)
      have hhead : s.data.toList.head? ≠ some 45 := by
        cases hl : s.data.toList with
        | nil => simp
        | cons c r =>
          have h0 := HB0.out
          rw [hl] at h0
          simp at h0
          simp [h0, h45]
      have hTl : s.data.toList = noMinus s.data.toList := (noMinus_eq hhead).symm
      have HTL := hid hTl
      have HHD := hid hhead
      have HTZ := HL
      have hlt' : ¬ ((s.size : Int) < (s.size : Int)) := by omega
      clear hTl hhead h45
      go_enter Tryz.func25, Tryz.ntmps25
      go_upto_region 4 with fail
      all_goals first | (exfalso; exact hsne (by assumption)) | skip
      by_cases h1 : s.size < 1
      · have h1i : (s.size : Int) < 1 := by omega
        have HN := hid (show rdN s.data.toList = none from rdN_len (by rw [← HTL.out, HTZ.out]; omega))
        go_wp2_with fail
        go_ret2
        exact BAD.out _ HN.out (Below.refl _ _)
      have h1i : ¬ ((s.size : Int) < 1) := by omega
      have h1d : decide ((s.size : Int) < 1) = false := decide_eq_false h1i
      by_cases h18 : 18 < s.size
      · have h18i : (18 : Int) < (s.size : Int) := by omega
        have HN := hid (show rdN s.data.toList = none from rdN_len (by rw [← HTL.out, HTZ.out]; omega))
        go_wp2_with fail
        go_ret2
        exact BAD.out _ HN.out (Below.refl _ _)
      have h18i : ¬ ((18 : Int) < (s.size : Int)) := by omega
      have h18d : decide ((18 : Int) < (s.size : Int)) = false := decide_eq_false h18i
      have hlen : 1 ≤ (noMinus s.data.toList).length ∧ (noMinus s.data.toList).length ≤ 18 := by rw [← HTL.out, HTZ.out]; omega
      have HLEN := hid hlen
      clear hlen
      go_wp2_with fail
      go_loopw [5, 6] (fun n i wr => ∃ k acc : Nat, k ≤ s.size ∧ i = .int .i64 k ∧ n = .int .i64 acc ∧ Hid (Lib.decFrom 0 (s.data.toList.take k) = some acc) ∧ w = wr) (fun _ i _ => s.size - (intOf i).toNat)
      case atStart => exact ⟨0, 0, Nat.zero_le _, rfl, rfl, hid rfl, rfl⟩
      case round =>
        obtain ⟨k, acc, hk, rfl, rfl, HD, rfl⟩ := hrel
        by_cases hlt : k < s.size
        · have hli : (k : Int) < (s.size : Int) := by omega
          have HB := hid (byte_at s k hlt)
          have CDg := fun w' => l01Digit_any s[k] w'
          cases hdv : Lib.digitVal s[k] with
          | none =>
            rw [hdv] at CDg
            have HN := hid (show rdN s.data.toList = none from rdN_bad (k := k) (by rw [← HTL.out]; exact HB.out) hdv)
            clear hdv
            go_wp2_with (go_at_call 51; refine (CDg _).mono ?_; rintro e w' ⟨rfl, rfl⟩)
            go_ret2
            exact BAD.out _ HN.out (Below.refl _ _)
          | some d =>
            rw [hdv] at CDg
            obtain ⟨e1, e2, e3⟩ := Lib.digitVal_eq hdv
            have hacc := Lib.decFrom_take_lt HD.out (by omega)
            have HD2 := hid (Lib.decFrom_take _ _ _ _ _ _ HD.out HB.out hdv)
            have hd9 : d ≤ 9 := by omega
            have hm : (((s[k]).toNat : Int) - 48) % 256 = (d : Int) := dig_mod e1 e2 e3
            have hw1 : wrap64 (10 * (acc : Int)) = 10 * (acc : Int) := w64m hacc
            have hw2 : wrap64 (10 * (acc : Int) + (d : Int)) = 10 * (acc : Int) + (d : Int) := w64a hacc hd9
            have hw3 : wrap64 (d : Int) = (d : Int) := w64d hd9
            clear hdv e1 e2 e3
            go_wp2_with (go_at_call 51; refine (CDg _).mono ?_; rintro e w' ⟨rfl, rfl⟩)
            go_roundw
            case rel => exact ⟨k + 1, acc * 10 + d, by omega, by go_num, by go_num, HD2, by trivial⟩
            case measure => simp [intOf]; omega
        · obtain rfl : k = s.size := by omega
          have hli : ¬ ((s.size : Int) < (s.size : Int)) := by omega
          have hdd : Lib.decFrom 0 (noMinus s.data.toList) = some acc := by
            have := HD.out
            rw [List.take_of_length_le (by rw [HTZ.out]; exact Nat.le_refl _), HTL.out] at this
            exact this
          have hacc18 : acc < 1000000000000000000 := Lib.decFrom_lt18 hdd HLEN.out.2
          have hat : Lib.atoi s.data.toList = some (acc : Int) := by
            rw [noMinus_eq HHD.out] at hdd
            exact atoi_pos HHD.out hdd (by rw [HTZ.out]; omega)
          have hr := rdN_at hat HLEN.out
          have hokn : okN (acc : Int) := by first | exact (okN_pm hacc18).1 | exact (okN_pm hacc18).2
          have CD := fun w' => l01Dec_any (acc : Int) w' hokn
          have HEQ := hid (eqS_dec (acc : Int) s)
          have HR := hid hr
          clear hat hr hdd hokn
          cases hq : ((decS (acc : Int)).toList == s.toList)
          · have HN := hid (show rdN s.data.toList = none by
              rw [HR.out, if_neg]
              have := HEQ.out
              rw [hq] at this
              simpa using this.symm)
            go_wp2_with (go_at_call 52; fail)
            refine (CD _).mono ?_
            rintro e w3 ⟨rfl, hb3⟩
            go_wp2_with fail
            go_ret2
            exact BAD.out _ HN.out hb3
          · have HN := hid (show rdN s.data.toList = some (acc : Int) by
              rw [HR.out, if_pos]
              have := HEQ.out
              rw [hq] at this
              simpa using this.symm)
            go_wp2_with (go_at_call 52; fail)
            refine (CD _).mono ?_
            rintro e w3 ⟨rfl, hb3⟩
            go_wp2_with fail
            go_ret2
            rw [(rdNv_some HN.out).1, (rdNv_some HN.out).2]
            exact ⟨rfl, hb3⟩
set_option maxRecDepth 100000 in
set_option maxHeartbeats 4000000 in
theorem ReadDecimal_any (s : ByteArray) (w : World) (hs : s.size ≤ 1048576) (ht : TabR w) : Calls Tryz.prog 19 #[.string s] w (Ret (.tuple #[.int .i64 (rdNv s.data.toList), .bool (rdNb s.data.toList)]) w) := by
  have bad : ∀ w', rdN s.data.toList = none → Below w.heap.size w w' → Ret (.tuple #[.int .i64 (rdNv s.data.toList), .bool (rdNb s.data.toList)]) w (.returned (.tuple #[.int .i64 0, .bool false])) w' := fun w' h hb => by
    rw [(rdNv_none h).1, (rdNv_none h).2]; exact ⟨rfl, hb⟩
  have BAD := hid bad
  clear bad
  obtain ⟨T, hT⟩ : ∃ T : ByteArray, T = ⟨(noMinus s.data.toList).toArray⟩ := ⟨_, rfl⟩
  have hTs : T.size = (noMinus s.data.toList).length := by rw [hT]; show (noMinus s.data.toList).toArray.size = _; simp
  have CT : Calls Tryz.prog 40 #[.string s, .string ⟨#[45]⟩] w fun e w' => e = .returned (.string T) ∧ w = w' := by
    have h := Tryz.strings_TrimPrefix s ⟨#[45]⟩ w
    rw [show (⟨#[45]⟩ : ByteArray).data.toList = [45] from rfl, trimPre_minus, ← hT] at h
    exact h.mono fun _ _ h => ⟨h.1, h.2.symm⟩
  have HTS := hid hTs
  clear hT hTs
  by_cases h1 : T.size < 1
  · have h1i : (T.size : Int) < 1 := by omega
    have HN := hid (show rdN s.data.toList = none from rdN_len (by have := HTS.out; omega))
    go_enter Tryz.func19, Tryz.ntmps19
    go_wp2_with (go_at_call 40; refine CT.mono ?_; rintro e w' ⟨rfl, rfl⟩)
    go_ret2
    exact BAD.out _ HN.out (Below.refl _ _)
  have h1i : ¬ ((T.size : Int) < 1) := by omega
  have h1d : decide ((T.size : Int) < 1) = false := decide_eq_false h1i
  by_cases h18 : 18 < T.size
  · have h18i : (18 : Int) < (T.size : Int) := by omega
    have HN := hid (show rdN s.data.toList = none from rdN_len (by have := HTS.out; omega))
    go_enter Tryz.func19, Tryz.ntmps19
    go_wp2_with (go_at_call 40; refine CT.mono ?_; rintro e w' ⟨rfl, rfl⟩)
    go_ret2
    exact BAD.out _ HN.out (Below.refl _ _)
  have h18i : ¬ ((18 : Int) < (T.size : Int)) := by omega
  have h18d : decide ((18 : Int) < (T.size : Int)) = false := decide_eq_false h18i
  have hlen : 1 ≤ (noMinus s.data.toList).length ∧ (noMinus s.data.toList).length ≤ 18 := by have := HTS.out; omega
  have hp := parse_short hlen.2
  cases ha : Lib.atoi s.data.toList with
  | none =>
    rw [ha] at hp
    have HN := hid (rdN_no ha)
    obtain ⟨tp, p, hv⟩ := ht.err
    have CP := Any.strconv_ParseInt_10_at64_syntax Tryz.laysC174 s (by omega) hp (.iface tp p) w hv (.inr ⟨tp, p, rfl⟩)
    clear ha hp hlen
    go_enter Tryz.func19, Tryz.ntmps19
    go_wp2_with (go_at_call 40; refine CT.mono ?_; rintro e w' ⟨rfl, rfl⟩)
    refine CP.mono ?_
    rintro e w2 ⟨N, rfl, hN, _, hb⟩
    go_wp2_with fail
    go_ret2
    exact BAD.out _ HN.out hb
  | some n =>
    rw [ha] at hp
    have hr := rdN_at ha hlen
    have hbd := Lib.parseIntB_bounds (B := 64) hp
    have hokn : okN n := by
      have e : ((2 ^ (64 - 1) : Nat) : Int) = 9223372036854775808 := by decide
      rw [e] at hbd
      unfold okN; omega
    have CP := Tryz.strconv_ParseInt_10_at64_ok s (by omega) n hp w
    have CD := fun w' (hb : Below w.heap.size w w') => Decimal_any n w' hokn (ht.tab.below hb)
    have HEQ := hid (eqS_dec n s)
    cases hq : ((decS n).toList == s.toList)
    · have HN := hid (show rdN s.data.toList = none by
        rw [hr, if_neg]
        have := HEQ.out
        rw [hq] at this
        simpa using this.symm)
      clear ha hp hlen hr hbd hokn
      go_enter Tryz.func19, Tryz.ntmps19
      go_wp2_with (go_at_call 40; refine CT.mono ?_; rintro e w' ⟨rfl, rfl⟩)
      refine CP.mono ?_
      rintro e w2 ⟨rfl, hw2⟩
      have hb2 : Below w.heap.size w w2 := by
        rcases hw2 with rfl | ⟨t, rfl⟩
        · exact Below.refl _ _
        · exact Lib.bytesWorld_below _ _ _
      clear hw2
      go_wp2_with fail
      refine (CD _ hb2).mono ?_
      rintro e w3 ⟨rfl, hb3⟩
      go_wp2_with fail
      go_ret2
      exact BAD.out _ HN.out (hb2.trans (hb3.mono hb2.size))
    · have HN := hid (show rdN s.data.toList = some n by
        rw [hr, if_pos]
        have := HEQ.out
        rw [hq] at this
        simpa using this.symm)
      clear ha hp hlen hr hbd hokn
      go_enter Tryz.func19, Tryz.ntmps19
      go_wp2_with (go_at_call 40; refine CT.mono ?_; rintro e w' ⟨rfl, rfl⟩)
      refine CP.mono ?_
      rintro e w2 ⟨rfl, hw2⟩
      have hb2 : Below w.heap.size w w2 := by
        rcases hw2 with rfl | ⟨t, rfl⟩
        · exact Below.refl _ _
        · exact Lib.bytesWorld_below _ _ _
      clear hw2
      go_wp2_with fail
      refine (CD _ hb2).mono ?_
      rintro e w3 ⟨rfl, hb3⟩
      go_wp2_with fail
      go_ret2
      rw [(rdNv_some HN.out).1, (rdNv_some HN.out).2]
      exact ⟨rfl, hb2.trans (hb3.mono hb2.size)⟩
end Go.Proofs.YtbgjojnjbplblaaGreatDoor
