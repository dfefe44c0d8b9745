/- Labels: one byte that is a letter, a digit or a sign. -/
import Derived.Test.YtnhmailnnggmjaaStr
import Derived.Lib.Strings
import Derived.Lib.Slices
import Derived.Lib.Walk
import Derived.Lib.Bytealg
namespace Go.Proofs.Ytnhmailnnggmjaa
open Go.RowKit

def signL : List UInt8 := [43, 45, 42, 47, 61, 40, 41, 46, 44]
def labB (b : UInt8) : Bool := signL.contains b || (letB b.toNat || inB b.toNat 48 57)
def isLabelB (s : ByteArray) : Bool := match s.data.toList with
  | [b] => labB b
  | _ => false
theorem isLabel_len {s : ByteArray} (h : s.size ≠ 1) : isLabelB s = false := by
  unfold isLabelB
  split
  · rename_i b hb
    have := congrArg List.length hb
    rw [len_toList] at this
    simp at this
    omega
  · rfl
theorem one_byte {s : ByteArray} (h : s.size = 1) : ∃ b : UInt8, s = ⟨#[b]⟩ := by
  obtain ⟨⟨l⟩⟩ := s
  have : l.length = 1 := h
  obtain ⟨b, rfl⟩ := List.length_eq_one_iff.1 this
  exact ⟨b, rfl⟩
theorem u8_all {p : UInt8 → Bool} (h : (List.range 256).all (fun i => p (UInt8.ofNat i)) = true) (b : UInt8) : p b = true := by
  rw [List.all_eq_true] at h
  have := h b.toNat (by simp; exact UInt8.toNat_lt b)
  simpa using this
theorem lab_all (b : UInt8) : signL.contains b = ((b.toNat : Int) == 43 || (b.toNat : Int) == 45 || (b.toNat : Int) == 42 || (b.toNat : Int) == 47 || (b.toNat : Int) == 61 || (b.toNat : Int) == 40 || (b.toNat : Int) == 41 || (b.toNat : Int) == 46 || (b.toNat : Int) == 44) := by
  have := u8_all (p := fun b => signL.contains b == ((b.toNat : Int) == 43 || (b.toNat : Int) == 45 || (b.toNat : Int) == 42 || (b.toNat : Int) == 47 || (b.toNat : Int) == 61 || (b.toNat : Int) == 40 || (b.toNat : Int) == 41 || (b.toNat : Int) == 46 || (b.toNat : Int) == 44)) (by decide +kernel) b
  simpa using this
set_option maxHeartbeats 1000000 in
theorem l11Label_any (b : UInt8) (w : World) :
    Calls Try.prog 87 #[.int .u8 b.toNat] w fun e w' => e = .returned (.bool (labB b)) ∧ w = w' := by
  have hsg := lab_all b
  obtain ⟨n, hn⟩ : ∃ n : Int, n = (b.toNat : Int) := ⟨_, rfl⟩
  have hL : labB b = (signL.contains b || (letB n || inB n 48 57)) := by rw [hn]; rfl
  rw [hL, hsg, ← hn]
  clear hL hsg hn
  go_enter Try.func87, Try.ntmps87
  go_wp2_with (go_at_call 95; refine (l01Small_any _ _).mono ?_; rintro e w' ⟨rfl, rfl⟩)
  all_goals
    go_ret
    refine ⟨?_, rfl⟩
    simp [*, inB] <;> omega
set_option maxHeartbeats 400000 in
theorem specIsLabel_any (s : ByteArray) (w : World) (hs : s.size ≤ 9223372036854775807) :
    Calls Try.prog 64 #[.string s] w fun e w' => e = .returned (.bool (isLabelB s)) ∧ w = w' := by
  by_cases h1 : s.size = 1
  · obtain ⟨b, rfl⟩ := one_byte h1
    clear h1 hs
    go_enter Try.func64, Try.ntmps64
    go_wp2_with (go_at_call 87; refine (l11Label_any _ _).mono ?_; rintro e w' ⟨rfl, rfl⟩)
    go_ret
    exact ⟨rfl, rfl⟩
  · have h2 := isLabel_len h1
    have h1i : ((s.size : Int) == 1) = false := by rw [beq_eq_false_iff_ne]; omega
    clear h1
    have H2 := hid h2
    clear h2
    go_enter Try.func64, Try.ntmps64
    go_wp2_with fail
    go_ret
    exact ⟨by rw [H2.out]; rfl, rfl⟩
set_option maxHeartbeats 1000000 in
set_option maxRecDepth 100000 in
theorem liteIndexByte_any (s : ByteArray) (c : Int) (w : World) :
    Calls Try.prog 123 #[.string s, .int .u8 c] w fun e w' => e = .returned (.int .i64 (Lib.indexByte s.data.toList c.toNat.toUInt8)) ∧ w = w' := by
  go_enter Try.func123, Try.ntmps123
  go_wp2
  rw [run_callFunc_extern Try.func128 (by kernel_rfl) (by kernel_rfl) (by kernel_rfl) (e := Extern.BytealgIndexByte.indexByte) (by kernel_rfl), Lib.run_indexByteString]
  simp only [Result.andThen]
  rw [Oper.upon_value]
  go_wp2
  go_ret
  exact ⟨rfl, rfl⟩
set_option maxHeartbeats 2000000 in
set_option maxRecDepth 100000 in
theorem liteIndex_one (s : ByteArray) (c : UInt8) (w : World) :
    Calls Try.prog 117 #[.string s, .string ⟨#[c]⟩] w fun e w' => e = .returned (.int .i64 (Lib.indexByte s.data.toList c)) ∧ w = w' := by
  go_enter Try.func117, Try.ntmps117
  go_wp2_with (go_at_call 123; refine (liteIndexByte_any _ _ _).mono ?_; rintro e w' ⟨rfl, rfl⟩)
  · have h : ([c] == s.toList) = true := by assumption
    go_ret
    refine ⟨?_, rfl⟩
    have e : s.data.toList = [c] := by rw [← Lib.toList_data]; exact (beq_iff_eq.1 h).symm
    rw [e]
    simp [Lib.indexByte]
  · go_ret
    exact ⟨rfl, rfl⟩
set_option maxHeartbeats 1000000 in
theorem stringsIndex_one (s : ByteArray) (c : UInt8) (w : World) :
    Calls Try.prog 103 #[.string s, .string ⟨#[c]⟩] w fun e w' => e = .returned (.int .i64 (Lib.indexByte s.data.toList c)) ∧ w = w' := by
  go_enter Try.func103, Try.ntmps103
  go_wp2_with (go_at_call 117; refine (liteIndex_one _ _ _).mono ?_; rintro e w' ⟨rfl, rfl⟩)
  go_ret
  exact ⟨rfl, rfl⟩
set_option maxHeartbeats 1000000 in
theorem stringsContains_one (s : ByteArray) (c : UInt8) (w : World) :
    Calls Try.prog 91 #[.string s, .string ⟨#[c]⟩] w fun e w' => e = .returned (.bool (decide (0 ≤ Lib.indexByte s.data.toList c))) ∧ w = w' := by
  go_enter Try.func91, Try.ntmps91
  go_wp2_with (go_at_call 103; refine (stringsIndex_one _ _ _).mono ?_; rintro e w' ⟨rfl, rfl⟩)
  go_ret
  exact ⟨rfl, rfl⟩
theorem lab_impl (b : UInt8) : labB b = (letB b.toNat || decide (0 ≤ Lib.indexByte [48, 49, 50, 51, 52, 53, 54, 55, 56, 57, 43, 45, 42, 47, 61, 40, 41, 46, 44] b)) := by
  have := u8_all (p := fun b => labB b == (letB b.toNat || decide (0 ≤ Lib.indexByte [48, 49, 50, 51, 52, 53, 54, 55, 56, 57, 43, 45, 42, 47, 61, 40, 41, 46, 44] b))) (by decide +kernel) b
  simpa using this
set_option maxHeartbeats 1000000 in
theorem implIsLabel_any (s : ByteArray) (w : World) (hs : s.size ≤ 9223372036854775807) :
    Calls Try.prog 69 #[.string s] w fun e w' => e = .returned (.bool (isLabelB s)) ∧ w = w' := by
  by_cases h1 : s.size = 1
  · obtain ⟨b, rfl⟩ := one_byte h1
    clear h1 hs
    have hb : isLabelB ⟨#[b]⟩ = labB b := rfl
    rw [hb, lab_impl b]
    clear hb
    have HL : ∀ w, Calls Try.prog 90 #[.int .u8 b.toNat] w fun e w' => e = .returned (.bool (letB b.toNat)) ∧ w = w' := fun w => isLetter_any _ w
    cases hl : letB b.toNat
    all_goals rw [hl] at HL
    · go_enter Try.func69, Try.ntmps69
      go_wp2_with (first | (go_at_call 90; refine (HL _).mono ?_; rintro e w' ⟨rfl, rfl⟩) | (go_at_call 91; refine (stringsContains_one _ _ _).mono ?_; rintro e w' ⟨rfl, rfl⟩))
      go_ret
      exact ⟨rfl, rfl⟩
    · go_enter Try.func69, Try.ntmps69
      go_wp2_with (first | (go_at_call 90; refine (HL _).mono ?_; rintro e w' ⟨rfl, rfl⟩) | (go_at_call 91; refine (stringsContains_one _ _ _).mono ?_; rintro e w' ⟨rfl, rfl⟩))
      go_ret
      exact ⟨rfl, rfl⟩
  · have h2 := isLabel_len h1
    have h1i : ((s.size : Int) == 1) = false := by rw [beq_eq_false_iff_ne]; omega
    clear h1
    have H2 := hid h2
    clear h2
    go_enter Try.func69, Try.ntmps69
    go_wp2_with fail
    go_ret
    exact ⟨by rw [H2.out]; rfl, rfl⟩
theorem specLabel_is {s : ByteArray} {b : Bool} (hs : s.size ≤ 9223372036854775807) (h : isLabelB s = b) (w : World) : Calls Try.prog 64 #[.string s] w fun e w' => e = .returned (.bool b) ∧ w = w' := by
  subst h; exact specIsLabel_any _ _ hs
theorem implLabel_is {s : ByteArray} {b : Bool} (hs : s.size ≤ 9223372036854775807) (h : isLabelB s = b) (w : World) : Calls Try.prog 69 #[.string s] w fun e w' => e = .returned (.bool b) ∧ w = w' := by
  subst h; exact implIsLabel_any _ _ hs
end Go.Proofs.Ytnhmailnnggmjaa
