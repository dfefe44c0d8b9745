/- Strings in a walk: conversions, words and labels. -/
import Derived.Test.YtlnoelbeaolikaaGreatRows
import Derived.Test.YtlnoelbeaolikaaGreatBase
import Derived.Lib.Strings
import Derived.Lib.Slices
import Derived.Lib.Walk
import Derived.Lib.Bytealg
namespace Go.Proofs.YtlnoelbeaolikaaGreat
open Go.RowKit

theorem conv_bytes {P : Program} (w : World) (src dst e : TypeId) (s : ByteArray) (hs : P.underlying src = some .string) (hd : P.underlying dst = some (.slice e)) (he : P.underlying e = some (.int .u8)) :
    ∃ cap w1, (convert src dst (.string s)).run P w = .ok (.slice (some ⟨w.heap.size, 0, none⟩) s.size cap) w1 ∧ Below w.heap.size w w1 ∧ w.heap.size < w1.heap.size ∧
      ∀ i b, s.data.toList[i]? = some b → w1.cell? ⟨w.heap.size, i, none⟩ = some (.int .u8 (b.toNat : Int)) := by
  refine ⟨_, _, run_bytes_of_string w src dst e s hs hd he, ?_, by simp, fun i b hb => ?_⟩
  · exact ((Below.refl _ _).drew).alloc (Nat.le_refl _) _
  · have hi : i < s.data.size := by simpa using (List.getElem?_eq_some_iff.1 hb).1
    have h0 : (w.drew.alloc (.cells (bytesRow s (grownCap w s.size 0 e)) e ((bytesRow s (grownCap w s.size 0 e)).size, (bytesRow s (grownCap w s.size 0 e)).size + 1))).heap[w.heap.size]? = some (.cells (bytesRow s (grownCap w s.size 0 e)) e ((bytesRow s (grownCap w s.size 0 e)).size, (bytesRow s (grownCap w s.size 0 e)).size + 1)) := heap_alloc_new w.drew _
    rw [cell_of_row _ _ _ _ _ _ h0]
    unfold bytesRow
    rw [Array.getElem?_append_left (by simpa using hi)]
    have h1 : s.data[i]? = some b := by simpa using hb
    simp [h1]

theorem len_toList (s : ByteArray) : s.data.toList.length = s.size := Array.length_toList
theorem byte_at (s : ByteArray) (i : Nat) (h : i < s.size) : s.data.toList[i]? = some s[i] := by
  rw [List.getElem?_eq_getElem (by rw [len_toList]; exact h)]; rfl

def letB (n : Int) : Bool := inB n 97 122
def isWordB (s : ByteArray) : Bool := s.data.toList.all (fun b => letB b.toNat) && inB s.size 1 10
theorem isWord_at {s : ByteArray} {i : Nat} {b : UInt8} (h : s.data.toList[i]? = some b) (hb : letB b.toNat = false) : isWordB s = false := by
  rw [isWordB, Bool.and_eq_false_iff]
  exact .inl (List.all_eq_false.2 ⟨b, List.mem_of_getElem? h, by simp [hb]⟩)
theorem isWord_all {s : ByteArray} (h : ∀ i b, i < s.size → s.data.toList[i]? = some b → letB b.toNat = true) : isWordB s = inB s.size 1 10 := by
  have : s.data.toList.all (fun b => letB b.toNat) = true := by
    rw [List.all_eq_true]
    intro b hb
    obtain ⟨i, hi⟩ := List.mem_iff_getElem?.1 hb
    exact h i b (by rw [← len_toList]; exact (List.getElem?_eq_some_iff.1 hi).1) hi
  rw [isWordB, this, Bool.true_and]

set_option maxHeartbeats 400000 in
theorem within_any (n l h : Int) (w : World) :
    Calls Tryz.prog 62 #[.int .i64 n, .int .i64 l, .int .i64 h] w fun e w' => e = .returned (.bool (inB n l h)) ∧ w = w' := by
  go_enter Tryz.func62, Tryz.ntmps62
  go_wp2
  · go_ret
    exact ⟨by rw [← inB_t (by assumption)]; rfl, rfl⟩
  · go_ret
    exact ⟨by rw [← inB_f (by assumption)]; rfl, rfl⟩
set_option maxHeartbeats 400000 in
theorem l00In_any (n l h : Int) (w : World) :
    Calls Tryz.prog 53 #[.int .i64 n, .int .i64 l, .int .i64 h] w fun e w' => e = .returned (.bool (inB n l h)) ∧ w = w' := by
  go_enter Tryz.func53, Tryz.ntmps53
  go_wp2
  · go_ret
    exact ⟨by rw [← inB_t (by assumption)]; rfl, rfl⟩
  · go_ret
    exact ⟨by rw [← inB_f (by assumption)]; rfl, rfl⟩
set_option maxHeartbeats 400000 in
theorem isLetter_any (n : Int) (w : World) :
    Calls Tryz.prog 147 #[.int .u8 n] w fun e w' => e = .returned (.bool (letB n)) ∧ w = w' := by
  go_enter Tryz.func147, Tryz.ntmps147
  go_wp2
  · go_ret
    exact ⟨by rw [letB, ← inB_t (by assumption)]; rfl, rfl⟩
  · go_ret
    exact ⟨by rw [letB, ← inB_f (by assumption)]; rfl, rfl⟩
set_option maxHeartbeats 400000 in
theorem l01Small_any (n : Int) (w : World) :
    Calls Tryz.prog 179 #[.int .u8 n] w fun e w' => e = .returned (.bool (letB n)) ∧ w = w' := by
  go_enter Tryz.func179, Tryz.ntmps179
  go_wp2
  · go_ret
    exact ⟨by rw [letB, ← inB_t (by assumption)]; rfl, rfl⟩
  · go_ret
    exact ⟨by rw [letB, ← inB_f (by assumption)]; rfl, rfl⟩
end Go.Proofs.YtlnoelbeaolikaaGreat
namespace Go.Proofs.YtlnoelbeaolikaaGreat
open Go.RowKit

def signL : List UInt8 := [43, 45, 42, 47, 61, 40, 41, 46, 44]
def labB (b : UInt8) : Bool := signL.contains b || (letB b.toNat || inB b.toNat 48 57)
def isLabelB (s : ByteArray) : Bool := match s.data.toList with
  | [b] => labB b
  | _ => false
theorem isLabel_len {s : ByteArray} (h : s.size ≠ 1) : isLabelB s = false := by
  unfold isLabelB
  split
  · rename_i b hb
    have := congrArg List.length hb
    rw [len_toList] at this
    simp at this
    omega
  · rfl
theorem one_byte {s : ByteArray} (h : s.size = 1) : ∃ b : UInt8, s = ⟨#[b]⟩ := by
  obtain ⟨⟨l⟩⟩ := s
  have : l.length = 1 := h
  obtain ⟨b, rfl⟩ := List.length_eq_one_iff.1 this
  exact ⟨b, rfl⟩
theorem u8_all {p : UInt8 → Bool} (h : (List.range 256).all (fun i => p (UInt8.ofNat i)) = true) (b : UInt8) : p b = true := by
  rw [List.all_eq_true] at h
  have := h b.toNat (by simp; exact UInt8.toNat_lt b)
  simpa using this
theorem lab_all (b : UInt8) : signL.contains b = ((b.toNat : Int) == 43 || (b.toNat : Int) == 45 || (b.toNat : Int) == 42 || (b.toNat : Int) == 47 || (b.toNat : Int) == 61 || (b.toNat : Int) == 40 || (b.toNat : Int) == 41 || (b.toNat : Int) == 46 || (b.toNat : Int) == 44) := by
  have := u8_all (p := fun b => signL.contains b == ((b.toNat : Int) == 43 || (b.toNat : Int) == 45 || (b.toNat : Int) == 42 || (b.toNat : Int) == 47 || (b.toNat : Int) == 61 || (b.toNat : Int) == 40 || (b.toNat : Int) == 41 || (b.toNat : Int) == 46 || (b.toNat : Int) == 44)) (by decide +kernel) b
  simpa using this
set_option maxHeartbeats 1000000 in
theorem l11Label_any (b : UInt8) (w : World) :
    Calls Tryz.prog 136 #[.int .u8 b.toNat] w fun e w' => e = .returned (.bool (labB b)) ∧ w = w' := by
  have hsg := lab_all b
  obtain ⟨n, hn⟩ : ∃ n : Int, n = (b.toNat : Int) := ⟨_, rfl⟩
  have hL : labB b = (signL.contains b || (letB n || inB n 48 57)) := by rw [hn]; rfl
  rw [hL, hsg, ← hn]
  clear hL hsg hn
  go_enter Tryz.func136, Tryz.ntmps136
  go_wp2_with (go_at_call 179; refine (l01Small_any _ _).mono ?_; rintro e w' ⟨rfl, rfl⟩)
  all_goals
    go_ret
    refine ⟨?_, rfl⟩
    simp [*, inB] <;> omega
set_option maxHeartbeats 400000 in
theorem specIsLabel_any (s : ByteArray) (w : World) (hs : s.size ≤ 9223372036854775807) :
    Calls Tryz.prog 90 #[.string s] w fun e w' => e = .returned (.bool (isLabelB s)) ∧ w = w' := by
  by_cases h1 : s.size = 1
  · obtain ⟨b, rfl⟩ := one_byte h1
    clear h1 hs
    go_enter Tryz.func90, Tryz.ntmps90
    go_wp2_with (go_at_call 136; refine (l11Label_any _ _).mono ?_; rintro e w' ⟨rfl, rfl⟩)
    go_ret
    exact ⟨rfl, rfl⟩
  · have h2 := isLabel_len h1
    have h1i : ((s.size : Int) == 1) = false := by rw [beq_eq_false_iff_ne]; omega
    clear h1
    have H2 := hid h2
    clear h2
    go_enter Tryz.func90, Tryz.ntmps90
    go_wp2_with fail
    go_ret
    exact ⟨by rw [H2.out]; rfl, rfl⟩
set_option maxHeartbeats 1000000 in
set_option maxRecDepth 100000 in
theorem liteIndexByte_any (s : ByteArray) (c : Int) (w : World) :
    Calls Tryz.prog 226 #[.string s, .int .u8 c] w fun e w' => e = .returned (.int .i64 (Lib.indexByte s.data.toList c.toNat.toUInt8)) ∧ w = w' := by
  go_enter Tryz.func226, Tryz.ntmps226
  go_wp2
  rw [run_callFunc_extern Tryz.func233 (by kernel_rfl) (by kernel_rfl) (by kernel_rfl) (e := Extern.BytealgIndexByte.indexByte) (by kernel_rfl), Lib.run_indexByteString]
  simp only [Result.andThen]
  rw [Oper.upon_value]
  go_wp2
  go_ret
  exact ⟨rfl, rfl⟩
set_option maxHeartbeats 2000000 in
set_option maxRecDepth 100000 in
theorem liteIndex_one (s : ByteArray) (c : UInt8) (w : World) :
    Calls Tryz.prog 214 #[.string s, .string ⟨#[c]⟩] w fun e w' => e = .returned (.int .i64 (Lib.indexByte s.data.toList c)) ∧ w = w' := by
  go_enter Tryz.func214, Tryz.ntmps214
  go_wp2_with (go_at_call 226; refine (liteIndexByte_any _ _ _).mono ?_; rintro e w' ⟨rfl, rfl⟩)
  · have h : ([c] == s.toList) = true := by assumption
    go_ret
    refine ⟨?_, rfl⟩
    have e : s.data.toList = [c] := by rw [← Lib.toList_data]; exact (beq_iff_eq.1 h).symm
    rw [e]
    simp [Lib.indexByte]
  · go_ret
    exact ⟨rfl, rfl⟩
set_option maxHeartbeats 1000000 in
theorem stringsIndex_one (s : ByteArray) (c : UInt8) (w : World) :
    Calls Tryz.prog 188 #[.string s, .string ⟨#[c]⟩] w fun e w' => e = .returned (.int .i64 (Lib.indexByte s.data.toList c)) ∧ w = w' := by
  go_enter Tryz.func188, Tryz.ntmps188
  go_wp2_with (go_at_call 214; refine (liteIndex_one _ _ _).mono ?_; rintro e w' ⟨rfl, rfl⟩)
  go_ret
  exact ⟨rfl, rfl⟩
set_option maxHeartbeats 1000000 in
theorem stringsContains_one (s : ByteArray) (c : UInt8) (w : World) :
    Calls Tryz.prog 148 #[.string s, .string ⟨#[c]⟩] w fun e w' => e = .returned (.bool (decide (0 ≤ Lib.indexByte s.data.toList c))) ∧ w = w' := by
  go_enter Tryz.func148, Tryz.ntmps148
  go_wp2_with (go_at_call 188; refine (stringsIndex_one _ _ _).mono ?_; rintro e w' ⟨rfl, rfl⟩)
  go_ret
  exact ⟨rfl, rfl⟩
theorem lab_impl (b : UInt8) : labB b = (letB b.toNat || decide (0 ≤ Lib.indexByte [48, 49, 50, 51, 52, 53, 54, 55, 56, 57, 43, 45, 42, 47, 61, 40, 41, 46, 44] b)) := by
  have := u8_all (p := fun b => labB b == (letB b.toNat || decide (0 ≤ Lib.indexByte [48, 49, 50, 51, 52, 53, 54, 55, 56, 57, 43, 45, 42, 47, 61, 40, 41, 46, 44] b))) (by decide +kernel) b
  simpa using this
set_option maxHeartbeats 1000000 in
theorem implIsLabel_any (s : ByteArray) (w : World) (hs : s.size ≤ 9223372036854775807) :
    Calls Tryz.prog 102 #[.string s] w fun e w' => e = .returned (.bool (isLabelB s)) ∧ w = w' := by
  by_cases h1 : s.size = 1
  · obtain ⟨b, rfl⟩ := one_byte h1
    clear h1 hs
    have hb : isLabelB ⟨#[b]⟩ = labB b := rfl
    rw [hb, lab_impl b]
    clear hb
    have HL : ∀ w, Calls Tryz.prog 147 #[.int .u8 b.toNat] w fun e w' => e = .returned (.bool (letB b.toNat)) ∧ w = w' := fun w => isLetter_any _ w
    cases hl : letB b.toNat
    all_goals rw [hl] at HL
    · go_enter Tryz.func102, Tryz.ntmps102
      go_wp2_with (first | (go_at_call 147; refine (HL _).mono ?_; rintro e w' ⟨rfl, rfl⟩) | (go_at_call 148; refine (stringsContains_one _ _ _).mono ?_; rintro e w' ⟨rfl, rfl⟩))
      go_ret
      exact ⟨rfl, rfl⟩
    · go_enter Tryz.func102, Tryz.ntmps102
      go_wp2_with (first | (go_at_call 147; refine (HL _).mono ?_; rintro e w' ⟨rfl, rfl⟩) | (go_at_call 148; refine (stringsContains_one _ _ _).mono ?_; rintro e w' ⟨rfl, rfl⟩))
      go_ret
      exact ⟨rfl, rfl⟩
  · have h2 := isLabel_len h1
    have h1i : ((s.size : Int) == 1) = false := by rw [beq_eq_false_iff_ne]; omega
    clear h1
    have H2 := hid h2
    clear h2
    go_enter Tryz.func102, Tryz.ntmps102
    go_wp2_with fail
    go_ret
    exact ⟨by rw [H2.out]; rfl, rfl⟩
theorem specLabel_is {s : ByteArray} {b : Bool} (hs : s.size ≤ 9223372036854775807) (h : isLabelB s = b) (w : World) : Calls Tryz.prog 90 #[.string s] w fun e w' => e = .returned (.bool b) ∧ w = w' := by
  subst h; exact specIsLabel_any _ _ hs
theorem implLabel_is {s : ByteArray} {b : Bool} (hs : s.size ≤ 9223372036854775807) (h : isLabelB s = b) (w : World) : Calls Tryz.prog 102 #[.string s] w fun e w' => e = .returned (.bool b) ∧ w = w' := by
  subst h; exact implIsLabel_any _ _ hs
end Go.Proofs.YtlnoelbeaolikaaGreat
