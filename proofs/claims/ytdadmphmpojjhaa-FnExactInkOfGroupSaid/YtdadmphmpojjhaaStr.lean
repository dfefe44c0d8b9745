/- Strings in a walk: conversions, words and labels. -/
import Derived.Test.YtdadmphmpojjhaaRows
import Derived.Test.YtdadmphmpojjhaaBase
import Derived.Lib.Strings
import Derived.Lib.Slices
import Derived.Lib.Walk
import Derived.Lib.Bytealg
namespace Go.Proofs.Ytdadmphmpojjhaa
open Go.RowKit

theorem conv_bytes {P : Program} (w : World) (src dst e : TypeId) (s : ByteArray) (hs : P.underlying src = some .string) (hd : P.underlying dst = some (.slice e)) (he : P.underlying e = some (.int .u8)) :
    ∃ cap w1, (convert src dst (.string s)).run P w = .ok (.slice (some ⟨w.heap.size, 0, none⟩) s.size cap) w1 ∧ Below w.heap.size w w1 ∧ w.heap.size < w1.heap.size ∧
      ∀ i b, s.data.toList[i]? = some b → w1.cell? ⟨w.heap.size, i, none⟩ = some (.int .u8 (b.toNat : Int)) := by
  refine ⟨_, _, run_bytes_of_string w src dst e s hs hd he, ?_, by simp, fun i b hb => ?_⟩
  · exact ((Below.refl _ _).drew).alloc (Nat.le_refl _) _
  · have hi : i < s.data.size := by simpa using (List.getElem?_eq_some_iff.1 hb).1
    have h0 : (w.drew.alloc (.cells (bytesRow s (grownCap w s.size 0 e)) e ((bytesRow s (grownCap w s.size 0 e)).size, (bytesRow s (grownCap w s.size 0 e)).size + 1))).heap[w.heap.size]? = some (.cells (bytesRow s (grownCap w s.size 0 e)) e ((bytesRow s (grownCap w s.size 0 e)).size, (bytesRow s (grownCap w s.size 0 e)).size + 1)) := heap_alloc_new w.drew _
    rw [cell_of_row _ _ _ _ _ _ h0]
    unfold bytesRow
    rw [Array.getElem?_append_left (by simpa using hi)]
    have h1 : s.data[i]? = some b := by simpa using hb
    simp [h1]

theorem len_toList (s : ByteArray) : s.data.toList.length = s.size := Array.length_toList
theorem byte_at (s : ByteArray) (i : Nat) (h : i < s.size) : s.data.toList[i]? = some s[i] := by
  rw [List.getElem?_eq_getElem (by rw [len_toList]; exact h)]; rfl

def letB (n : Int) : Bool := inB n 97 122
def isWordB (s : ByteArray) : Bool := s.data.toList.all (fun b => letB b.toNat) && inB s.size 1 10
theorem isWord_at {s : ByteArray} {i : Nat} {b : UInt8} (h : s.data.toList[i]? = some b) (hb : letB b.toNat = false) : isWordB s = false := by
  rw [isWordB, Bool.and_eq_false_iff]
  exact .inl (List.all_eq_false.2 ⟨b, List.mem_of_getElem? h, by simp [hb]⟩)
theorem isWord_all {s : ByteArray} (h : ∀ i b, i < s.size → s.data.toList[i]? = some b → letB b.toNat = true) : isWordB s = inB s.size 1 10 := by
  have : s.data.toList.all (fun b => letB b.toNat) = true := by
    rw [List.all_eq_true]
    intro b hb
    obtain ⟨i, hi⟩ := List.mem_iff_getElem?.1 hb
    exact h i b (by rw [← len_toList]; exact (List.getElem?_eq_some_iff.1 hi).1) hi
  rw [isWordB, this, Bool.true_and]

set_option maxHeartbeats 400000 in
theorem within_any (n l h : Int) (w : World) :
    Calls Try.prog 56 #[.int .i64 n, .int .i64 l, .int .i64 h] w fun e w' => e = .returned (.bool (inB n l h)) ∧ w = w' := by
  go_enter Try.func56, Try.ntmps56
  go_wp2
  · go_ret
    exact ⟨by rw [← inB_t (by assumption)]; rfl, rfl⟩
  · go_ret
    exact ⟨by rw [← inB_f (by assumption)]; rfl, rfl⟩
set_option maxHeartbeats 400000 in
theorem l00In_any (n l h : Int) (w : World) :
    Calls Try.prog 40 #[.int .i64 n, .int .i64 l, .int .i64 h] w fun e w' => e = .returned (.bool (inB n l h)) ∧ w = w' := by
  go_enter Try.func40, Try.ntmps40
  go_wp2
  · go_ret
    exact ⟨by rw [← inB_t (by assumption)]; rfl, rfl⟩
  · go_ret
    exact ⟨by rw [← inB_f (by assumption)]; rfl, rfl⟩
end Go.Proofs.Ytdadmphmpojjhaa
namespace Go.Proofs.Ytdadmphmpojjhaa
open Go.RowKit

def signL : List UInt8 := [43, 45, 42, 47, 61, 40, 41, 46, 44]
def labB (b : UInt8) : Bool := signL.contains b || (letB b.toNat || inB b.toNat 48 57)
def isLabelB (s : ByteArray) : Bool := match s.data.toList with
  | [b] => labB b
  | _ => false
theorem isLabel_len {s : ByteArray} (h : s.size ≠ 1) : isLabelB s = false := by
  unfold isLabelB
  split
  · rename_i b hb
    have := congrArg List.length hb
    rw [len_toList] at this
    simp at this
    omega
  · rfl
theorem one_byte {s : ByteArray} (h : s.size = 1) : ∃ b : UInt8, s = ⟨#[b]⟩ := by
  obtain ⟨⟨l⟩⟩ := s
  have : l.length = 1 := h
  obtain ⟨b, rfl⟩ := List.length_eq_one_iff.1 this
  exact ⟨b, rfl⟩
theorem u8_all {p : UInt8 → Bool} (h : (List.range 256).all (fun i => p (UInt8.ofNat i)) = true) (b : UInt8) : p b = true := by
  rw [List.all_eq_true] at h
  have := h b.toNat (by simp; exact UInt8.toNat_lt b)
  simpa using this
end Go.Proofs.Ytdadmphmpojjhaa
