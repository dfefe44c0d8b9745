/- Strings in a walk: conversions, words and labels. -/
import Derived.Test.YtkgfonchklnckaaRows
import Derived.Test.YtkgfonchklnckaaBase
namespace Go.Proofs.Ytkgfonchklnckaa
open Go.RowKit

theorem conv_bytes {P : Program} (w : World) (src dst e : TypeId) (s : ByteArray) (hs : P.underlying src = some .string) (hd : P.underlying dst = some (.slice e)) (he : P.underlying e = some (.int .u8)) :
    ∃ cap w1, (convert src dst (.string s)).run P w = .ok (.slice (some ⟨w.heap.size, 0, none⟩) s.size cap) w1 ∧ Below w.heap.size w w1 ∧ w.heap.size < w1.heap.size ∧
      ∀ i b, s.data.toList[i]? = some b → w1.cell? ⟨w.heap.size, i, none⟩ = some (.int .u8 (b.toNat : Int)) := by
  refine ⟨_, _, run_bytes_of_string w src dst e s hs hd he, ?_, by simp, fun i b hb => ?_⟩
  · exact ((Below.refl _ _).drew).alloc (Nat.le_refl _) _
  · have hi : i < s.data.size := by simpa using (List.getElem?_eq_some_iff.1 hb).1
    have h0 : (w.drew.alloc (.cells (bytesRow s (grownCap w s.size 0 e)) e ((bytesRow s (grownCap w s.size 0 e)).size, (bytesRow s (grownCap w s.size 0 e)).size + 1))).heap[w.heap.size]? = some (.cells (bytesRow s (grownCap w s.size 0 e)) e ((bytesRow s (grownCap w s.size 0 e)).size, (bytesRow s (grownCap w s.size 0 e)).size + 1)) := heap_alloc_new w.drew _
    rw [cell_of_row _ _ _ _ _ _ h0]
    unfold bytesRow
    rw [Array.getElem?_append_left (by simpa using hi)]
    have h1 : s.data[i]? = some b := by simpa using hb
    simp [h1]

theorem len_toList (s : ByteArray) : s.data.toList.length = s.size := Array.length_toList
theorem byte_at (s : ByteArray) (i : Nat) (h : i < s.size) : s.data.toList[i]? = some s[i] := by
  rw [List.getElem?_eq_getElem (by rw [len_toList]; exact h)]; rfl

def letB (n : Int) : Bool := inB n 97 122
def isWordB (s : ByteArray) : Bool := s.data.toList.all (fun b => letB b.toNat) && inB s.size 1 10
theorem isWord_at {s : ByteArray} {i : Nat} {b : UInt8} (h : s.data.toList[i]? = some b) (hb : letB b.toNat = false) : isWordB s = false := by
  rw [isWordB, Bool.and_eq_false_iff]
  exact .inl (List.all_eq_false.2 ⟨b, List.mem_of_getElem? h, by simp [hb]⟩)
theorem isWord_all {s : ByteArray} (h : ∀ i b, i < s.size → s.data.toList[i]? = some b → letB b.toNat = true) : isWordB s = inB s.size 1 10 := by
  have : s.data.toList.all (fun b => letB b.toNat) = true := by
    rw [List.all_eq_true]
    intro b hb
    obtain ⟨i, hi⟩ := List.mem_iff_getElem?.1 hb
    exact h i b (by rw [← len_toList]; exact (List.getElem?_eq_some_iff.1 hi).1) hi
  rw [isWordB, this, Bool.true_and]

set_option maxHeartbeats 400000 in
theorem within_any (n l h : Int) (w : World) :
    Calls Try.prog 35 #[.int .i64 n, .int .i64 l, .int .i64 h] w fun e w' => e = .returned (.bool (inB n l h)) ∧ w = w' := by
  go_enter Try.func35, Try.ntmps35
  go_wp2
  · go_ret
    exact ⟨by rw [← inB_t (by assumption)]; rfl, rfl⟩
  · go_ret
    exact ⟨by rw [← inB_f (by assumption)]; rfl, rfl⟩
set_option maxHeartbeats 400000 in
theorem l00In_any (n l h : Int) (w : World) :
    Calls Try.prog 39 #[.int .i64 n, .int .i64 l, .int .i64 h] w fun e w' => e = .returned (.bool (inB n l h)) ∧ w = w' := by
  go_enter Try.func39, Try.ntmps39
  go_wp2
  · go_ret
    exact ⟨by rw [← inB_t (by assumption)]; rfl, rfl⟩
  · go_ret
    exact ⟨by rw [← inB_f (by assumption)]; rfl, rfl⟩
set_option maxHeartbeats 400000 in
theorem isCost_any (n : Int) (w : World) :
    Calls Try.prog 42 #[.int .i64 n] w fun e w' => e = .returned (.bool (inB n 0 1000000)) ∧ w = w' := by
  go_enter Try.func42, Try.ntmps42
  go_wp2_with (go_at_call 35; refine (within_any _ _ _ _).mono ?_; rintro e w' ⟨rfl, rfl⟩)
  go_ret
  exact ⟨rfl, rfl⟩
set_option maxHeartbeats 400000 in
theorem isLetter_any (n : Int) (w : World) :
    Calls Try.prog 53 #[.int .u8 n] w fun e w' => e = .returned (.bool (letB n)) ∧ w = w' := by
  go_enter Try.func53, Try.ntmps53
  go_wp2
  · go_ret
    exact ⟨by rw [letB, ← inB_t (by assumption)]; rfl, rfl⟩
  · go_ret
    exact ⟨by rw [letB, ← inB_f (by assumption)]; rfl, rfl⟩
set_option maxHeartbeats 400000 in
theorem l01Small_any (n : Int) (w : World) :
    Calls Try.prog 64 #[.int .u8 n] w fun e w' => e = .returned (.bool (letB n)) ∧ w = w' := by
  go_enter Try.func64, Try.ntmps64
  go_wp2
  · go_ret
    exact ⟨by rw [letB, ← inB_t (by assumption)]; rfl, rfl⟩
  · go_ret
    exact ⟨by rw [letB, ← inB_f (by assumption)]; rfl, rfl⟩
end Go.Proofs.Ytkgfonchklnckaa
