/- slices.Clone at []string. -/
import Derived.Test.YtdifhnckhocmdaaWrStringS
import Derived.Test.YtdifhnckhocmdaaApp
import Derived.Lib.SliceRun
namespace Go.Proofs.Ytdifhnckhocmdaa
open Go.RowKit

theorem infStr : (Try.prog.info? 9).map (fun i => (i.zero, i.size, i.bytes)) = some (some (.string ByteArray.empty), eStr.sz, 16) := by kernel_rfl
theorem infRow : (Try.prog.info? 41).map (fun i => (i.zero, i.size, i.bytes)) = some (some (.slice none 0 0), 1, 24) := by kernel_rfl
set_option maxHeartbeats 1000000 in
theorem cloneStr_any (v : Value) (x : XStringS) (w : World) (h : Arr eStr w v x) (ok : x.length ≤ 1048576) :
    Calls Try.prog 54 #[v] w fun e w' => ∃ u, e = .returned u ∧ Own eStr 9 w.heap.size w' u x ∧ Below w.heap.size w w' := by
  obtain ⟨b, off, ao, cap, rfl, hnc, hcm, hao, hc⟩ := h
  unfold maxLen at hcm
  have q22 : ∀ (w : World) (a : Option Addr) (n c n' c' : Nat), (binOp .eql 22 (.slice a n c) (.slice none n' c')).run Try.prog w = .ok (.bool a.isNone) w := fun w a n c n' c' => Lib.run_eql_slice_nil w _ _ a n c n' c' Try.underlying22
  cases ao with
  | none =>
    have hx : x = [] := by
      cases x with
      | nil => rfl
      | cons a t => have := (hao (by simp)).1; simp at this
    subst hx
    go_enter Try.func54, Try.ntmps54
    go_wp2
    go_ret
    exact ⟨_, rfl, Own.nil _ _ _, Below.refl _ _⟩
  | some ad =>
    go_enter Try.func54, Try.ntmps54
    go_wp2_with (at_builtin; refine wpList_appE rfl _ _ 22 rfl w.heap.size 9 _ 16 infStr Try.underlying22 rfl _ _ rfl (Own.empty _ _ (Nat.le_refl _)) ad x.length cap x rfl rfl ?qc2 (by unfold maxLen; simp; omega) (by simp; omega) (by simp) ?_)
    case qc2 =>
      intro j u hu
      have hlen := (List.getElem?_eq_some_iff.1 hu).1
      rw [Enc.flat_len] at hlen
      have hpos : 0 < x.length := by
        cases x with
        | nil => simp at hlen
        | cons a t => simp
      obtain ⟨h1, h2⟩ := hao hpos
      cases h1
      rw [Addr.add_lit]
      exact flat_cells (hc.below (below_alloc w _) h2) j u hu
    intro u w1 ho hb1
    go_wp2
    go_ret
    exact ⟨_, rfl, by simpa using ho, (below_alloc _ _).trans hb1⟩
end Go.Proofs.Ytdifhnckhocmdaa
