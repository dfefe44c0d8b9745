/- slices.Clone and slices.Delete at []int64. -/
import Derived.Test.YtdifhnckhocmdabGreatWrInt64S
import Derived.Test.YtdifhnckhocmdabGreatApp
import Derived.Deep.RegionLaw
import Derived.Lib.SliceRun
namespace Go.Proofs.YtdifhnckhocmdabGreat
open Go.RowKit

theorem infI : (Tryz.prog.info? 2).map (fun i => (i.zero, i.size, i.bytes)) = some (some (.int .i64 0), eI.sz, 8) := by kernel_rfl
set_option maxHeartbeats 1000000 in
theorem cloneI_any (v : Value) (x : XInt64S) (w : World) (h : Arr eI w v x) (ok : x.length ≤ 1048576) :
    Calls Tryz.prog 59 #[v] w fun e w' => ∃ u, e = .returned u ∧ Own eI 2 w.heap.size w' u x ∧ Below w.heap.size w w' := by
  obtain ⟨b, off, ao, cap, rfl, hnc, hcm, hao, hc⟩ := h
  unfold maxLen at hcm
  have q22 : ∀ (w : World) (a : Option Addr) (n c n' c' : Nat), (binOp .eql 40 (.slice a n c) (.slice none n' c')).run Tryz.prog w = .ok (.bool a.isNone) w := fun w a n c n' c' => Lib.run_eql_slice_nil w _ _ a n c n' c' Tryz.underlying40
  cases ao with
  | none =>
    have hx : x = [] := by
      cases x with
      | nil => rfl
      | cons a t => have := (hao (by simp)).1; simp at this
    subst hx
    go_enter Tryz.func59, Tryz.ntmps59
    go_wp2
    go_ret
    exact ⟨_, rfl, Own.nil _ _ _, Below.refl _ _⟩
  | some ad =>
    go_enter Tryz.func59, Tryz.ntmps59
    go_wp2_with (at_builtin; refine wpList_appE rfl _ _ 40 rfl w.heap.size 2 _ 8 infI Tryz.underlying40 rfl _ _ rfl (Own.empty _ _ (Nat.le_refl _)) ad x.length cap x rfl rfl ?qc2 (by unfold maxLen; simp; omega) (by simp; omega) (by simp) ?_)
    case qc2 =>
      intro j u hu
      have hlen := (List.getElem?_eq_some_iff.1 hu).1
      rw [Enc.flat_len] at hlen
      have hpos : 0 < x.length := by
        cases x with
        | nil => simp at hlen
        | cons a t => simp
      obtain ⟨h1, h2⟩ := hao hpos
      cases h1
      rw [Addr.add_lit]
      exact flat_cells (hc.below (below_alloc w _) h2) j u hu
    intro u w1 ho hb1
    go_wp2
    go_ret
    exact ⟨_, rfl, by simpa using ho, (below_alloc _ _).trans hb1⟩
theorem grown_trans {w1 w2 w3 : World} {g : Nat} (h1 : w1.grownBy w2 (some g)) (h2 : w2.grownBy w3 (some g)) : w1.grownBy w3 (some g) :=
  ⟨h2.os.trans h1.os, h2.tape.trans h1.tape, h2.output.trans h1.output, Nat.le_trans h1.size h2.size, fun k hk hne => (h2.block k (Nat.lt_of_lt_of_le hk h1.size) hne).trans (h1.block k hk hne)⟩

theorem erase_flat {α : Type} (E : Enc α) (x : List α) (k : Nat) (hk : k < x.length) (zs : List Value) :
    (setFrom (setFrom (E.flat x) (k * E.sz) (E.flat (x.drop (k + 1)))) ((x.length - 1) * E.sz) zs).take ((x.length - 1) * E.sz) = E.flat (x.eraseIdx k) := by
  rw [List.eraseIdx_eq_take_drop_succ, E.flat_append]
  have hl1 : (E.flat (x.take k)).length = k * E.sz := by rw [E.flat_len, List.length_take, Nat.min_eq_left (by omega)]
  have hl2 : (E.flat (x.drop (k + 1))).length = (x.length - 1) * E.sz - k * E.sz := by rw [E.flat_len, List.length_drop, ← Nat.sub_mul]; congr 1; omega
  have hle : k * E.sz ≤ (x.length - 1) * E.sz := Nat.mul_le_mul_right _ (by omega)
  have hle2 : (x.length - 1) * E.sz ≤ x.length * E.sz := Nat.mul_le_mul_right _ (by omega)
  have hsp : E.flat x = E.flat (x.take k) ++ E.flat (x.drop k) := by rw [← E.flat_append, List.take_append_drop]
  refine List.ext_getElem? fun i => ?_
  rw [List.getElem?_take]
  by_cases h : i < (x.length - 1) * E.sz
  · rw [if_pos h, setFrom_get, if_neg (by omega), setFrom_get, hl2, E.flat_len]
    by_cases h1 : i < k * E.sz
    · rw [if_neg (by omega), List.getElem?_append_left (by omega), hsp, List.getElem?_append_left (by omega)]
    · rw [if_pos (by omega), List.getElem?_append_right (by omega), hl1]
  · rw [if_neg h, List.getElem?_eq_none_iff.2 (by rw [List.length_append, hl1, hl2]; omega)]


end Go.Proofs.YtdifhnckhocmdabGreat
