/- slices.Clone and slices.Delete at []int64. -/
import Derived.Test.YtdifhnckhocmdaaWrInt64S
import Derived.Test.YtdifhnckhocmdaaApp
import Derived.Deep.RegionLaw
import Derived.Lib.SliceRun
namespace Go.Proofs.Ytdifhnckhocmdaa
open Go.RowKit

theorem infI : (Try.prog.info? 2).map (fun i => (i.zero, i.size, i.bytes)) = some (some (.int .i64 0), eI.sz, 8) := by kernel_rfl
set_option maxHeartbeats 1000000 in
theorem cloneI_any (v : Value) (x : XInt64S) (w : World) (h : Arr eI w v x) (ok : x.length ≤ 1048576) :
    Calls Try.prog 71 #[v] w fun e w' => ∃ u, e = .returned u ∧ Own eI 2 w.heap.size w' u x ∧ Below w.heap.size w w' := by
  obtain ⟨b, off, ao, cap, rfl, hnc, hcm, hao, hc⟩ := h
  unfold maxLen at hcm
  have q22 : ∀ (w : World) (a : Option Addr) (n c n' c' : Nat), (binOp .eql 41 (.slice a n c) (.slice none n' c')).run Try.prog w = .ok (.bool a.isNone) w := fun w a n c n' c' => Lib.run_eql_slice_nil w _ _ a n c n' c' Try.underlying41
  cases ao with
  | none =>
    have hx : x = [] := by
      cases x with
      | nil => rfl
      | cons a t => have := (hao (by simp)).1; simp at this
    subst hx
    go_enter Try.func71, Try.ntmps71
    go_wp2
    go_ret
    exact ⟨_, rfl, Own.nil _ _ _, Below.refl _ _⟩
  | some ad =>
    go_enter Try.func71, Try.ntmps71
    go_wp2_with (at_builtin; refine wpList_appE rfl _ _ 41 rfl w.heap.size 2 _ 8 infI Try.underlying41 rfl _ _ rfl (Own.empty _ _ (Nat.le_refl _)) ad x.length cap x rfl rfl ?qc2 (by unfold maxLen; simp; omega) (by simp; omega) (by simp) ?_)
    case qc2 =>
      intro j u hu
      have hlen := (List.getElem?_eq_some_iff.1 hu).1
      rw [Enc.flat_len] at hlen
      have hpos : 0 < x.length := by
        cases x with
        | nil => simp at hlen
        | cons a t => simp
      obtain ⟨h1, h2⟩ := hao hpos
      cases h1
      rw [Addr.add_lit]
      exact flat_cells (hc.below (below_alloc w _) h2) j u hu
    intro u w1 ho hb1
    go_wp2
    go_ret
    exact ⟨_, rfl, by simpa using ho, (below_alloc _ _).trans hb1⟩
theorem grown_trans {w1 w2 w3 : World} {g : Nat} (h1 : w1.grownBy w2 (some g)) (h2 : w2.grownBy w3 (some g)) : w1.grownBy w3 (some g) :=
  ⟨h2.os.trans h1.os, h2.tape.trans h1.tape, h2.output.trans h1.output, Nat.le_trans h1.size h2.size, fun k hk hne => (h2.block k (Nat.lt_of_lt_of_le hk h1.size) hne).trans (h1.block k hk hne)⟩

theorem erase_flat {α : Type} (E : Enc α) (x : List α) (k : Nat) (hk : k < x.length) (zs : List Value) :
    (setFrom (setFrom (E.flat x) (k * E.sz) (E.flat (x.drop (k + 1)))) ((x.length - 1) * E.sz) zs).take ((x.length - 1) * E.sz) = E.flat (x.eraseIdx k) := by
  rw [List.eraseIdx_eq_take_drop_succ, E.flat_append]
  have hl1 : (E.flat (x.take k)).length = k * E.sz := by rw [E.flat_len, List.length_take, Nat.min_eq_left (by omega)]
  have hl2 : (E.flat (x.drop (k + 1))).length = (x.length - 1) * E.sz - k * E.sz := by rw [E.flat_len, List.length_drop, ← Nat.sub_mul]; congr 1; omega
  have hle : k * E.sz ≤ (x.length - 1) * E.sz := Nat.mul_le_mul_right _ (by omega)
  have hle2 : (x.length - 1) * E.sz ≤ x.length * E.sz := Nat.mul_le_mul_right _ (by omega)
  have hsp : E.flat x = E.flat (x.take k) ++ E.flat (x.drop k) := by rw [← E.flat_append, List.take_append_drop]
  refine List.ext_getElem? fun i => ?_
  rw [List.getElem?_take]
  by_cases h : i < (x.length - 1) * E.sz
  · rw [if_pos h, setFrom_get, if_neg (by omega), setFrom_get, hl2, E.flat_len]
    by_cases h1 : i < k * E.sz
    · rw [if_neg (by omega), List.getElem?_append_left (by omega), hsp, List.getElem?_append_left (by omega)]
    · rw [if_pos (by omega), List.getElem?_append_right (by omega), hl1]
  · rw [if_neg h, List.getElem?_eq_none_iff.2 (by rw [List.length_append, hl1, hl2]; omega)]

theorem clearI (w : World) (ty : TypeId) (b o n c : Nat) (hn : n = 1) (hc : (w.cell? ⟨b, o, none⟩).isSome = true) (hf : w.frozen? ⟨b, o, none⟩ = false) :
    (Builtin.clear_ #[41] ty #[.slice (some ⟨b, o, none⟩) n c]).run Try.prog w = .ok (.tuple #[]) (w.setCells b o [.int .i64 0]) := by
  subst hn
  have hv : ∀ w, (zeroValue 2).run Try.prog w = .ok (.int .i64 0) w := by
    intro w
    obtain ⟨i, hi, hz, _, _⟩ := info_parts infI
    simp [zeroValue, typeInfo, hi, hz]
  have hzc : (Builtin.zeroCells (Value.int .i64 0).cells 1).toList = [.int .i64 0] := by
    refine List.ext_getElem (by simp [Builtin.zeroCells, Value.cells]) fun i h1 h2 => ?_
    simp at h2
    subst h2
    simp [Builtin.zeroCells, Value.cells]
  have hst := run_storeCells_cells (P := Try.prog) b o [.int .i64 0] 0 w (by intro j hj; simp at hj; subst hj; simpa using hc) (by intro j hj; simp at hj; subst hj; simpa using hf) (by intro v hv'; simp at hv'; subst hv'; rfl)
  simp only [Nat.add_zero] at hst
  simp [Builtin.clear_, run_underlying Try.underlying41, hv, hzc, hst]

set_option maxRecDepth 100000 in
set_option maxHeartbeats 2000000 in
theorem deleteI_any (g cap n k B : Nat) (x : XInt64S) (w : World) (h : Own eI 2 B w (.slice (some ⟨g, 0, none⟩) n cap) x) (hn : n = x.length) (hk : k < n) (ok : x.length ≤ 1048576) :
    Calls Try.prog 70 #[.slice (some ⟨g, 0, none⟩) n cap, .int .i64 k, .int .i64 ((k : Int) + 1)] w fun e w' => e = .returned (.slice (some ⟨g, 0, none⟩) (n - 1) cap) ∧ Own eI 2 B w' (.slice (some ⟨g, 0, none⟩) (n - 1) cap) (x.eraseIdx k) ∧ w.grownBy w' (some g) := by
  have ok' : n ≤ 1048576 := by rw [hn]; exact ok
  obtain ⟨b0, off0, ao0, cap0, hv0, hnc, hcm, _, _⟩ := h.arr
  have hcap : n ≤ cap ∧ cap ≤ 9223372036854775807 := by
    simp only [Value.slice.injEq] at hv0
    obtain ⟨_, _, rfl⟩ := hv0
    exact ⟨by omega, hcm⟩
  clear hv0 hnc hcm
  have hcells : ∀ j u, (eI.flat x)[j]? = some u → w.cell? ⟨g, j, none⟩ = some u := by
    intro j u hu
    have hlt := (List.getElem?_eq_some_iff.1 hu).1
    rw [eI.flat_len] at hlt
    have h' := h
    unfold Own at h'
    subst hn
    rw [World.ownsRow.cellAt h' j (by simpa using hlt), hu]
  have hflen : (eI.flat x).length = n := by rw [eI.flat_len, hn]; exact Nat.mul_one _
  have hfree := h.free hn
  obtain ⟨news, hnews⟩ : ∃ news, news = eI.flat (x.drop (k + 1)) := ⟨_, rfl⟩
  have hlen : news.length = n - (k + 1) := by rw [hnews, Enc.flat_len, List.length_drop, hn]; exact Nat.mul_one _
  obtain ⟨A, hA, hsrc⟩ : ∃ A : Addr, (if cap = k + 1 then some (⟨g, 0, none⟩ : Addr) else some ⟨g, k + 1, none⟩) = some A ∧ Hid (∀ t u, news[t]? = some u → w.drew.cell? (A.add t) = some u) := by
    by_cases hc1 : cap = k + 1
    · refine ⟨⟨g, 0, none⟩, by simp [hc1], fun t u hu => ?_⟩
      have h0 : news.length = 0 := by rw [hlen]; omega
      rw [List.length_eq_zero_iff.1 h0] at hu
      simp at hu
    · refine ⟨⟨g, k + 1, none⟩, by simp [hc1], fun t u hu => ?_⟩
      rw [Addr.add_lit]
      refine hcells _ u ?_
      rw [← hu, hnews]
      have hsp : eI.flat x = eI.flat (x.take (k + 1)) ++ eI.flat (x.drop (k + 1)) := by rw [← eI.flat_append, List.take_append_drop]
      have hl1 : (eI.flat (x.take (k + 1))).length = k + 1 := by rw [eI.flat_len, List.length_take, Nat.min_eq_left (by omega)]; exact Nat.mul_one _
      rw [hsp, List.getElem?_append_right (by omega), hl1]
      congr 1
      omega
  have s2 : Hid (∀ u ∈ news, u.oneCell' = true) := by rw [hnews]; exact eI.flat_one _
  have s1 : Hid (news.length = (n - (k + 1)) * 1) := by rw [Nat.mul_one]; exact hlen
  have s3 : Hid (∀ t, t < news.length → (w.drew.cell? ⟨g, 0 + k * 1 + t, none⟩).isSome = true ∧ w.drew.frozen? ⟨g, 0 + k * 1 + t, none⟩ = false) := by
    intro t ht
    rw [hlen] at ht
    obtain ⟨u, hu⟩ : ∃ u, (eI.flat x)[0 + k * 1 + t]? = some u := ⟨_, List.getElem?_eq_getElem (by rw [hflen]; omega)⟩
    exact ⟨by show (w.cell? _).isSome = true; rw [hcells _ u hu]; rfl, hfree _⟩
  obtain ⟨W1, hW1⟩ : ∃ W1, W1 = w.drew.setCells g (0 + k * 1) news := ⟨_, rfl⟩
  have hW : Hid (W1 = w.drew.setCells g (0 + k * 1) news) := hW1
  have O1 : W1.ownsRow B 2 1 (.slice (some ⟨g, 0, none⟩) n cap) n (setFrom (eI.flat x) k news) ∧ w.grownBy W1 (some g) := by
    subst hn
    have hd : w.drew.ownsRow B 2 1 (.slice (some ⟨g, 0, none⟩) x.length cap) x.length (eI.flat x) := h
    have h1 := ownsRow_stores news k hd
    rw [hW1, Nat.zero_add, Nat.mul_one, setCells_stores]
    exact ⟨h1.1, ⟨h1.2.os, h1.2.tape, h1.2.output, h1.2.size, h1.2.block⟩⟩
  have hsf : (setFrom (eI.flat x) k news).length = n := by have := O1.1.1; rw [Nat.mul_one] at this; exact this
  have hcl : ∀ ty, (Builtin.clear_ #[41] ty #[.slice (some ⟨g, k + (n - (k + 1)), none⟩) (n - (k + (n - (k + 1)))) (cap - (k + (n - (k + 1))))]).run Try.prog W1 = .ok (.tuple #[]) (W1.setCells g (k + (n - (k + 1))) [.int .i64 0]) := fun ty =>
    clearI W1 ty g _ _ _ (by omega) (by rw [World.ownsRow.cellAt O1.1 _ (by omega), List.getElem?_eq_getElem (by omega)]; rfl) (World.ownsRow.frozenAt O1.1 _)
  have hfin : Hid (Own eI 2 B (W1.setCells g (k + (n - (k + 1))) [.int .i64 0]) (.slice (some ⟨g, 0, none⟩) (n - 1) cap) (x.eraseIdx k) ∧ w.grownBy (W1.setCells g (k + (n - (k + 1))) [.int .i64 0]) (some g)) := by
    have h2 := ownsRow_stores [.int .i64 0] (k + (n - (k + 1))) O1.1
    rw [setCells_stores]
    refine ⟨?_, grown_trans O1.2 h2.2⟩
    have h3 := ownsRow_cut h2.1 (m := n - 1) (by omega)
    have h4 := erase_flat eI x k (by omega) [.int .i64 0]
    have e1 : k + (n - (k + 1)) = n - 1 := by omega
    simp only [show eI.sz = 1 from rfl, Nat.mul_one] at h3 h4
    rw [e1, hnews] at h3
    rw [← hn] at h4
    have h4' : (setFrom (setFrom (eI.flat x) k (eI.flat (x.drop (k + 1)))) (n - 1) [.int .i64 0]).take (n - 1) = eI.flat (x.eraseIdx k) := h4
    rw [h4'] at h3
    unfold Own
    rw [List.length_eraseIdx_of_lt (by omega), ← hn, e1]
    exact h3
  obtain ⟨i0, hi0, hz0, hz1, hz2⟩ := info_parts infI
  have HO := hid h
  have HN := hid hn
  have HNEWS := hid hnews
  clear h hn hW1 hfree hcells hnews hlen hflen O1 hsf
  have hic : k ≤ cap := by omega
  have hjc : k + 1 ≤ cap := by omega
  have hb0 : (0 : Int) ≤ (k : Int) + 1 := by omega
  have hb1 : (k : Int) + 1 ≤ (n : Int) := by omega
  go_enter Try.func70, Try.ntmps70
  go_wp2_with fail
  go_region_law (refine step_append_room rfl (.tmp 22) (.tmp 25) 41 rfl 2 i0 1 Try.underlying41 hi0 hz1 g 0 k cap (by simp [Act.eval, Act.put]) A (n - (k + 1)) (cap - (k + 1)) news (by simp [Act.eval, Act.put]) s1.out hsrc.out s2.out (by omega) s3.out ?_; rw [← hW.out])
  go_wp2
  go_ret
  refine ⟨?_, hfin.out⟩
  rw [show k + (n - (k + 1)) = n - 1 by omega]
  rfl

end Go.Proofs.Ytdifhnckhocmdaa
