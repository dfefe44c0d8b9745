/- Parts of InkOfGroup: whether a number is in a list; a stroke in memory of its own. -/
import Derived.Test.YtdadmphmpojjhaaInkSub
import Derived.Deep.Cut
namespace Go.Proofs.Ytdadmphmpojjhaa
open Go.RowKit

set_option maxRecDepth 100000 in
set_option maxHeartbeats 2000000 in
theorem l00Has_any (v : Value) (x : List Int) (n : Int) (w : World) (h : Arr eI w v x) : Calls Try.prog 26 #[v, .int .i64 n] w (Ret (.bool (decide (n ∈ x))) w) := by
  obtain ⟨b, off, ao, cap, rfl, hnc, hcm, hao, hc⟩ := h
  unfold maxLen at hcm
  go_enter Try.func26, Try.ntmps26
  go_wp2_with fail
  go_loopw [5] (fun i wr => ∃ k : Nat, k ≤ x.length ∧ i = .int .i64 k ∧ Hid (∀ j, j < k → x[j]? ≠ some n) ∧ wr = w) (fun i _ => x.length - (intOf i).toNat)
  case atStart => exact ⟨0, Nat.zero_le _, rfl, hid (fun j hj => by omega), rfl⟩
  case round =>
    obtain ⟨k, hk, rfl, HN, rfl⟩ := hrel
    by_cases hlt : k < x.length
    · have hli : (k : Int) < (x.length : Int) := by omega
      obtain ⟨hao', hbw⟩ := hao (by omega)
      subst hao'
      obtain ⟨c, hcc⟩ : ∃ c, x[k]? = some c := ⟨_, List.getElem?_eq_getElem hlt⟩
      have c0 := eI_cell hc hcc
      have HC := hid hcc
      clear hcc
      cases hq : (c == n)
      · go_wp2_with fail
        go_roundw
        case rel =>
          refine ⟨k + 1, by omega, by go_num, hid fun j hj e => ?_, by first | rfl | trivial⟩
          by_cases ej : j = k
          · subst ej
            rw [HC.out] at e
            rw [Option.some.inj e] at hq
            simp at hq
          · exact HN.out j (by omega) e
        case measure => simp [intOf]; omega
      · have hm : n ∈ x := by rw [beq_iff_eq] at hq; rw [← hq]; exact List.mem_of_getElem? HC.out
        have HM := hid (show decide (n ∈ x) = true by simpa using hm)
        clear hm
        go_wp2_with fail
        go_ret
        exact ⟨by rw [HM.out]; rfl, Below.refl _ _⟩
    · obtain rfl : k = x.length := by omega
      have hli : ¬ ((x.length : Int) < (x.length : Int)) := by omega
      have HM := hid (show decide (n ∈ x) = false by
        rw [decide_eq_false_iff_not]
        intro hm
        obtain ⟨j, hj⟩ := List.getElem?_of_mem hm
        exact HN.out j (List.getElem?_eq_some_iff.1 hj).1 hj)
      go_wp2_with fail
      go_ret
      exact ⟨by rw [HM.out]; rfl, Below.refl _ _⟩
theorem infPointG : (Try.prog.info? 59).map (fun i => (i.zero, i.size, i.bytes)) = some (some (.agg #[.int .i64 0, .int .i64 0, .int .i64 0]), ePoint.sz, 24) := by kernel_rfl
set_option maxRecDepth 100000 in
set_option maxHeartbeats 2000000 in
theorem l02OwnStroke_any (b off : Nat) (v : Value) (x : XStroke) (w : World) (c0 : w.cell? ⟨b, off, none⟩ = some v) (h : Arr ePoint w v x) (ok : x.length ≤ 1048576) :
    Calls Try.prog 27 #[.pointer (some ⟨b, off, none⟩)] w fun e w' => ∃ u, e = .returned (.agg #[u]) ∧ Own ePoint 59 w.heap.size w' u x ∧ Below w.heap.size w w' := by
  obtain ⟨sa, sc, hv⟩ := h.isSlice
  subst hv
  obtain ⟨W, hW⟩ : ∃ u, u = (w.alloc (.cells #[.slice none 0 0] 57)) := ⟨_, rfl⟩
  have hbW : Below w.heap.size w W := by rw [hW]; exact belowA1 _ _
  have q1 : Box W (w.heap.size) #[.slice none 0 0] 57 := by
    have hq := Box.new w #[.slice none 0 0] 57
    rw [hW]
    exact hq
  obtain ⟨p1, hp1⟩ : ∃ p, p = w.heap.size := ⟨_, rfl⟩
  rw [← hp1] at q1
  have hge1 : w.heap.size ≤ p1 := by omega
  have hlW : w.heap.size ≤ W.heap.size := hbW.size
  have hlp1 : p1 < W.heap.size := q1.lt
  have HP1 := hid hp1
  have HW := hid hW
  clear hW hp1
  have cW := cell_later hbW c0
  have cA := cell_alloc cW (.cells #[] 59)
  have hW := h.below hbW
  go_enter Try.func27, Try.ntmps27
  go_upto_region 1 with fail
  rw [← HP1.out, ← HW.out]
  go_wp2_with (at_builtin; (refine wpList_appA rfl _ _ 55 rfl W.heap.size 59 _ 24 infPointG Try.underlying55 rfl _ _ rfl (Own.empty (E := ePoint) 59 W (Nat.le_refl _)) _ x rfl (by exact hW.alloc _) (by unfold maxLen; simp; omega) (by simp; omega) (by simp) ?_))
  intro u w1 ho hbA htA
  obtain ⟨ua, uc, hu⟩ := ho.isSlice
  subst hu
  have bx := (q1.alloc (.cells #[] 59)).below hbA (Nat.lt_of_lt_of_le q1.lt (Nat.le_refl _))
  have b0 := bx.cell (j := 0) rfl
  have bf := bx.free
  go_wp2_with fail
  refine bodyPost_ret (v := .agg #[.slice ua x.length uc]) (by simp [results, Try.results27, go_sem, b0]) rfl ⟨_, rfl, (ho.setBelow (a := ⟨p1, 0, none⟩) (by show p1 < W.heap.size; exact q1.lt) _).mono hlW, ?_⟩
  exact ((hbW.trans ((below_alloc _ _).mono hlW)).trans (hbA.mono hlW)).setCell hge1 _
end Go.Proofs.Ytdadmphmpojjhaa
