/- The reference's order of readings. -/
import Derived.Test.YtcikndmmbfompaaGreatDoorFwPlain
import Derived.Test.YtcikndmmbfompaaGreatDoorRep
import Derived.Test.YtcikndmmbfompaaGreatDoorSortOwn
import Derived.Deep.RegionHeld3
namespace Go.Proofs.YtcikndmmbfompaaGreatDoor
open Go.RowKit

set_option maxHeartbeats 2000000 in
theorem l15Before_any (t1 t2 : ByteArray) (c1 c2 : Int) (w : World) :
    Calls Tryz.prog 56 #[.agg #[.string t1, .int .i64 c1], .agg #[.string t2, .int .i64 c2]] w (Ret (.bool (befR c1 t1 c2 t2)) w) := by
  have hb : Below w.heap.size w ((w.alloc (.cells #[.string t1, .int .i64 c1] 74)).alloc (.cells #[.string t2, .int .i64 c2] 74)) := belowA2 _ _ _
  by_cases hc : c1 = c2
  · subst hc
    by_cases hl : t1.size = t2.size
    · have hl' : ((t1.size : Int) == (t2.size : Int)) = true := by rw [beq_iff_eq]; omega
      have HV : Hid (befR c1 t1 c1 t2 = ltB t1 t2) := by show _ = _; simp [befR, hl]
      clear hl
      go_enter Tryz.func56, Tryz.ntmps56
      go_wp2
      go_ret
      exact ret_bool HV.out.symm hb
    · have hl' : ((t1.size : Int) == (t2.size : Int)) = false := by rw [beq_eq_false_iff_ne]; omega
      have HV : Hid (befR c1 t1 c1 t2 = decide (t1.size < t2.size)) := by show _ = _; simp [befR, hl]
      clear hl
      go_enter Tryz.func56, Tryz.ntmps56
      go_wp2
      go_ret
      exact ret_bool HV.out.symm hb
  · have hc' : (c1 == c2) = false := by rw [beq_eq_false_iff_ne]; exact hc
    have HV : Hid (befR c1 t1 c2 t2 = decide (c1 < c2)) := by show _ = _; simp [befR, hc]
    clear hc
    go_enter Tryz.func56, Tryz.ntmps56
    go_wp2
    go_ret
    exact ret_bool HV.out.symm hb
end Go.Proofs.YtcikndmmbfompaaGreatDoor
namespace Go.Proofs.YtcikndmmbfompaaGreatDoor
open Go.RowKit Go.Sort
attribute [local go_sem ↓] Go.wp_at_zero Go.wp_at_succ

instance : Inhabited DFound := ⟨fz⟩
theorem infFound : (Tryz.prog.info? 48).map (fun i => (i.zero, i.size, i.bytes)) = some (some (.agg #[.string ByteArray.empty, .int .i64 0, .int .i64 0]), eFound.sz, 32) := by kernel_rfl
theorem own_cells {α : Type} {E : Enc α} {e : TypeId} {B g n cap : Nat} {w : World} {X : List α} (h : Own E e B w (.slice (some ⟨g, 0, none⟩) n cap) X) (hn : n = X.length) : Cells E w g 0 X ∧ X.length ≤ cap := by
  obtain ⟨b, off, ao, c, hv, hl, _, hao, hc⟩ := h.arr
  simp only [Value.slice.injEq] at hv
  obtain ⟨h1, _, rfl⟩ := hv
  refine ⟨?_, hl⟩
  cases X with
  | nil => intro k x hx; simp at hx
  | cons a t =>
    have := (hao (by simp)).1
    rw [← h1] at this
    cases this
    exact hc
set_option maxHeartbeats 2000000 in
theorem compareFound_lays (a b : DFound) (w : World) :
    Calls Tryz.prog 44 #[.agg #[.string a.word, .int .i64 a.path, .int .i64 a.own_], .agg #[.string b.word, .int .i64 b.path, .int .i64 b.own_]] w fun e w' => e = .returned (.int .i64 (ordF a b)) ∧ ∃ q os', w' = grow (w.drewN q) os' := by
  obtain ⟨wa, hwa⟩ : ∃ x, x = IntKind.i64.wrap (a.path + a.own_) := ⟨_, rfl⟩
  obtain ⟨wb, hwb⟩ : ∃ x, x = IntKind.i64.wrap (b.path + b.own_) := ⟨_, rfl⟩
  have HO : Hid (ordF a b = orL [cmpI wa wb, cmpI a.word.size b.word.size, cmpB a.word b.word]) := hid (by rw [hwa, hwb]; rfl)
  have hwa' := hwa.symm
  have hwb' := hwb.symm
  clear hwa hwb
  go_enter Tryz.func44, Tryz.ntmps44
  go_wp2
  obtain ⟨w1, hw1⟩ : ∃ w1, w1 = ((w.alloc (.cells #[.string a.word, .int .i64 a.path, .int .i64 a.own_] 48)).alloc (.cells #[.string b.word, .int .i64 b.path, .int .i64 b.own_] 48)) := ⟨_, rfl⟩
  have hg1 : Hid (w1 = grow w #[.cells #[.string a.word, .int .i64 a.path, .int .i64 a.own_] 48, .cells #[.string b.word, .int .i64 b.path, .int .i64 b.own_] 48]) := hid (by rw [hw1, alloc_eq_grow, alloc_eq_grow, grow_grow]; rfl)
  have c0 : w1.cell? ⟨w.heap.size, 0, none⟩ = some (.string a.word) := by rw [hw1]; simp
  have c1 : w1.cell? ⟨w.heap.size, 1, none⟩ = some (.int .i64 a.path) := by rw [hw1]; simp
  have c2 : w1.cell? ⟨w.heap.size, 2, none⟩ = some (.int .i64 a.own_) := by rw [hw1]; simp
  have d0 : w1.cell? ⟨w.heap.size + 1, 0, none⟩ = some (.string b.word) := by rw [hw1]; simp
  have d1 : w1.cell? ⟨w.heap.size + 1, 1, none⟩ = some (.int .i64 b.path) := by rw [hw1]; simp
  have d2 : w1.cell? ⟨w.heap.size + 1, 2, none⟩ = some (.int .i64 b.own_) := by rw [hw1]; simp
  rw [← hw1]
  clear hw1
  obtain ⟨n0, hn0⟩ : ∃ n, n = w.heap.size := ⟨_, rfl⟩
  rw [← hn0] at c0 c1 c2 d0 d1 d2 ⊢
  clear hn0
  go_region_held3 (fun w' => w'.cell? ⟨n0, 0, none⟩ = some (.string a.word) ∧ w'.cell? ⟨n0, 1, none⟩ = some (.int .i64 a.path) ∧ w'.cell? ⟨n0, 2, none⟩ = some (.int .i64 a.own_) ∧ w'.cell? ⟨n0 + 1, 0, none⟩ = some (.string b.word) ∧ w'.cell? ⟨n0 + 1, 1, none⟩ = some (.int .i64 b.path) ∧ w'.cell? ⟨n0 + 1, 2, none⟩ = some (.int .i64 b.own_)) (go_keep)
    (first | (go_at_call 69; refine (cmpInt_any _ _ _).mono ?_; rintro e w' ⟨rfl, rfl⟩) | (go_at_call 70; refine (cmpIntJ_any _ _ _).mono ?_; rintro e w' ⟨rfl, rfl⟩) | (go_at_call 67; refine (cmpStr_any _ _ _).mono ?_; rintro e w' ⟨rfl, rfl⟩) | (go_at_call 68; refine (cmpOr_any _ [cmpI wa wb, cmpI a.word.size b.word.size, cmpB a.word b.word] _ (Arr.drew (arr_new _ _ rfl rfl (maxLen_ge (Nat.le_of_ble_eq_true rfl))))).mono ?_; rintro e w' ⟨rfl, rfl⟩))
  go_wp2
  go_ret
  exact ⟨by rw [HO.out]; rfl, 1, _, by rw [hg1.out, alloc_eq_grow, grow_grow]; rfl⟩
theorem below_grow (w : World) (q : Nat) (os : Array Obj) : Below w.heap.size w (grow (w.drewN q) os) := ⟨rfl, rfl, rfl, by simp [grow, World.drewN], fun k hk => by simp [grow, World.drewN, Array.getElem?_append_left hk]⟩
theorem compareFound_any (a b : DFound) (w : World) :
    Calls Tryz.prog 44 #[.agg #[.string a.word, .int .i64 a.path, .int .i64 a.own_], .agg #[.string b.word, .int .i64 b.path, .int .i64 b.own_]] w (Ret (.int .i64 (ordF a b)) w) :=
  (compareFound_lays a b w).mono fun e w' ⟨h1, q, os, h2⟩ => ⟨h1, by rw [h2]; exact below_grow w q os⟩
set_option maxRecDepth 100000 in
theorem l16Sum_any (a : DFound) (w : World) : Calls Tryz.prog 34 #[.agg #[.string a.word, .int .i64 a.path, .int .i64 a.own_]] w (Ret (.int .i64 (sumF a)) w) := by
  obtain ⟨wa, hwa⟩ : ∃ x, x = IntKind.i64.wrap (a.path + a.own_) := ⟨_, rfl⟩
  have HO : Hid (sumF a = wa) := hid (by rw [hwa]; rfl)
  have hwa' := hwa.symm
  clear hwa
  go_enter Tryz.func34, Tryz.ntmps34
  go_wp2
  go_ret
  exact ret_int HO.out.symm (below_alloc _ _)
set_option maxRecDepth 100000 in
set_option maxHeartbeats 2000000 in
theorem l16Before_any (a b : DFound) (w : World) :
    Calls Tryz.prog 33 #[.agg #[.string a.word, .int .i64 a.path, .int .i64 a.own_], .agg #[.string b.word, .int .i64 b.path, .int .i64 b.own_]] w (Ret (.bool (ltF a b)) w) := by
  rw [ltF_bef]
  go_enter Tryz.func33, Tryz.ntmps33
  go_wp2
  obtain ⟨w1, hw1⟩ : ∃ w1, w1 = ((w.alloc (.cells #[.string a.word, .int .i64 a.path, .int .i64 a.own_] 48)).alloc (.cells #[.string b.word, .int .i64 b.path, .int .i64 b.own_] 48)) := ⟨_, rfl⟩
  have hb1 : Below w.heap.size w w1 := by rw [hw1]; exact belowA2 _ _ _
  have c0 : w1.cell? ⟨w.heap.size, 0, none⟩ = some (.string a.word) := by rw [hw1]; simp
  have c1 : w1.cell? ⟨w.heap.size, 1, none⟩ = some (.int .i64 a.path) := by rw [hw1]; simp
  have c2 : w1.cell? ⟨w.heap.size, 2, none⟩ = some (.int .i64 a.own_) := by rw [hw1]; simp
  have d0 : w1.cell? ⟨w.heap.size + 1, 0, none⟩ = some (.string b.word) := by rw [hw1]; simp
  have d1 : w1.cell? ⟨w.heap.size + 1, 1, none⟩ = some (.int .i64 b.path) := by rw [hw1]; simp
  have d2 : w1.cell? ⟨w.heap.size + 1, 2, none⟩ = some (.int .i64 b.own_) := by rw [hw1]; simp
  rw [← hw1]
  clear hw1
  obtain ⟨n0, hn0⟩ : ∃ n, n = w.heap.size := ⟨_, rfl⟩
  rw [← hn0] at c0 c1 c2 d0 d1 d2 ⊢
  clear hn0
  have x_c0 := ext_cell c0
  have x_c1 := ext_cell c1
  have x_c2 := ext_cell c2
  have x_d0 := ext_cell d0
  have x_d1 := ext_cell d1
  have x_d2 := ext_cell d2
  refine wp_region_ext (by kernel_rfl) (by kernel_rfl) ?_
  repeat (go_big_quiet_step ((first | (go_at_call 34; first | exact ret_ext (l16Sum_any a _) | exact ret_ext (l16Sum_any b _)) | (go_at_call 56; exact ret_ext (l15Before_any a.word b.word (sumF a) (sumF b) _)))))
  refine wpQuiet_nil ?_
  intro _ hw'
  obtain ⟨nq, hw''⟩ := hw'
  subst hw''
  replace c0 := x_c0 nq
  replace c1 := x_c1 nq
  replace c2 := x_c2 nq
  replace d0 := x_d0 nq
  replace d1 := x_d1 nq
  replace d2 := x_d2 nq
  clear x_c0 x_c1 x_c2 x_d0 x_d1 x_d2
  go_wp2
  go_ret
  exact ret_bool rfl (hb1.trans ((ext_below _ nq).mono hb1.size))
end Go.Proofs.YtcikndmmbfompaaGreatDoor
