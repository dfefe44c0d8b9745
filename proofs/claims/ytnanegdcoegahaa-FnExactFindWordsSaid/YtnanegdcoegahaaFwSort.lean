/- slices.SortFunc at found words: a slice that the call owns holds its words sorted. -/
import Derived.Test.YtnanegdcoegahaaFwPlain
import Derived.Test.YtnanegdcoegahaaSortOwn
import Derived.Test.YtnanegdcoegahaaFwLay
import Derived.Deep.RegionHeld3
namespace Go.Proofs.Ytnanegdcoegahaa
open Go.RowKit Go.Sort
attribute [local go_sem ↓] Go.wp_at_zero Go.wp_at_succ

instance : Inhabited DFound := ⟨fz⟩
set_option maxHeartbeats 2000000 in
theorem compareFound_lays (a b : DFound) (w : World) :
    Calls Try.prog 106 #[.agg #[.string a.word, .int .i64 a.path, .int .i64 a.own_], .agg #[.string b.word, .int .i64 b.path, .int .i64 b.own_]] w fun e w' => e = .returned (.int .i64 (ordF a b)) ∧ ∃ q os', w' = grow (w.drewN q) os' := by
  obtain ⟨wa, hwa⟩ : ∃ x, x = IntKind.i64.wrap (a.path + a.own_) := ⟨_, rfl⟩
  obtain ⟨wb, hwb⟩ : ∃ x, x = IntKind.i64.wrap (b.path + b.own_) := ⟨_, rfl⟩
  have HO : Hid (ordF a b = orL [cmpI wa wb, cmpI a.word.size b.word.size, cmpB a.word b.word]) := hid (by rw [hwa, hwb]; rfl)
  have hwa' := hwa.symm
  have hwb' := hwb.symm
  clear hwa hwb
  go_enter Try.func106, Try.ntmps106
  go_wp2
  obtain ⟨w1, hw1⟩ : ∃ w1, w1 = ((w.alloc (.cells #[.string a.word, .int .i64 a.path, .int .i64 a.own_] 31)).alloc (.cells #[.string b.word, .int .i64 b.path, .int .i64 b.own_] 31)) := ⟨_, rfl⟩
  have hg1 : Hid (w1 = grow w #[.cells #[.string a.word, .int .i64 a.path, .int .i64 a.own_] 31, .cells #[.string b.word, .int .i64 b.path, .int .i64 b.own_] 31]) := hid (by rw [hw1, alloc_eq_grow, alloc_eq_grow, grow_grow]; rfl)
  have c0 : w1.cell? ⟨w.heap.size, 0, none⟩ = some (.string a.word) := by rw [hw1]; simp
  have c1 : w1.cell? ⟨w.heap.size, 1, none⟩ = some (.int .i64 a.path) := by rw [hw1]; simp
  have c2 : w1.cell? ⟨w.heap.size, 2, none⟩ = some (.int .i64 a.own_) := by rw [hw1]; simp
  have d0 : w1.cell? ⟨w.heap.size + 1, 0, none⟩ = some (.string b.word) := by rw [hw1]; simp
  have d1 : w1.cell? ⟨w.heap.size + 1, 1, none⟩ = some (.int .i64 b.path) := by rw [hw1]; simp
  have d2 : w1.cell? ⟨w.heap.size + 1, 2, none⟩ = some (.int .i64 b.own_) := by rw [hw1]; simp
  rw [← hw1]
  clear hw1
  obtain ⟨n0, hn0⟩ : ∃ n, n = w.heap.size := ⟨_, rfl⟩
  rw [← hn0] at c0 c1 c2 d0 d1 d2 ⊢
  clear hn0
  go_region_held3 (fun w' => w'.cell? ⟨n0, 0, none⟩ = some (.string a.word) ∧ w'.cell? ⟨n0, 1, none⟩ = some (.int .i64 a.path) ∧ w'.cell? ⟨n0, 2, none⟩ = some (.int .i64 a.own_) ∧ w'.cell? ⟨n0 + 1, 0, none⟩ = some (.string b.word) ∧ w'.cell? ⟨n0 + 1, 1, none⟩ = some (.int .i64 b.path) ∧ w'.cell? ⟨n0 + 1, 2, none⟩ = some (.int .i64 b.own_)) (go_keep)
    (first | (go_at_call 114; refine (cmpInt_any _ _ _).mono ?_; rintro e w' ⟨rfl, rfl⟩) | (go_at_call 137; refine (cmpIntJ_any _ _ _).mono ?_; rintro e w' ⟨rfl, rfl⟩) | (go_at_call 115; refine (cmpStr_any _ _ _).mono ?_; rintro e w' ⟨rfl, rfl⟩) | (go_at_call 113; refine (cmpOr_any _ [cmpI wa wb, cmpI a.word.size b.word.size, cmpB a.word b.word] _ (Arr.drew (arr_new _ _ rfl rfl (maxLen_ge (Nat.le_of_ble_eq_true rfl))))).mono ?_; rintro e w' ⟨rfl, rfl⟩))
  go_wp2
  go_ret
  exact ⟨by rw [HO.out]; rfl, 1, _, by rw [hg1.out, alloc_eq_grow, grow_grow]; rfl⟩
theorem compareFound_enters : ∀ args w, (callFunc 106 args).run Try.prog w = .ok (.enter 106 args) w := enters_of Try.func106 (by kernel_rfl) rfl
theorem sortFound_any (g cap n B : Nat) (X : List DFound) (w : World) (h : Own eFound 31 B w (.slice (some ⟨g, 0, none⟩) n cap) X) (hn : n = X.length) (hs : X.length ≤ 1048576) :
    Calls Try.prog 105 #[.slice (some ⟨g, 0, none⟩) n cap, .func (.func 106) #[] #[]] w fun e w' => e = .returned (.tuple #[]) ∧ ∃ Y, Y.Perm X ∧ Up ltF Y ∧ Own eFound 31 B w' (.slice (some ⟨g, 0, none⟩) n cap) Y ∧ Below B w w' := by
  have hlt := h.lt
  have hcon := AnyQ.slices_SortFunc Try.sortFound 3 Try.isAgg31 Try.sizeOf31 eFound.row eFound.len eFound.one ordF swoF 106 #[] g 0 cap X.toArray w compareFound_enters
    (fun m os dk _ x y => compareFound_lays x y _) (own_holds h hn) hlt.2 (by simp; omega)
  subst hn
  have hcon' : Calls Try.prog 105 #[.slice (some ⟨g, 0, none⟩) X.length cap, .func (.func 106) #[] #[]] w _ := hcon
  refine hcon'.mono ?_
  rintro e w' ⟨rfl, d', m, os, ⟨hsz, _, hperm⟩, hsort, rfl⟩
  refine ⟨rfl, d'.toList, ?_, ?_, ?_⟩
  · have e1 : (d'.extract 0 X.toArray.size).toList = d'.toList := by rw [← hsz]; simp
    have e2 : (X.toArray.extract 0 X.toArray.size).toList = X := by simp
    rw [e1, e2] at hperm
    exact hperm
  · refine List.pairwise_iff_getElem.2 fun i j hi hj hij => ?_
    have hi' : i < d'.size := by simpa using hi
    have hj' : j < d'.size := by simpa using hj
    have := hsort i j (Nat.zero_le _) hij (by rw [← hsz]; exact hj')
    rw [getElem!_pos d' i hi', getElem!_pos d' j hj'] at this
    simpa [ltF, ltOf] using this
  · have := own_sorted (n := m) (os := os) (Y := d'.toList) h rfl (by have := hsz; simpa using this)
    rw [show d'.toList.toArray = d' by simp] at this
    refine ⟨this.1, ?_⟩
    have hb := (Below.refl B w).grown this.2 (Nat.le_trans hlt.1 (Nat.le_of_lt hlt.2)) (by intro k hk; cases hk; exact hlt.1)
    exact hb
end Go.Proofs.Ytnanegdcoegahaa
