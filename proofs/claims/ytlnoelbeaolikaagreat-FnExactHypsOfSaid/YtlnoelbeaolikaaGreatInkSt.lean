/- Strokes: which are valid, their boxes, which are dots; the calls that tell it. -/
import Derived.Test.YtlnoelbeaolikaaGreatWrInk
import Derived.Test.YtlnoelbeaolikaaGreatStr
import Derived.Test.YtlnoelbeaolikaaGreatApp
import Derived.Test.YtlnoelbeaolikaaGreatCmp
import Derived.Deep.DrawnRows
import Derived.StillTailTactics
import Derived.IntWalk
namespace Go.Proofs.YtlnoelbeaolikaaGreat
open Go.RowKit
attribute [local go_sem ↓] Go.wp_at_zero Go.wp_at_succ

def ptOk (p : DPoint) : Bool := inB p.x 0 4095 && inB p.y 0 4095 && inB p.t 0 3600000
def ordAtP (x : List DPoint) (k : Nat) (p : DPoint) : Bool := match k, x[k-1]? with
  | 0, _ => true
  | _, none => true
  | _, some q => decide (q.t < p.t)
def stOk (x : List DPoint) (k : Nat) (p : DPoint) : Bool := ptOk p && ordAtP x k p
def validSt (x : List DPoint) : Bool := (List.range x.length).all (fun k => match x[k]? with | some p => stOk x k p | none => true) && inB x.length 1 60
theorem validSt_at {x : List DPoint} {k : Nat} {p : DPoint} (h : x[k]? = some p) (hb : stOk x k p = false) : validSt x = false := by
  rw [validSt, Bool.and_eq_false_iff]
  exact .inl (List.all_eq_false.2 ⟨k, by simp; exact (List.getElem?_eq_some_iff.1 h).1, by rw [h]; simp [hb]⟩)
theorem validSt_all {x : List DPoint} (h : ∀ k p, k < x.length → x[k]? = some p → stOk x k p = true) : validSt x = inB x.length 1 60 := by
  have : (List.range x.length).all (fun k => match x[k]? with | some p => stOk x k p | none => true) = true := by
    rw [List.all_eq_true]
    intro k hk
    have hk : k < x.length := by simpa using hk
    cases hx : x[k]? with
    | none => rfl
    | some p => exact h k p hk hx
  rw [validSt, this, Bool.true_and]
theorem validSt_pt {x : List DPoint} (h : validSt x = true) {p : DPoint} (hp : p ∈ x) : ptOk p = true := by
  obtain ⟨k, hk⟩ := List.mem_iff_getElem?.1 hp
  cases hb : stOk x k p with
  | true => simp [stOk] at hb; exact hb.1
  | false => rw [validSt_at hk hb] at h; cases h
theorem validSt_len {x : List DPoint} (h : validSt x = true) : 1 ≤ x.length ∧ x.length ≤ 60 := by
  simp [validSt, inB] at h; omega

structure DBox where
  x1 : Int
  y1 : Int
  x2 : Int
  y2 : Int
def vBox (b : DBox) : Value := .agg #[.int .i64 b.x1, .int .i64 b.y1, .int .i64 b.x2, .int .i64 b.y2]
def ptBox (p : DPoint) : DBox := ⟨p.x, p.y, p.x, p.y⟩
def joinB (a b : DBox) : DBox := ⟨min a.x1 b.x1, min a.y1 b.y1, max a.x2 b.x2, max a.y2 b.y2⟩
def boxOver (p : DPoint) (x : List DPoint) : DBox := x.foldl (fun b q => joinB b (ptBox q)) (ptBox p)
def boxSt (x : List DPoint) : DBox := match x with
  | [] => ⟨0, 0, 0, 0⟩
  | p :: ps => boxOver p ps
theorem joinB_self (p : DPoint) : joinB (ptBox p) (ptBox p) = ptBox p := by simp [joinB, ptBox]
theorem boxSt_over {x : List DPoint} {p : DPoint} (h : x[0]? = some p) : boxSt x = boxOver p x := by
  cases x with
  | nil => simp at h
  | cons q qs =>
    simp at h; subst h
    simp [boxSt, boxOver, joinB_self]
theorem over_take {p : DPoint} {x : List DPoint} {k : Nat} {q : DPoint} (h : x[k]? = some q) : boxOver p (x.take (k + 1)) = joinB (boxOver p (x.take k)) (ptBox q) := by
  unfold boxOver
  rw [List.take_add_one, h]; simp
theorem over_one {p : DPoint} {x : List DPoint} (h : x[0]? = some p) : boxOver p (x.take 1) = ptBox p := by
  cases x with
  | nil => simp at h
  | cons q qs => simp at h; subst h; simp [boxOver, joinB_self]
def okBox (b : DBox) : Prop := 0 ≤ b.x1 ∧ b.x1 ≤ 4095 ∧ 0 ≤ b.y1 ∧ b.y1 ≤ 4095 ∧ 0 ≤ b.x2 ∧ b.x2 ≤ 4095 ∧ 0 ≤ b.y2 ∧ b.y2 ≤ 4095
theorem okBox_pt {p : DPoint} (h : ptOk p = true) : okBox (ptBox p) := by
  simp [ptOk, inB] at h
  unfold okBox ptBox
  simp only
  omega
theorem okBox_join {a b : DBox} (ha : okBox a) (hb : okBox b) : okBox (joinB a b) := by
  unfold okBox joinB at *
  simp only
  omega
theorem okBox_over {p : DPoint} (hp : ptOk p = true) : ∀ (x : List DPoint) (_ : ∀ q ∈ x, ptOk q = true) (b : DBox) (_ : okBox b), okBox (x.foldl (fun b q => joinB b (ptBox q)) b)
  | [], _, _, hb => hb
  | q :: qs, h, _, hb => okBox_over hp qs (fun r hr => h r (List.mem_cons_of_mem _ hr)) _ (okBox_join hb (okBox_pt (h q List.mem_cons_self)))
theorem okBox_st {x : List DPoint} (h : validSt x = true) : okBox (boxSt x) := by
  have hl := validSt_len h
  cases x with
  | nil => simp at hl
  | cons p ps => exact okBox_over (validSt_pt h List.mem_cons_self) ps (fun q hq => validSt_pt h (List.mem_cons_of_mem _ hq)) _ (okBox_pt (validSt_pt h List.mem_cons_self))
def isDotB (x : List DPoint) : Bool := decide ((boxSt x).x2 - (boxSt x).x1 ≤ 160) && decide ((boxSt x).y2 - (boxSt x).y1 ≤ 160)

set_option maxHeartbeats 1000000 in
theorem l02Point_any (p : DPoint) (w : World) : Calls Tryz.prog 92 #[.agg #[.int .i64 p.x, .int .i64 p.y, .int .i64 p.t]] w (Ret (.bool (ptOk p)) w) := by
  cases h1 : inB p.x 0 4095
  · have HV := hid (show ptOk p = false by simp [ptOk, h1])
    have H1 : ∀ w', Calls Tryz.prog 53 #[.int .i64 p.x, .int .i64 0, .int .i64 4095] w' fun e w'' => e = .returned (.bool false) ∧ w' = w'' := fun w' => h1 ▸ l00In_any _ _ _ w'
    clear h1
    go_enter Tryz.func92, Tryz.ntmps92
    go_wp2_with fail
    refine (H1 _).mono ?_
    rintro e w' ⟨rfl, rfl⟩
    go_wp2
    go_ret
    exact ret_bool HV.out.symm (below_alloc _ _)
  have H1 : ∀ w', Calls Tryz.prog 53 #[.int .i64 p.x, .int .i64 0, .int .i64 4095] w' fun e w'' => e = .returned (.bool true) ∧ w' = w'' := fun w' => h1 ▸ l00In_any _ _ _ w'
  cases h2 : inB p.y 0 4095
  · have HV := hid (show ptOk p = false by simp [ptOk, h2])
    have H2 : ∀ w', Calls Tryz.prog 53 #[.int .i64 p.y, .int .i64 0, .int .i64 4095] w' fun e w'' => e = .returned (.bool false) ∧ w' = w'' := fun w' => h2 ▸ l00In_any _ _ _ w'
    clear h1 h2
    go_enter Tryz.func92, Tryz.ntmps92
    go_wp2_with fail
    refine (H1 _).mono ?_
    rintro e w' ⟨rfl, rfl⟩
    go_wp2_with fail
    refine (H2 _).mono ?_
    rintro e w' ⟨rfl, rfl⟩
    go_wp2
    go_ret
    exact ret_bool HV.out.symm (below_alloc _ _)
  have H2 : ∀ w', Calls Tryz.prog 53 #[.int .i64 p.y, .int .i64 0, .int .i64 4095] w' fun e w'' => e = .returned (.bool true) ∧ w' = w'' := fun w' => h2 ▸ l00In_any _ _ _ w'
  have HV := hid (show ptOk p = inB p.t 0 3600000 by simp [ptOk, h1, h2])
  clear h1 h2
  go_enter Tryz.func92, Tryz.ntmps92
  go_wp2_with fail
  refine (H1 _).mono ?_
  rintro e w' ⟨rfl, rfl⟩
  go_wp2_with fail
  refine (H2 _).mono ?_
  rintro e w' ⟨rfl, rfl⟩
  go_wp2_with fail
  refine (l00In_any _ _ _ _).mono ?_
  rintro e w' ⟨rfl, rfl⟩
  go_wp2
  go_ret
  exact ret_bool HV.out.symm (below_alloc _ _)
set_option maxHeartbeats 400000 in
theorem isCoord_any (n : Int) (w : World) : Calls Tryz.prog 150 #[.int .i64 n] w fun e w' => e = .returned (.bool (inB n 0 4095)) ∧ w = w' := by
  go_enter Tryz.func150, Tryz.ntmps150
  go_wp2_with (go_at_call 62; refine (within_any _ _ _ _).mono ?_; rintro e w' ⟨rfl, rfl⟩)
  go_ret
  exact ⟨rfl, rfl⟩
set_option maxHeartbeats 1000000 in
theorem validPoint_any (p : DPoint) (w : World) : Calls Tryz.prog 104 #[.agg #[.int .i64 p.x, .int .i64 p.y, .int .i64 p.t]] w (Ret (.bool (ptOk p)) w) := by
  cases h1 : inB p.x 0 4095
  · have HV := hid (show ptOk p = false by simp [ptOk, h1])
    have H1 : ∀ w', Calls Tryz.prog 150 #[.int .i64 p.x] w' fun e w'' => e = .returned (.bool false) ∧ w' = w'' := fun w' => h1 ▸ isCoord_any _ w'
    clear h1
    go_enter Tryz.func104, Tryz.ntmps104
    go_wp2_with fail
    refine (H1 _).mono ?_
    rintro e w' ⟨rfl, rfl⟩
    go_wp2
    go_ret
    exact ret_bool HV.out.symm (below_alloc _ _)
  have H1 : ∀ w', Calls Tryz.prog 150 #[.int .i64 p.x] w' fun e w'' => e = .returned (.bool true) ∧ w' = w'' := fun w' => h1 ▸ isCoord_any _ w'
  cases h2 : inB p.y 0 4095
  · have HV := hid (show ptOk p = false by simp [ptOk, h2])
    have H2 : ∀ w', Calls Tryz.prog 150 #[.int .i64 p.y] w' fun e w'' => e = .returned (.bool false) ∧ w' = w'' := fun w' => h2 ▸ isCoord_any _ w'
    clear h1 h2
    go_enter Tryz.func104, Tryz.ntmps104
    go_wp2_with fail
    refine (H1 _).mono ?_
    rintro e w' ⟨rfl, rfl⟩
    go_wp2_with fail
    refine (H2 _).mono ?_
    rintro e w' ⟨rfl, rfl⟩
    go_wp2
    go_ret
    exact ret_bool HV.out.symm (below_alloc _ _)
  have H2 : ∀ w', Calls Tryz.prog 150 #[.int .i64 p.y] w' fun e w'' => e = .returned (.bool true) ∧ w' = w'' := fun w' => h2 ▸ isCoord_any _ w'
  have HV := hid (show ptOk p = inB p.t 0 3600000 by simp [ptOk, h1, h2])
  clear h1 h2
  go_enter Tryz.func104, Tryz.ntmps104
  go_wp2_with fail
  refine (H1 _).mono ?_
  rintro e w' ⟨rfl, rfl⟩
  go_wp2_with fail
  refine (H2 _).mono ?_
  rintro e w' ⟨rfl, rfl⟩
  go_wp2_with fail
  refine (within_any _ _ _ _).mono ?_
  rintro e w' ⟨rfl, rfl⟩
  go_wp2
  go_ret
  exact ret_bool HV.out.symm (below_alloc _ _)
set_option maxHeartbeats 2000000 in
set_option maxRecDepth 100000 in
theorem l02Join_any (a b : DBox) (w : World) : Calls Tryz.prog 141 #[vBox a, vBox b] w (Ret (vBox (joinB a b)) w) := by
  unfold vBox
  go_enter Tryz.func141, Tryz.ntmps141
  go_wp2
  obtain ⟨W, hW⟩ : ∃ W, W = ((w.alloc (.cells #[.int .i64 a.x1, .int .i64 a.y1, .int .i64 a.x2, .int .i64 a.y2] 158)).alloc (.cells #[.int .i64 b.x1, .int .i64 b.y1, .int .i64 b.x2, .int .i64 b.y2] 158)).alloc (.cells #[.int .i64 0, .int .i64 0, .int .i64 0, .int .i64 0] 158) := ⟨_, rfl⟩
  have hbW : Below w.heap.size w W := by rw [hW]; exact (((Below.refl _ _).alloc (Nat.le_refl _) _).alloc (by simp) _).alloc (by simp <;> omega) _
  have q1 : Box W w.heap.size #[.int .i64 a.x1, .int .i64 a.y1, .int .i64 a.x2, .int .i64 a.y2] 158 := by rw [hW]; exact ((Box.new w _ _).alloc _).alloc _
  have q2 : Box W (w.heap.size + 1) #[.int .i64 b.x1, .int .i64 b.y1, .int .i64 b.x2, .int .i64 b.y2] 158 := by
    rw [hW]
    have := Box.new (w.alloc (.cells #[.int .i64 a.x1, .int .i64 a.y1, .int .i64 a.x2, .int .i64 a.y2] 158)) #[.int .i64 b.x1, .int .i64 b.y1, .int .i64 b.x2, .int .i64 b.y2] 158
    rw [World.size_alloc] at this
    exact this.alloc _
  have q3 : Box W (w.heap.size + 1 + 1) #[.int .i64 0, .int .i64 0, .int .i64 0, .int .i64 0] 158 := by
    rw [hW]
    have := Box.new ((w.alloc (.cells #[.int .i64 a.x1, .int .i64 a.y1, .int .i64 a.x2, .int .i64 a.y2] 158)).alloc (.cells #[.int .i64 b.x1, .int .i64 b.y1, .int .i64 b.x2, .int .i64 b.y2] 158)) #[.int .i64 0, .int .i64 0, .int .i64 0, .int .i64 0] 158
    rw [World.size_alloc, World.size_alloc] at this
    exact this
  rw [← hW]
  clear hW
  have c0 := q1.cell (j := 0) rfl
  have c1 := q1.cell (j := 1) rfl
  have c2 := q1.cell (j := 2) rfl
  have c3 := q1.cell (j := 3) rfl
  have d0 := q2.cell (j := 0) rfl
  have d1 := q2.cell (j := 1) rfl
  have d2 := q2.cell (j := 2) rfl
  have d3 := q2.cell (j := 3) rfl
  have e0 := q3.cell (j := 0) rfl
  have e1 := q3.cell (j := 1) rfl
  have e2 := q3.cell (j := 2) rfl
  have e3 := q3.cell (j := 3) rfl
  have ef := q3.free
  refine wp_region_still_tail 21 (by kernel_rfl) (by kernel_rfl) ?_
  simp only [List.take_succ_cons, List.take_zero, List.drop_succ_cons, List.drop_zero]
  repeat (first | still_step | still_call ((l00Min_any _ _ _).mono fun _ _ h => ⟨h.1, h.2.symm⟩) | still_call ((l00Max_any _ _ _).mono fun _ _ h => ⟨h.1, h.2.symm⟩))
  refine wpStill_nil ?_
  change wpList _ _ _ _ _ (World.drew _)
  go_wp2
  refine bodyPost_ret (v := vBox (joinB a b)) (by simp [results, Tryz.results141, go_sem, vBox, joinB, e0, e1, e2, e3]) rfl (ret_ret rfl ?_)
  exact ((((hbW.setCell (by simp; omega) _).setCell (by simp; omega) _).setCell (by simp; omega) _).setCell (by simp; omega) _).drew
set_option maxHeartbeats 2000000 in
theorem joinBoxes_any (a b : DBox) (w : World) : Calls Tryz.prog 152 #[vBox a, vBox b] w (Ret (vBox (joinB a b)) w) := by
  unfold vBox
  go_enter Tryz.func152, Tryz.ntmps152
  go_wp2
  all_goals
    refine bodyPost_ret (v := vBox (joinB a b)) (by simp [results, Tryz.results152, go_sem, vBox, joinB] <;> omega) rfl (ret_ret rfl ?_)
    exact (((Below.refl _ _).alloc (Nat.le_refl _) _).alloc (by simp) _).alloc (by simp <;> omega) _
end Go.Proofs.YtlnoelbeaolikaaGreat
