/- The order of strings. Plain lemmas, no program. -/
import Derived.Test.YtlnoelbeaolikaaGreatK00
import Derived.Test.YtlnoelbeaolikaaGreatRows
import Derived.Test.YtlnoelbeaolikaaGreatK02
import Derived.Test.YtlnoelbeaolikaaGreatK05
import Derived.Test.YtlnoelbeaolikaaGreatK03
import Derived.Deep.DrawnRows
import Derived.StillTailTactics
import Derived.IntWalk
namespace Go.Proofs.YtlnoelbeaolikaaGreat
theorem bless_eq : ∀ (x y : List UInt8), Op.bytesLess x y = decide (x < y)
 | [], [] => by simp [Op.bytesLess]
 | _ :: _, [] => by simp [Op.bytesLess]
 | [], _ :: _ => by simp [Op.bytesLess]
 | a :: x, b :: y => by
  rw [Op.bytesLess, bless_eq x y]
  simp only [List.cons_lt_cons_iff]
  by_cases h1 : a < b <;> by_cases h2 : a = b <;> by_cases h3 : x < y <;> simp [h1, h2, h3]
def ltB (a b : ByteArray) : Bool := Op.bytesLess a.toList b.toList
theorem ltB_irrefl (a : ByteArray) : ltB a a = false := by
 unfold ltB; rw [bless_eq]; simp [List.lt_irrefl]
theorem ltB_trans {a b c : ByteArray} (h : ltB a b = true) (k : ltB b c = true) : ltB a c = true := by
 unfold ltB at *; rw [bless_eq] at *; simp at *; exact List.lt_trans h k
theorem ltB_or {a b : ByteArray} (h : ltB a b = false) (k : ltB b a = false) : a.toList = b.toList := by
 unfold ltB at *; rw [bless_eq] at *; simp at h k
 exact List.le_antisymm k h
theorem ltB_congr {a b c : ByteArray} (h : a.toList = b.toList) : ltB a c = ltB b c ∧ ltB c a = ltB c b := by
 unfold ltB; rw [h]; exact ⟨rfl, rfl⟩
end Go.Proofs.YtlnoelbeaolikaaGreat
namespace Go.Proofs.YtlnoelbeaolikaaGreat
open Go.RowKit
theorem ret_i {k : IntKind} {a b : Int} (h : a = b) : Ending.returned (.int k a) = .returned (.int k b) := by rw [h]
set_option maxHeartbeats 400000 in
theorem l00Min_any (a b : Int) (w : World) : Calls Tryz.prog 98 #[.int .i64 a, .int .i64 b] w fun e w' => e = .returned (.int .i64 (min a b)) ∧ w = w' := by
 by_cases h : a < b
 all_goals
  go_enter Tryz.func98, Tryz.ntmps98
  go_wp2
  go_ret
  exact ⟨ret_i (by omega), rfl⟩
set_option maxHeartbeats 400000 in
theorem l00Max_any (a b : Int) (w : World) : Calls Tryz.prog 182 #[.int .i64 a, .int .i64 b] w fun e w' => e = .returned (.int .i64 (max a b)) ∧ w = w' := by
 by_cases h : b < a
 all_goals
  go_enter Tryz.func182, Tryz.ntmps182
  go_wp2
  go_ret
  exact ⟨ret_i (by omega), rfl⟩
end Go.Proofs.YtlnoelbeaolikaaGreat
namespace Go.Proofs.YtlnoelbeaolikaaGreat
open Go.RowKit
def eqS (a b : ByteArray) : Bool := a.toList == b.toList
def cmpB (a b : ByteArray) : Int := if ltB a b then -1 else if eqS a b then 0 else 1
def cmpI (a b : Int) : Int := if a < b then -1 else if b < a then 1 else 0
theorem cmpI_ne {a b : Int} (h : a ≠ b) : cmpI a b ≠ 0 := by
 unfold cmpI; split
 ·omega
 ·split <;> omega
theorem cmpI_self (a : Int) : cmpI a a = 0 := by simp [cmpI]
def orL : List Int → Int
 | [] => 0
 | x :: xs => if x = 0 then orL xs else x
def eInt : Enc Int := ⟨fun x => [.int .i64 x], 1, fun _ => rfl, by decide, fun x u hu => by simp at hu; subst hu; rfl⟩
theorem eInt_cells {w : World} {b off : Nat} {es : List Int} (h : Cells eInt w b off es) {k : Nat} {x : Int} (hx : es[k]? = some x) : w.cell? ⟨b, off + k, none⟩ = some (.int .i64 x) := by
 have := h k x hx 0 _ rfl
 simpa [eInt] using this
theorem isNaN_any (s : ByteArray) (w : World) : Calls Tryz.prog 135 #[.string s] w fun e w' => e = .returned (.bool false) ∧ w = w' := by
 go_enter Tryz.func135, Tryz.ntmps135
 go_wp2
 go_ret
 exact ⟨by simp, rfl⟩
theorem cmpStr_any (a b : ByteArray) (w : World) : Calls Tryz.prog 86 #[.string a, .string b] w fun e w' => e = .returned (.int .i64 (cmpB a b)) ∧ w = w' := by
 cases h1 : Op.bytesLess a.toList b.toList <;> cases h2 : (a.toList == b.toList)
 all_goals
  go_enter Tryz.func86, Tryz.ntmps86
  go_wp2_with (go_at_call 135; refine (isNaN_any _ _).mono ?_; rintro e w' ⟨rfl, rfl⟩)
  go_ret
  exact ⟨by simp [cmpB, ltB, eqS, h1, h2], rfl⟩
theorem isNaNI_any (s : Int) (w : World) : Calls Tryz.prog 134 #[.int .i64 s] w fun e w' => e = .returned (.bool false) ∧ w = w' := by
 go_enter Tryz.func134, Tryz.ntmps134
 go_wp2
 go_ret
 exact ⟨by simp, rfl⟩
theorem cmpInt_any (a b : Int) (w : World) : Calls Tryz.prog 85 #[.int .i64 a, .int .i64 b] w fun e w' => e = .returned (.int .i64 (cmpI a b)) ∧ w = w' := by
 by_cases h1 : a < b <;> by_cases h2 : b < a
 all_goals
  go_enter Tryz.func85, Tryz.ntmps85
  go_wp2_with (go_at_call 134; refine (isNaNI_any _ _).mono ?_; rintro e w' ⟨rfl, rfl⟩)
  go_ret
  exact ⟨ret_i (by unfold cmpI; split <;> (try split) <;> omega), rfl⟩
theorem maxLen_ge {n : Nat} (h : n ≤ 1000) : n ≤ maxLen := by unfold maxLen; omega
theorem arr_new {w : World} {T : TypeId} {n : Nat} (xs : List Int) (l : Array Value) (hl : l = (xs.map fun x => Value.int .i64 x).toArray) (hn : n = xs.length) (hm : n ≤ maxLen) : Arr eInt (w.alloc (.cells l T)) (.slice (some ⟨w.heap.size, 0, none⟩) n n) xs := by
 subst hn hl
 refine ⟨w.heap.size, 0, some ⟨w.heap.size, 0, none⟩, xs.length, rfl, Nat.le_refl _, hm, fun _ => ⟨rfl, by simp⟩, fun k x hx j u hu => ?_⟩
 have hj : j = 0 := by have := (List.getElem?_eq_some_iff.1 hu).1; simp [eInt] at this; omega
 subst hj
 simp [eInt] at hu
 subst hu
 have h0 := heap_alloc_new w (.cells (xs.map fun x => Value.int .i64 x).toArray T)
 rw [cell_of_row _ _ _ _ _ _ h0]
 simp [eInt, hx]
theorem orL_skip : ∀ {xs : List Int} {k : Nat} (_ : ∀ j x, j < k → xs[j]? = some x → x = 0), orL xs = orL (xs.drop k)
 | _, 0, _ => rfl
 | [], _ + 1, _ => rfl
 | x :: xs, k + 1, h => by
  have h0 := h 0 x (by omega) rfl
  rw [orL, if_pos h0, List.drop_succ_cons]
  exact orL_skip fun j y hj hy => h (j + 1) y (by omega) hy
set_option maxHeartbeats 400000 in
theorem cmpOr_any (v : Value) (xs : List Int) (w : World) (h : Arr eInt w v xs) : Calls Tryz.prog 84 #[v] w fun e w' => e = .returned (.int .i64 (orL xs)) ∧ w = w' := by
 obtain ⟨b, off, ao, cap, rfl, hnc, hcm, hao, hc⟩ := h
 unfold maxLen at hcm
 go_enter Tryz.func84, Tryz.ntmps84
 go_wp2
 go_loop [5, 8] (fun _ i => ∃ k : Nat, k ≤ xs.length ∧ i = .int .i64 k ∧ ∀ j x, j < k → xs[j]? = some x → x = 0) (fun _ i => xs.length - (intOf i).toNat)
 case atStart => exact ⟨0, Nat.zero_le _, rfl, fun j x h => by omega⟩
 case round =>
  obtain ⟨k, hk, rfl, hall⟩ := hrel
  have HA := hid hall
  clear hall
  by_cases hlt : k < xs.length
  ·obtain ⟨hao', hbw⟩ := hao (by omega)
   subst hao'
   obtain ⟨x, hx⟩ : ∃ x, xs[k]? = some x := ⟨_, List.getElem?_eq_getElem hlt⟩
   have c0 := eInt_cells hc hx
   have hli : (k : Int) < (xs.length : Int) := by omega
   have HX := hid hx
   clear hx hao hc
   by_cases h0 : x = 0
   ·have hne : (x != 0) = false := by rw [bne_eq_false_iff_eq]; exact h0
    have H0 := hid h0
    clear h0
    go_wp2
    go_round
    case rel =>
     refine ⟨k + 1, by omega, by go_num, fun j y hj hy => ?_⟩
     by_cases ej : j = k
     ·subst ej; rw [HX.out] at hy; obtain rfl := Option.some.inj hy; exact H0.out
     ·exact HA.out j y (by omega) hy
    case measure => simp [intOf]; omega
   ·have hne : (x != 0) = true := by rw [bne_iff_ne]; exact h0
    have HR : Hid (orL xs = x) := by
     show orL xs = x
     rw [orL_skip HA.out, List.drop_eq_getElem_cons hlt]
     have : xs[k] = x := by have := HX.out; rw [List.getElem?_eq_getElem hlt] at this; exact Option.some.inj this
     rw [this, orL, if_neg h0]
    clear h0
    go_wp2
    go_ret
    exact ⟨by rw [HR.out]; rfl, rfl⟩
  ·have HR : Hid (orL xs = 0) := by
    show orL xs = 0
    rw [orL_skip HA.out, List.drop_of_length_le (by omega)]; rfl
   clear hao hc
   go_wp2
   go_ret
   exact ⟨by rw [HR.out]; rfl, rfl⟩
end Go.Proofs.YtlnoelbeaolikaaGreat
namespace Go.Proofs.YtlnoelbeaolikaaGreat
open Go.RowKit
end Go.Proofs.YtlnoelbeaolikaaGreat
namespace Go.Proofs.YtlnoelbeaolikaaGreat
open Go.RowKit
attribute [local go_sem ↓] Go.wp_at_zero Go.wp_at_succ
def ptOk (p : DPoint) : Bool := inB p.x 0 4095 && inB p.y 0 4095 && inB p.t 0 3600000
def ordAtP (x : List DPoint) (k : Nat) (p : DPoint) : Bool := match k, x[k-1]? with
 | 0, _ => true
 | _, none => true
 | _, some q => decide (q.t < p.t)
def stOk (x : List DPoint) (k : Nat) (p : DPoint) : Bool := ptOk p && ordAtP x k p
def validSt (x : List DPoint) : Bool := (List.range x.length).all (fun k => match x[k]? with | some p => stOk x k p | none => true) && inB x.length 1 60
theorem validSt_at {x : List DPoint} {k : Nat} {p : DPoint} (h : x[k]? = some p) (hb : stOk x k p = false) : validSt x = false := by
 rw [validSt, Bool.and_eq_false_iff]
 exact .inl (List.all_eq_false.2 ⟨k, by simp; exact (List.getElem?_eq_some_iff.1 h).1, by rw [h]; simp [hb]⟩)
theorem validSt_all {x : List DPoint} (h : ∀ k p, k < x.length → x[k]? = some p → stOk x k p = true) : validSt x = inB x.length 1 60 := by
 have : (List.range x.length).all (fun k => match x[k]? with | some p => stOk x k p | none => true) = true := by
  rw [List.all_eq_true]
  intro k hk
  have hk : k < x.length := by simpa using hk
  cases hx : x[k]? with
  | none => rfl
  | some p => exact h k p hk hx
 rw [validSt, this, Bool.true_and]
theorem validSt_pt {x : List DPoint} (h : validSt x = true) {p : DPoint} (hp : p ∈ x) : ptOk p = true := by
 obtain ⟨k, hk⟩ := List.mem_iff_getElem?.1 hp
 cases hb : stOk x k p with
 | true => simp [stOk] at hb; exact hb.1
 | false => rw [validSt_at hk hb] at h; cases h
theorem validSt_len {x : List DPoint} (h : validSt x = true) : 1 ≤ x.length ∧ x.length ≤ 60 := by
 simp [validSt, inB] at h; omega
structure DBox where
 x1 : Int
 y1 : Int
 x2 : Int
 y2 : Int
def vBox (b : DBox) : Value := .agg #[.int .i64 b.x1, .int .i64 b.y1, .int .i64 b.x2, .int .i64 b.y2]
def ptBox (p : DPoint) : DBox := ⟨p.x, p.y, p.x, p.y⟩
def joinB (a b : DBox) : DBox := ⟨min a.x1 b.x1, min a.y1 b.y1, max a.x2 b.x2, max a.y2 b.y2⟩
def boxOver (p : DPoint) (x : List DPoint) : DBox := x.foldl (fun b q => joinB b (ptBox q)) (ptBox p)
def boxSt (x : List DPoint) : DBox := match x with
 | [] => ⟨0, 0, 0, 0⟩
 | p :: ps => boxOver p ps
theorem joinB_self (p : DPoint) : joinB (ptBox p) (ptBox p) = ptBox p := by simp [joinB, ptBox]
theorem boxSt_over {x : List DPoint} {p : DPoint} (h : x[0]? = some p) : boxSt x = boxOver p x := by
 cases x with
 | nil => simp at h
 | cons q qs =>
  simp at h; subst h
  simp [boxSt, boxOver, joinB_self]
theorem over_take {p : DPoint} {x : List DPoint} {k : Nat} {q : DPoint} (h : x[k]? = some q) : boxOver p (x.take (k + 1)) = joinB (boxOver p (x.take k)) (ptBox q) := by
 unfold boxOver
 rw [List.take_add_one, h]; simp
theorem over_one {p : DPoint} {x : List DPoint} (h : x[0]? = some p) : boxOver p (x.take 1) = ptBox p := by
 cases x with
 | nil => simp at h
 | cons q qs => simp at h; subst h; simp [boxOver, joinB_self]
def okBox (b : DBox) : Prop := 0 ≤ b.x1 ∧ b.x1 ≤ 4095 ∧ 0 ≤ b.y1 ∧ b.y1 ≤ 4095 ∧ 0 ≤ b.x2 ∧ b.x2 ≤ 4095 ∧ 0 ≤ b.y2 ∧ b.y2 ≤ 4095
theorem okBox_pt {p : DPoint} (h : ptOk p = true) : okBox (ptBox p) := by
 simp [ptOk, inB] at h
 unfold okBox ptBox
 simp only
 omega
theorem okBox_join {a b : DBox} (ha : okBox a) (hb : okBox b) : okBox (joinB a b) := by
 unfold okBox joinB at *
 simp only
 omega
theorem okBox_over {p : DPoint} (hp : ptOk p = true) : ∀ (x : List DPoint) (_ : ∀ q ∈ x, ptOk q = true) (b : DBox) (_ : okBox b), okBox (x.foldl (fun b q => joinB b (ptBox q)) b)
 | [], _, _, hb => hb
 | q :: qs, h, _, hb => okBox_over hp qs (fun r hr => h r (List.mem_cons_of_mem _ hr)) _ (okBox_join hb (okBox_pt (h q List.mem_cons_self)))
theorem okBox_st {x : List DPoint} (h : validSt x = true) : okBox (boxSt x) := by
 have hl := validSt_len h
 cases x with
 | nil => simp at hl
 | cons p ps => exact okBox_over (validSt_pt h List.mem_cons_self) ps (fun q hq => validSt_pt h (List.mem_cons_of_mem _ hq)) _ (okBox_pt (validSt_pt h List.mem_cons_self))
def isDotB (x : List DPoint) : Bool := decide ((boxSt x).x2 - (boxSt x).x1 ≤ 160) && decide ((boxSt x).y2 - (boxSt x).y1 ≤ 160)
set_option maxHeartbeats 1000000 in
theorem l02Point_any (p : DPoint) (w : World) : Calls Tryz.prog 92 #[.agg #[.int .i64 p.x, .int .i64 p.y, .int .i64 p.t]] w (Ret (.bool (ptOk p)) w) := by
 cases h1 : inB p.x 0 4095
 ·have HV := hid (show ptOk p = false by simp [ptOk, h1])
  have H1 : ∀ w', Calls Tryz.prog 53 #[.int .i64 p.x, .int .i64 0, .int .i64 4095] w' fun e w'' => e = .returned (.bool false) ∧ w' = w'' := fun w' => h1 ▸ l00In_any _ _ _ w'
  clear h1
  go_enter Tryz.func92, Tryz.ntmps92
  go_wp2_with fail
  refine (H1 _).mono ?_
  rintro e w' ⟨rfl, rfl⟩
  go_wp2
  go_ret
  exact ret_bool HV.out.symm (below_alloc _ _)
 have H1 : ∀ w', Calls Tryz.prog 53 #[.int .i64 p.x, .int .i64 0, .int .i64 4095] w' fun e w'' => e = .returned (.bool true) ∧ w' = w'' := fun w' => h1 ▸ l00In_any _ _ _ w'
 cases h2 : inB p.y 0 4095
 ·have HV := hid (show ptOk p = false by simp [ptOk, h2])
  have H2 : ∀ w', Calls Tryz.prog 53 #[.int .i64 p.y, .int .i64 0, .int .i64 4095] w' fun e w'' => e = .returned (.bool false) ∧ w' = w'' := fun w' => h2 ▸ l00In_any _ _ _ w'
  clear h1 h2
  go_enter Tryz.func92, Tryz.ntmps92
  go_wp2_with fail
  refine (H1 _).mono ?_
  rintro e w' ⟨rfl, rfl⟩
  go_wp2_with fail
  refine (H2 _).mono ?_
  rintro e w' ⟨rfl, rfl⟩
  go_wp2
  go_ret
  exact ret_bool HV.out.symm (below_alloc _ _)
 have H2 : ∀ w', Calls Tryz.prog 53 #[.int .i64 p.y, .int .i64 0, .int .i64 4095] w' fun e w'' => e = .returned (.bool true) ∧ w' = w'' := fun w' => h2 ▸ l00In_any _ _ _ w'
 have HV := hid (show ptOk p = inB p.t 0 3600000 by simp [ptOk, h1, h2])
 clear h1 h2
 go_enter Tryz.func92, Tryz.ntmps92
 go_wp2_with fail
 refine (H1 _).mono ?_
 rintro e w' ⟨rfl, rfl⟩
 go_wp2_with fail
 refine (H2 _).mono ?_
 rintro e w' ⟨rfl, rfl⟩
 go_wp2_with fail
 refine (l00In_any _ _ _ _).mono ?_
 rintro e w' ⟨rfl, rfl⟩
 go_wp2
 go_ret
 exact ret_bool HV.out.symm (below_alloc _ _)
set_option maxHeartbeats 400000 in
theorem isCoord_any (n : Int) (w : World) : Calls Tryz.prog 150 #[.int .i64 n] w fun e w' => e = .returned (.bool (inB n 0 4095)) ∧ w = w' := by
 go_enter Tryz.func150, Tryz.ntmps150
 go_wp2_with (go_at_call 62; refine (within_any _ _ _ _).mono ?_; rintro e w' ⟨rfl, rfl⟩)
 go_ret
 exact ⟨rfl, rfl⟩
set_option maxHeartbeats 1000000 in
theorem validPoint_any (p : DPoint) (w : World) : Calls Tryz.prog 104 #[.agg #[.int .i64 p.x, .int .i64 p.y, .int .i64 p.t]] w (Ret (.bool (ptOk p)) w) := by
 cases h1 : inB p.x 0 4095
 ·have HV := hid (show ptOk p = false by simp [ptOk, h1])
  have H1 : ∀ w', Calls Tryz.prog 150 #[.int .i64 p.x] w' fun e w'' => e = .returned (.bool false) ∧ w' = w'' := fun w' => h1 ▸ isCoord_any _ w'
  clear h1
  go_enter Tryz.func104, Tryz.ntmps104
  go_wp2_with fail
  refine (H1 _).mono ?_
  rintro e w' ⟨rfl, rfl⟩
  go_wp2
  go_ret
  exact ret_bool HV.out.symm (below_alloc _ _)
 have H1 : ∀ w', Calls Tryz.prog 150 #[.int .i64 p.x] w' fun e w'' => e = .returned (.bool true) ∧ w' = w'' := fun w' => h1 ▸ isCoord_any _ w'
 cases h2 : inB p.y 0 4095
 ·have HV := hid (show ptOk p = false by simp [ptOk, h2])
  have H2 : ∀ w', Calls Tryz.prog 150 #[.int .i64 p.y] w' fun e w'' => e = .returned (.bool false) ∧ w' = w'' := fun w' => h2 ▸ isCoord_any _ w'
  clear h1 h2
  go_enter Tryz.func104, Tryz.ntmps104
  go_wp2_with fail
  refine (H1 _).mono ?_
  rintro e w' ⟨rfl, rfl⟩
  go_wp2_with fail
  refine (H2 _).mono ?_
  rintro e w' ⟨rfl, rfl⟩
  go_wp2
  go_ret
  exact ret_bool HV.out.symm (below_alloc _ _)
 have H2 : ∀ w', Calls Tryz.prog 150 #[.int .i64 p.y] w' fun e w'' => e = .returned (.bool true) ∧ w' = w'' := fun w' => h2 ▸ isCoord_any _ w'
 have HV := hid (show ptOk p = inB p.t 0 3600000 by simp [ptOk, h1, h2])
 clear h1 h2
 go_enter Tryz.func104, Tryz.ntmps104
 go_wp2_with fail
 refine (H1 _).mono ?_
 rintro e w' ⟨rfl, rfl⟩
 go_wp2_with fail
 refine (H2 _).mono ?_
 rintro e w' ⟨rfl, rfl⟩
 go_wp2_with fail
 refine (within_any _ _ _ _).mono ?_
 rintro e w' ⟨rfl, rfl⟩
 go_wp2
 go_ret
 exact ret_bool HV.out.symm (below_alloc _ _)
set_option maxHeartbeats 2000000 in
set_option maxRecDepth 100000 in
theorem l02Join_any (a b : DBox) (w : World) : Calls Tryz.prog 141 #[vBox a, vBox b] w (Ret (vBox (joinB a b)) w) := by
 unfold vBox
 go_enter Tryz.func141, Tryz.ntmps141
 go_wp2
 obtain ⟨W, hW⟩ : ∃ W, W = ((w.alloc (.cells #[.int .i64 a.x1, .int .i64 a.y1, .int .i64 a.x2, .int .i64 a.y2] 158)).alloc (.cells #[.int .i64 b.x1, .int .i64 b.y1, .int .i64 b.x2, .int .i64 b.y2] 158)).alloc (.cells #[.int .i64 0, .int .i64 0, .int .i64 0, .int .i64 0] 158) := ⟨_, rfl⟩
 have hbW : Below w.heap.size w W := by rw [hW]; exact (((Below.refl _ _).alloc (Nat.le_refl _) _).alloc (by simp) _).alloc (by simp <;> omega) _
 have q1 : Box W w.heap.size #[.int .i64 a.x1, .int .i64 a.y1, .int .i64 a.x2, .int .i64 a.y2] 158 := by rw [hW]; exact ((Box.new w _ _).alloc _).alloc _
 have q2 : Box W (w.heap.size + 1) #[.int .i64 b.x1, .int .i64 b.y1, .int .i64 b.x2, .int .i64 b.y2] 158 := by
  rw [hW]
  have := Box.new (w.alloc (.cells #[.int .i64 a.x1, .int .i64 a.y1, .int .i64 a.x2, .int .i64 a.y2] 158)) #[.int .i64 b.x1, .int .i64 b.y1, .int .i64 b.x2, .int .i64 b.y2] 158
  rw [World.size_alloc] at this
  exact this.alloc _
 have q3 : Box W (w.heap.size + 1 + 1) #[.int .i64 0, .int .i64 0, .int .i64 0, .int .i64 0] 158 := by
  rw [hW]
  have := Box.new ((w.alloc (.cells #[.int .i64 a.x1, .int .i64 a.y1, .int .i64 a.x2, .int .i64 a.y2] 158)).alloc (.cells #[.int .i64 b.x1, .int .i64 b.y1, .int .i64 b.x2, .int .i64 b.y2] 158)) #[.int .i64 0, .int .i64 0, .int .i64 0, .int .i64 0] 158
  rw [World.size_alloc, World.size_alloc] at this
  exact this
 rw [← hW]
 clear hW
 have c0 := q1.cell (j := 0) rfl
 have c1 := q1.cell (j := 1) rfl
 have c2 := q1.cell (j := 2) rfl
 have c3 := q1.cell (j := 3) rfl
 have d0 := q2.cell (j := 0) rfl
 have d1 := q2.cell (j := 1) rfl
 have d2 := q2.cell (j := 2) rfl
 have d3 := q2.cell (j := 3) rfl
 have e0 := q3.cell (j := 0) rfl
 have e1 := q3.cell (j := 1) rfl
 have e2 := q3.cell (j := 2) rfl
 have e3 := q3.cell (j := 3) rfl
 have ef := q3.free
 refine wp_region_still_tail 21 (by kernel_rfl) (by kernel_rfl) ?_
 simp only [List.take_succ_cons, List.take_zero, List.drop_succ_cons, List.drop_zero]
 repeat (first | still_step | still_call ((l00Min_any _ _ _).mono fun _ _ h => ⟨h.1, h.2.symm⟩) | still_call ((l00Max_any _ _ _).mono fun _ _ h => ⟨h.1, h.2.symm⟩))
 refine wpStill_nil ?_
 change wpList _ _ _ _ _ (World.drew _)
 go_wp2
 refine bodyPost_ret (v := vBox (joinB a b)) (by simp [results, Tryz.results141, go_sem, vBox, joinB, e0, e1, e2, e3]) rfl (ret_ret rfl ?_)
 exact ((((hbW.setCell (by simp; omega) _).setCell (by simp; omega) _).setCell (by simp; omega) _).setCell (by simp; omega) _).drew
set_option maxHeartbeats 2000000 in
theorem joinBoxes_any (a b : DBox) (w : World) : Calls Tryz.prog 152 #[vBox a, vBox b] w (Ret (vBox (joinB a b)) w) := by
 unfold vBox
 go_enter Tryz.func152, Tryz.ntmps152
 go_wp2
 all_goals
  refine bodyPost_ret (v := vBox (joinB a b)) (by simp [results, Tryz.results152, go_sem, vBox, joinB] <;> omega) rfl (ret_ret rfl ?_)
  exact (((Below.refl _ _).alloc (Nat.le_refl _) _).alloc (by simp) _).alloc (by simp <;> omega) _
end Go.Proofs.YtlnoelbeaolikaaGreat
namespace Go.Proofs.YtlnoelbeaolikaaGreat
open Go.RowKit
set_option maxHeartbeats 4000000 in
theorem l02Stroke_any (p o : Nat) (v : Value) (x : List DPoint) (w : World) (hp : w.cell? ⟨p, o, none⟩ = some v) (h : Arr ePoint w v x) (ok : x.length ≤ 1048576) :
  Calls Tryz.prog 54 #[.pointer (some ⟨p, o, none⟩)] w (Ret (.bool (validSt x)) w) := by
 obtain ⟨b, off, ao, cap, rfl, hnc, hcm, hao, hc⟩ := h
 unfold maxLen at hcm
 have hpl := World.block_lt_of_cell? w _ hp
 go_enter Tryz.func54, Tryz.ntmps54
 go_wp2
 go_loopw [3] (fun i wr => ∃ k : Nat, k ≤ x.length ∧ i = .int .i64 k ∧ Below w.heap.size w wr ∧ ∀ j e, j < k → x[j]? = some e → stOk x j e = true) (fun i _ => x.length - (intOf i).toNat)
 case atStart => exact ⟨0, Nat.zero_le _, rfl, Below.refl _ _, fun j e h => by omega⟩
 case round =>
  obtain ⟨k, hk, rfl, hb, hall⟩ := hrel
  have HA := hid hall
  clear hall
  have q1 := (hb.cell (p := ⟨p, o, none⟩) hpl).trans hp
  clear hp
  by_cases hlt : k < x.length
  ·obtain ⟨hao', hbw⟩ := hao (by omega)
   subst hao'
   obtain ⟨e, he⟩ : ∃ e, x[k]? = some e := ⟨_, List.getElem?_eq_getElem hlt⟩
   obtain ⟨c0, c1, c2⟩ := ePoint_cells (hc.below hb hbw) he
   have hli : (k : Int) < (x.length : Int) := by omega
   have HE := hid he
   clear he hao
   have HP := fun w' => l02Point_any e w'
   cases hv : ptOk e
   ·rw [hv] at HP
    go_wp2
    have x_q1 := ext_cell q1
    have x_c0 := ext_cell c0
    have x_c1 := ext_cell c1
    have x_c2 := ext_cell c2
    refine wp_region_ext (by kernel_rfl) (by kernel_rfl) ?_
    repeat (go_big_quiet_step ((go_at_call 92; exact ret_ext (HP _))))
    refine wpQuiet_nil ?_
    intro _ hw'
    obtain ⟨nq, hw''⟩ := hw'
    subst hw''
    replace q1 := x_q1 nq
    replace c0 := x_c0 nq
    replace c1 := x_c1 nq
    replace c2 := x_c2 nq
    clear x_q1 x_c0 x_c1 x_c2
    replace hb := hb.trans ((ext_below _ nq).mono hb.size)
    go_wp2
    go_ret
    exact ret_bool (validSt_at HE.out (by simp [stOk, hv])).symm hb
   rw [hv] at HP
   by_cases hk0 : 0 < k
   ·have hki : (0 : Int) < (k : Int) := by omega
    have hk1 : (0 : Int) ≤ (k : Int) - 1 := by omega
    have hk2 : (k : Int) - 1 < (x.length : Int) := by omega
    obtain ⟨pe, hpe⟩ : ∃ pe, x[k - 1]? = some pe := ⟨_, List.getElem?_eq_getElem (by omega)⟩
    obtain ⟨d0, d1, d2⟩ := ePoint_cells (hc.below hb hbw) hpe
    have e1 : ((k : Int) - 1).toNat = k - 1 := by omega
    have HORD : Hid (ordAtP x k e = decide (pe.t < e.t)) := by
     show ordAtP x k e = _
     obtain ⟨k', rfl⟩ : ∃ k', k = k' + 1 := ⟨k - 1, by omega⟩
     simp at hpe
     simp [ordAtP, hpe]
    clear hpe
    by_cases ho : e.t ≤ pe.t
    ·go_wp2
     have x_q1 := ext_cell q1
     have x_c0 := ext_cell c0
     have x_c1 := ext_cell c1
     have x_c2 := ext_cell c2
     have x_d2 := ext_cell d2
     refine wp_region_ext (by kernel_rfl) (by kernel_rfl) ?_
     repeat (go_big_quiet_step ((go_at_call 92; exact ret_ext (HP _))))
     refine wpQuiet_nil ?_
     intro _ hw'
     obtain ⟨nq, hw''⟩ := hw'
     subst hw''
     replace q1 := x_q1 nq
     replace c0 := x_c0 nq
     replace c1 := x_c1 nq
     replace c2 := x_c2 nq
     replace d2 := x_d2 nq
     clear x_q1 x_c0 x_c1 x_c2 x_d2
     replace hb := hb.trans ((ext_below _ nq).mono hb.size)
     go_wp2
     go_ret
     exact ret_bool (validSt_at HE.out (by simp [stOk, HORD.out]; intros; omega)).symm hb
    ·have ho' : pe.t < e.t := by omega
     go_wp2
     have x_q1 := ext_cell q1
     have x_c0 := ext_cell c0
     have x_c1 := ext_cell c1
     have x_c2 := ext_cell c2
     have x_d2 := ext_cell d2
     refine wp_region_ext (by kernel_rfl) (by kernel_rfl) ?_
     repeat (go_big_quiet_step ((go_at_call 92; exact ret_ext (HP _))))
     refine wpQuiet_nil ?_
     intro _ hw'
     obtain ⟨nq, hw''⟩ := hw'
     subst hw''
     replace q1 := x_q1 nq
     replace c0 := x_c0 nq
     replace c1 := x_c1 nq
     replace c2 := x_c2 nq
     replace d2 := x_d2 nq
     clear x_q1 x_c0 x_c1 x_c2 x_d2
     replace hb := hb.trans ((ext_below _ nq).mono hb.size)
     go_wp2
     go_roundw
     case rel =>
      refine ⟨k + 1, by omega, by go_num, hb, fun j e' hj he' => ?_⟩
      by_cases ej : j = k
      ·subst ej
       rw [HE.out] at he'; obtain rfl := Option.some.inj he'
       simp [stOk, hv, HORD.out, ho']
      ·exact HA.out j e' (by omega) he'
     case measure => simp [intOf]; omega
   ·have hki : (k : Int) ≤ 0 := by omega
    go_wp2
    have x_q1 := ext_cell q1
    have x_c0 := ext_cell c0
    have x_c1 := ext_cell c1
    have x_c2 := ext_cell c2
    refine wp_region_ext (by kernel_rfl) (by kernel_rfl) ?_
    repeat (go_big_quiet_step ((go_at_call 92; exact ret_ext (HP _))))
    refine wpQuiet_nil ?_
    intro _ hw'
    obtain ⟨nq, hw''⟩ := hw'
    subst hw''
    replace q1 := x_q1 nq
    replace c0 := x_c0 nq
    replace c1 := x_c1 nq
    replace c2 := x_c2 nq
    clear x_q1 x_c0 x_c1 x_c2
    replace hb := hb.trans ((ext_below _ nq).mono hb.size)
    go_wp2
    go_roundw
    case rel =>
     refine ⟨k + 1, by omega, by go_num, hb, fun j e' hj he' => ?_⟩
     obtain rfl : k = 0 := by omega
     obtain rfl : j = 0 := by omega
     rw [HE.out] at he'; obtain rfl := Option.some.inj he'
     simp [stOk, hv, ordAtP]
    case measure => simp [intOf]; omega
  ·have HV := hid (validSt_all (x := x) fun j e hj => HA.out j e (by omega))
   clear hao
   go_wp2_with (go_at_call 53; refine (l00In_any _ _ _ _).mono ?_; rintro e w' ⟨rfl, rfl⟩)
   go_ret
   exact ret_bool (by rw [HV.out]) hb
set_option maxHeartbeats 4000000 in
theorem implValidStroke_any (v : Value) (x : List DPoint) (w : World) (h : Arr ePoint w v x) (ok : x.length ≤ 1048576) :
  Calls Tryz.prog 66 #[.agg #[v]] w (Ret (.bool (validSt x)) w) := by
 obtain ⟨b, off, ao, cap, rfl, hnc, hcm, hao, hc⟩ := h
 unfold maxLen at hcm
 go_enter Tryz.func66, Tryz.ntmps66
 go_wp2
 go_loopw [8] (fun i wr => ∃ k : Nat, k ≤ x.length ∧ i = .int .i64 k ∧ Below w.heap.size w wr ∧ wr.cell? ⟨w.heap.size, 0, none⟩ = some (.slice ao x.length cap) ∧ ∀ j e, j < k → x[j]? = some e → stOk x j e = true) (fun i _ => x.length - (intOf i).toNat)
 case atStart => exact ⟨0, Nat.zero_le _, rfl, below_alloc _ _, by simp, fun j e h => by omega⟩
 case round =>
  obtain ⟨k, hk, rfl, hb, q1, hall⟩ := hrel
  have HA := hid hall
  clear hall
  by_cases hlt : k < x.length
  ·obtain ⟨hao', hbw⟩ := hao (by omega)
   subst hao'
   obtain ⟨e, he⟩ : ∃ e, x[k]? = some e := ⟨_, List.getElem?_eq_getElem hlt⟩
   obtain ⟨c0, c1, c2⟩ := ePoint_cells (hc.below hb hbw) he
   have hli : (k : Int) < (x.length : Int) := by omega
   have HE := hid he
   clear he hao
   obtain ⟨w1, hw1⟩ : ∃ w1, w1 = wr.alloc (.cells #[.int .i64 e.x, .int .i64 e.y, .int .i64 e.t] 114) := ⟨_, rfl⟩
   have hb1 : Below w.heap.size w w1 := by rw [hw1]; exact hb.alloc hb.size _
   have p1 : w1.cell? ⟨w.heap.size, 0, none⟩ = some (.slice (some ⟨b, off, none⟩) x.length cap) := by rw [hw1]; exact cell_alloc q1 _
   have e0 : w1.cell? ⟨wr.heap.size, 0, none⟩ = some (.int .i64 e.x) := by rw [hw1]; simp
   have e1 : w1.cell? ⟨wr.heap.size, 1, none⟩ = some (.int .i64 e.y) := by rw [hw1]; simp
   have e2 : w1.cell? ⟨wr.heap.size, 2, none⟩ = some (.int .i64 e.t) := by rw [hw1]; simp
   have HW1 := hid hw1
   clear hw1
   have HP := fun w' => validPoint_any e w'
   cases hv : ptOk e
   ·rw [hv] at HP
    go_wp2
    rw [← HW1.out]
    have x_p1 := ext_cell p1
    have x_e0 := ext_cell e0
    have x_e1 := ext_cell e1
    have x_e2 := ext_cell e2
    refine wp_region_ext (by kernel_rfl) (by kernel_rfl) ?_
    repeat (go_big_quiet_step ((go_at_call 104; exact ret_ext (HP _))))
    refine wpQuiet_nil ?_
    intro _ hw'
    obtain ⟨nq, hw''⟩ := hw'
    subst hw''
    replace p1 := x_p1 nq
    replace e0 := x_e0 nq
    replace e1 := x_e1 nq
    replace e2 := x_e2 nq
    clear x_p1 x_e0 x_e1 x_e2
    replace hb1 := hb1.trans ((ext_below _ nq).mono hb1.size)
    go_wp2
    go_ret
    exact ret_bool (validSt_at HE.out (by simp [stOk, hv])).symm hb1
   rw [hv] at HP
   by_cases hk0 : 0 < k
   ·have hki : (0 : Int) < (k : Int) := by omega
    have hk1 : (0 : Int) ≤ (k : Int) - 1 := by omega
    have hk2 : (k : Int) - 1 < (x.length : Int) := by omega
    obtain ⟨pe, hpe⟩ : ∃ pe, x[k - 1]? = some pe := ⟨_, List.getElem?_eq_getElem (by omega)⟩
    obtain ⟨d0, d1, d2⟩ := ePoint_cells (hc.below hb1 hbw) hpe
    have ek : ((k : Int) - 1).toNat = k - 1 := by omega
    have HORD : Hid (ordAtP x k e = decide (pe.t < e.t)) := by
     show ordAtP x k e = _
     obtain ⟨k', rfl⟩ : ∃ k', k = k' + 1 := ⟨k - 1, by omega⟩
     simp at hpe
     simp [ordAtP, hpe]
    clear hpe
    by_cases ho : e.t ≤ pe.t
    ·go_wp2
     rw [← HW1.out]
     have x_p1 := ext_cell p1
     have x_e0 := ext_cell e0
     have x_e1 := ext_cell e1
     have x_e2 := ext_cell e2
     have x_d2 := ext_cell d2
     refine wp_region_ext (by kernel_rfl) (by kernel_rfl) ?_
     repeat (go_big_quiet_step ((go_at_call 104; exact ret_ext (HP _))))
     refine wpQuiet_nil ?_
     intro _ hw'
     obtain ⟨nq, hw''⟩ := hw'
     subst hw''
     replace p1 := x_p1 nq
     replace e0 := x_e0 nq
     replace e1 := x_e1 nq
     replace e2 := x_e2 nq
     replace d2 := x_d2 nq
     clear x_p1 x_e0 x_e1 x_e2 x_d2
     replace hb1 := hb1.trans ((ext_below _ nq).mono hb1.size)
     go_wp2
     go_ret
     exact ret_bool (validSt_at HE.out (by simp [stOk, HORD.out]; intros; omega)).symm hb1
    ·have ho' : pe.t < e.t := by omega
     go_wp2
     rw [← HW1.out]
     have x_p1 := ext_cell p1
     have x_e0 := ext_cell e0
     have x_e1 := ext_cell e1
     have x_e2 := ext_cell e2
     have x_d2 := ext_cell d2
     refine wp_region_ext (by kernel_rfl) (by kernel_rfl) ?_
     repeat (go_big_quiet_step ((go_at_call 104; exact ret_ext (HP _))))
     refine wpQuiet_nil ?_
     intro _ hw'
     obtain ⟨nq, hw''⟩ := hw'
     subst hw''
     replace p1 := x_p1 nq
     replace e0 := x_e0 nq
     replace e1 := x_e1 nq
     replace e2 := x_e2 nq
     replace d2 := x_d2 nq
     clear x_p1 x_e0 x_e1 x_e2 x_d2
     replace hb1 := hb1.trans ((ext_below _ nq).mono hb1.size)
     go_wp2
     go_roundw
     case rel =>
      refine ⟨k + 1, by omega, by go_num, hb1, p1, fun j e' hj he' => ?_⟩
      by_cases ej : j = k
      ·subst ej
       rw [HE.out] at he'; obtain rfl := Option.some.inj he'
       simp [stOk, hv, HORD.out, ho']
      ·exact HA.out j e' (by omega) he'
     case measure => simp [intOf]; omega
   ·have hki : (k : Int) ≤ 0 := by omega
    go_wp2
    rw [← HW1.out]
    have x_p1 := ext_cell p1
    have x_e0 := ext_cell e0
    have x_e1 := ext_cell e1
    have x_e2 := ext_cell e2
    refine wp_region_ext (by kernel_rfl) (by kernel_rfl) ?_
    repeat (go_big_quiet_step ((go_at_call 104; exact ret_ext (HP _))))
    refine wpQuiet_nil ?_
    intro _ hw'
    obtain ⟨nq, hw''⟩ := hw'
    subst hw''
    replace p1 := x_p1 nq
    replace e0 := x_e0 nq
    replace e1 := x_e1 nq
    replace e2 := x_e2 nq
    clear x_p1 x_e0 x_e1 x_e2
    replace hb1 := hb1.trans ((ext_below _ nq).mono hb1.size)
    go_wp2
    go_roundw
    case rel =>
     refine ⟨k + 1, by omega, by go_num, hb1, p1, fun j e' hj he' => ?_⟩
     obtain rfl : k = 0 := by omega
     obtain rfl : j = 0 := by omega
     rw [HE.out] at he'; obtain rfl := Option.some.inj he'
     simp [stOk, hv, ordAtP]
    case measure => simp [intOf]; omega
  ·have HV := hid (validSt_all (x := x) fun j e hj => HA.out j e (by omega))
   clear hao
   by_cases hl1 : 1 ≤ x.length
   ·have g1 : decide ((1 : Int) ≤ (x.length : Int)) = true := by simp; omega
    go_wp2
    go_ret
    exact ret_bool (by rw [HV.out, inB]; simp; omega) hb
   ·have g1 : decide ((1 : Int) ≤ (x.length : Int)) = false := by simp; omega
    go_wp2
    go_ret
    exact ret_bool (by rw [HV.out, inB]; simp; omega) hb
theorem Box.set4 {w : World} {q : Nat} {a b c d a' b' c' d' : Value} {T : TypeId} (h : Box w q #[a, b, c, d] T) : Box ((((w.setCell ⟨q, 0, none⟩ a').setCell ⟨q, 1, none⟩ b').setCell ⟨q, 2, none⟩ c').setCell ⟨q, 3, none⟩ d') q #[a', b', c', d'] T :=
 (((h.set 0 a').set 1 b').set 2 c').set 3 d'
theorem Box.other {w : World} {q p o : Nat} {cs : Array Value} {T : TypeId} {u : Value} (h : Box w q cs T) (hne : q ≠ p) : Box (w.setCell ⟨p, o, none⟩ u) q cs T := by
 unfold Box at *
 rw [Below.heap_setCell _ _ _ _ hne]; exact h
set_option maxHeartbeats 4000000 in
theorem l02BoxOf_any (p o : Nat) (v : Value) (x : List DPoint) (w : World) (hp : w.cell? ⟨p, o, none⟩ = some v) (h : Arr ePoint w v x) (ok : x.length ≤ 1048576) (h0 : 0 < x.length) :
  Calls Tryz.prog 140 #[.pointer (some ⟨p, o, none⟩)] w (Ret (vBox (boxSt x)) w) := by
 obtain ⟨b, off, ao, cap, rfl, hnc, hcm, hao, hc⟩ := h
 unfold maxLen at hcm
 have hpl := World.block_lt_of_cell? w _ hp
 obtain ⟨hao', hbw⟩ := hao h0
 subst hao'
 obtain ⟨p0, hp0⟩ : ∃ p0, x[0]? = some p0 := ⟨_, List.getElem?_eq_getElem h0⟩
 have HB := hid (boxSt_over hp0)
 have H1 := hid (over_one hp0)
 obtain ⟨c0, c1, c2⟩ := ePoint_cells hc hp0
 simp only [Nat.zero_mul, Nat.add_zero] at c0 c1 c2
 have hl0 : (0 : Int) < (x.length : Int) := by omega
 clear hao hp0
 have hE1 := c0
 obtain ⟨W, hW⟩ : ∃ W, W = ((w.alloc (.cells #[.int .i64 0, .int .i64 0, .int .i64 0, .int .i64 0] 158)).alloc (.cells #[.int .i64 p0.x, .int .i64 p0.y, .int .i64 p0.t] 114)).alloc (.cells #[.int .i64 p0.x, .int .i64 p0.y, .int .i64 p0.x, .int .i64 p0.y] 158) := ⟨_, rfl⟩
 have hbW : Below w.heap.size w W := by rw [hW]; exact (((Below.refl _ _).alloc (Nat.le_refl _) _).alloc (by simp) _).alloc (by simp <;> omega) _
 have q1 : Box W w.heap.size #[.int .i64 0, .int .i64 0, .int .i64 0, .int .i64 0] 158 := by rw [hW]; exact ((Box.new w _ _).alloc _).alloc _
 have q3 : Box W (w.heap.size + 1 + 1) #[.int .i64 p0.x, .int .i64 p0.y, .int .i64 p0.x, .int .i64 p0.y] 158 := by
  rw [hW]
  have := Box.new ((w.alloc (.cells #[.int .i64 0, .int .i64 0, .int .i64 0, .int .i64 0] 158)).alloc (.cells #[.int .i64 p0.x, .int .i64 p0.y, .int .i64 p0.t] 114)) #[.int .i64 p0.x, .int .i64 p0.y, .int .i64 p0.x, .int .i64 p0.y] 158
  rw [World.size_alloc, World.size_alloc] at this
  exact this
 have hp1 := cell_alloc hp (.cells #[.int .i64 0, .int .i64 0, .int .i64 0, .int .i64 0] 158)
 have c0' := cell_alloc c0 (.cells #[.int .i64 0, .int .i64 0, .int .i64 0, .int .i64 0] 158)
 have c1' := cell_alloc c1 (.cells #[.int .i64 0, .int .i64 0, .int .i64 0, .int .i64 0] 158)
 have c2' := cell_alloc c2 (.cells #[.int .i64 0, .int .i64 0, .int .i64 0, .int .i64 0] 158)
 have HW := hid hW
 clear hW
 go_enter Tryz.func140, Tryz.ntmps140
 go_wp2
 rw [← HW.out]
 clear hp1 c0' c1' c2' c0 c1 c2 hE1
 go_loopw [5] (fun i wr => ∃ k : Nat, 1 ≤ k ∧ k ≤ x.length ∧ i = .int .i64 k ∧ Below w.heap.size w wr ∧ Box wr w.heap.size #[.int .i64 0, .int .i64 0, .int .i64 0, .int .i64 0] 158 ∧
   Box wr (w.heap.size + 1 + 1) #[.int .i64 (boxOver p0 (x.take k)).x1, .int .i64 (boxOver p0 (x.take k)).y1, .int .i64 (boxOver p0 (x.take k)).x2, .int .i64 (boxOver p0 (x.take k)).y2] 158) (fun i _ => x.length - (intOf i).toNat)
 case atStart => exact ⟨1, Nat.le_refl _, h0, rfl, hbW, q1, by rw [H1.out]; exact q3⟩
 case round =>
  clear q1 q3 hbW
  obtain ⟨k, hk1, hk, rfl, hb, q1, q3⟩ := hrel
  have p1 := (hb.cell (p := ⟨p, o, none⟩) hpl).trans hp
  clear hp
  obtain ⟨B, hBB⟩ : ∃ B, B = boxOver p0 (x.take k) := ⟨_, rfl⟩
  rw [← hBB] at q3
  have HBB := hid hBB
  clear hBB
  have e0 := q3.cell (j := 0) rfl
  have e1 := q3.cell (j := 1) rfl
  have e2 := q3.cell (j := 2) rfl
  have e3 := q3.cell (j := 3) rfl
  by_cases hlt : k < x.length
  ·obtain ⟨e, he⟩ : ∃ e, x[k]? = some e := ⟨_, List.getElem?_eq_getElem hlt⟩
   obtain ⟨c0, c1, c2⟩ := ePoint_cells (hc.below hb hbw) he
   have HT := hid (over_take (p := p0) he)
   have hli : (k : Int) < (x.length : Int) := by omega
   clear he
   have k0 := cell_alloc e0 (.cells #[.int .i64 e.x, .int .i64 e.y, .int .i64 e.t] 114)
   have k1 := cell_alloc e1 (.cells #[.int .i64 e.x, .int .i64 e.y, .int .i64 e.t] 114)
   have k2 := cell_alloc e2 (.cells #[.int .i64 e.x, .int .i64 e.y, .int .i64 e.t] 114)
   have k3 := cell_alloc e3 (.cells #[.int .i64 e.x, .int .i64 e.y, .int .i64 e.t] 114)
   obtain ⟨w1, hw1⟩ : ∃ w1, w1 = wr.alloc (.cells #[.int .i64 e.x, .int .i64 e.y, .int .i64 e.t] 114) := ⟨_, rfl⟩
   have q1' : Box w1 _ _ _ := hw1 ▸ q1.alloc (.cells #[.int .i64 e.x, .int .i64 e.y, .int .i64 e.t] 114)
   have q3' : Box w1 _ _ _ := hw1 ▸ q3.alloc (.cells #[.int .i64 e.x, .int .i64 e.y, .int .i64 e.t] 114)
   have hb1 : Below w.heap.size w w1 := by rw [hw1]; exact hb.alloc hb.size _
   have HW1 := hid hw1
   clear hw1
   have HJ : ∀ w', Calls Tryz.prog 141 #[.agg #[.int .i64 B.x1, .int .i64 B.y1, .int .i64 B.x2, .int .i64 B.y2], .agg #[.int .i64 e.x, .int .i64 e.y, .int .i64 e.x, .int .i64 e.y]] w' (Ret (vBox (joinB B (ptBox e))) w') := fun w' => l02Join_any B (ptBox e) w'
   go_wp2_with fail
   rw [← HW1.out]
   refine (HJ _).mono ?_
   rintro e' w2 ⟨rfl, hb2⟩
   have q1'' := q1'.later hb2
   have q3'' := q3'.later hb2
   have f0 := q3''.cell (j := 0) rfl
   have f1 := q3''.cell (j := 1) rfl
   have f2 := q3''.cell (j := 2) rfl
   have f3 := q3''.cell (j := 3) rfl
   have ff := q3''.free
   unfold vBox
   clear q1' q3' e0 e1 e2 e3 k0 k1 k2 k3
   have hb3 := hb1.trans (hb2.mono hb1.size)
   go_wp2
   go_roundw
   case rel =>
    refine ⟨k + 1, by omega, by omega, by go_num, ?_, ?_, ?_⟩
    ·exact (((hb3.setCell (by simp; omega) _).setCell (by simp; omega) _).setCell (by simp; omega) _).setCell (by simp; omega) _
    ·exact (((q1''.other (by omega)).other (by omega)).other (by omega)).other (by omega)
    ·rw [HT.out, ← HBB.out]
     exact q3''.set4
   case measure => simp [intOf]; omega
  ·obtain rfl : k = x.length := by omega
   have f0 := q1.cell (j := 0) rfl
   have f1 := q1.cell (j := 1) rfl
   have f2 := q1.cell (j := 2) rfl
   have f3 := q1.cell (j := 3) rfl
   have ff := q1.free
   go_wp2
   have HF : B = boxSt x := by rw [HBB.out, List.take_length]; exact HB.out.symm
   refine bodyPost_ret (v := vBox B) (by simp [results, Tryz.results140, go_sem, vBox, f0, f1, f2, f3]) rfl (ret_ret (by rw [HF]) ?_)
   exact (((hb.setCell (by simp) _).setCell (by simp) _).setCell (by simp) _).setCell (by simp) _
set_option maxHeartbeats 1000000 in
theorem firstOf_any (b off cap : Nat) (x : List DPoint) (p0 : DPoint) (w : World) (hc : Cells ePoint w b off x) (_ : cap ≤ maxLen) (hp0 : x[0]? = some p0) :
  Calls Tryz.prog 67 #[.agg #[.slice (some ⟨b, off, none⟩) x.length cap]] w (Ret (.agg #[.int .i64 p0.x, .int .i64 p0.y, .int .i64 p0.t]) w) := by
 obtain ⟨c0, c1, c2⟩ := ePoint_cells hc hp0
 simp only [Nat.zero_mul, Nat.add_zero] at c0 c1 c2
 have hl0 : (0 : Int) < (x.length : Int) := by have := (List.getElem?_eq_some_iff.1 hp0).1; omega
 have d0 := cell_alloc (cell_alloc c0 (.cells #[.slice (some ⟨b, off, none⟩) x.length cap] 112)) (.cells #[.int .i64 0, .int .i64 0, .int .i64 0] 114)
 have d1 := cell_alloc (cell_alloc c1 (.cells #[.slice (some ⟨b, off, none⟩) x.length cap] 112)) (.cells #[.int .i64 0, .int .i64 0, .int .i64 0] 114)
 have d2 := cell_alloc (cell_alloc c2 (.cells #[.slice (some ⟨b, off, none⟩) x.length cap] 112)) (.cells #[.int .i64 0, .int .i64 0, .int .i64 0] 114)
 clear hp0
 go_enter Tryz.func67, Tryz.ntmps67
 go_wp2
 refine bodyPost_ret (v := .agg #[.int .i64 p0.x, .int .i64 p0.y, .int .i64 p0.t]) (by simp [results, Tryz.results67, go_sem]) rfl (ret_ret rfl ?_)
 exact ((Below.refl _ _).alloc (Nat.le_refl _) _).alloc (by simp) _
set_option maxHeartbeats 4000000 in
theorem boxOfStroke_any (v : Value) (x : List DPoint) (w : World) (h : Arr ePoint w v x) (ok : x.length ≤ 1048576) (h0 : 0 < x.length) :
  Calls Tryz.prog 151 #[.agg #[v]] w (Ret (vBox (boxSt x)) w) := by
 obtain ⟨b, off, ao, cap, rfl, hnc, hcm, hao, hc⟩ := h
 obtain ⟨hao', hbw⟩ := hao h0
 subst hao'
 obtain ⟨p0, hp0⟩ : ∃ p0, x[0]? = some p0 := ⟨_, List.getElem?_eq_getElem h0⟩
 have HB := hid (boxSt_over hp0)
 have HP0 := hid hp0
 have HMX := hid hcm
 unfold maxLen at hcm
 have hl0 : (0 : Int) < (x.length : Int) := by omega
 have hcW := ((hc.below (below_alloc w (.cells #[.slice (some ⟨b, off, none⟩) x.length cap] 112)) hbw).below (below_alloc _ (.cells #[.int .i64 0, .int .i64 0, .int .i64 0, .int .i64 0] 158)) (by simp; omega))
 obtain ⟨W, hW⟩ : ∃ W, W = (w.alloc (.cells #[.slice (some ⟨b, off, none⟩) x.length cap] 112)).alloc (.cells #[.int .i64 0, .int .i64 0, .int .i64 0, .int .i64 0] 158) := ⟨_, rfl⟩
 rw [← hW] at hcW
 have hbW : Below w.heap.size w W := by rw [hW]; exact ((Below.refl _ _).alloc (Nat.le_refl _) _).alloc (by simp) _
 have q0 : Box W w.heap.size #[.slice (some ⟨b, off, none⟩) x.length cap] 112 := by rw [hW]; exact (Box.new w _ _).alloc _
 have q1 : Box W (w.heap.size + 1) #[.int .i64 0, .int .i64 0, .int .i64 0, .int .i64 0] 158 := by
  rw [hW]
  have := Box.new (w.alloc (.cells #[.slice (some ⟨b, off, none⟩) x.length cap] 112)) #[.int .i64 0, .int .i64 0, .int .i64 0, .int .i64 0] 158
  rw [World.size_alloc] at this
  exact this
 have hsz : W.heap.size = w.heap.size + 1 + 1 := by rw [hW]; simp
 have HW := hid hW
 clear hW hao hp0
 go_enter Tryz.func151, Tryz.ntmps151
 go_wp2_with fail
 rw [← HW.out]
 refine (firstOf_any b off cap x p0 W hcW HMX.out HP0.out).mono ?_
 rintro e w2 ⟨rfl, hb2⟩
 have hbw2 := hbW.trans (hb2.mono hbW.size)
 have hz2 := hb2.size
 replace q0 := q0.later hb2
 replace q1 := q1.later hb2
 have HSZ := hid hsz
 clear hsz
 have s0 := q0.cell (j := 0) rfl
 have s0' := cell_alloc s0 (.cells #[.int .i64 p0.x, .int .i64 p0.y, .int .i64 p0.t] 114)
 have s0'' := cell_alloc s0' (.cells #[.int .i64 p0.x, .int .i64 p0.y, .int .i64 p0.x, .int .i64 p0.y] 158)
 obtain ⟨W3, hW3⟩ : ∃ W3, W3 = (w2.alloc (.cells #[.int .i64 p0.x, .int .i64 p0.y, .int .i64 p0.t] 114)).alloc (.cells #[.int .i64 p0.x, .int .i64 p0.y, .int .i64 p0.x, .int .i64 p0.y] 158) := ⟨_, rfl⟩
 have hb3 : Below w.heap.size w W3 := by rw [hW3]; exact (hbw2.alloc hbw2.size _).alloc (by have := hbw2.size; simp; omega) _
 have q1' : Box W3 (w.heap.size + 1) _ _ := hW3 ▸ (q1.alloc (.cells #[.int .i64 p0.x, .int .i64 p0.y, .int .i64 p0.t] 114)).alloc (.cells #[.int .i64 p0.x, .int .i64 p0.y, .int .i64 p0.x, .int .i64 p0.y] 158)
 have q3' : Box W3 (w2.heap.size + 1) #[.int .i64 p0.x, .int .i64 p0.y, .int .i64 p0.x, .int .i64 p0.y] 158 := by
  rw [hW3]
  have := Box.new (w2.alloc (.cells #[.int .i64 p0.x, .int .i64 p0.y, .int .i64 p0.t] 114)) #[.int .i64 p0.x, .int .i64 p0.y, .int .i64 p0.x, .int .i64 p0.y] 158
  rw [World.size_alloc] at this
  exact this
 have hg4 : w.heap.size + 1 < w2.heap.size + 1 := by have := HSZ.out; omega
 have HW3 := hid hW3
 clear hW3
 go_wp2
 rw [← HW3.out]
 clear s0 s0' s0'' q0 q1
 obtain ⟨g4, hg⟩ : ∃ g4, g4 = w2.heap.size + 1 := ⟨_, rfl⟩
 rw [← hg] at q3' hg4 ⊢
 have HG := hid hg
 clear hg
 go_loopw [21] (fun i wr => ∃ k : Nat, k ≤ x.length ∧ i = .int .i64 k ∧ Below w.heap.size w wr ∧ Box wr (w.heap.size + 1) #[.int .i64 0, .int .i64 0, .int .i64 0, .int .i64 0] 158 ∧
   Box wr g4 #[.int .i64 (boxOver p0 (x.take k)).x1, .int .i64 (boxOver p0 (x.take k)).y1, .int .i64 (boxOver p0 (x.take k)).x2, .int .i64 (boxOver p0 (x.take k)).y2] 158) (fun i _ => x.length - (intOf i).toNat)
 case atStart => exact ⟨0, Nat.zero_le _, rfl, hb3, q1', q3'⟩
 case round =>
  clear q1' q3' hb3
  obtain ⟨k, hk, rfl, hb, q1, q3⟩ := hrel
  obtain ⟨B, hBB⟩ : ∃ B, B = boxOver p0 (x.take k) := ⟨_, rfl⟩
  rw [← hBB] at q3
  have HBB := hid hBB
  clear hBB
  have e0 := q3.cell (j := 0) rfl
  have e1 := q3.cell (j := 1) rfl
  have e2 := q3.cell (j := 2) rfl
  have e3 := q3.cell (j := 3) rfl
  by_cases hlt : k < x.length
  ·obtain ⟨e, he⟩ : ∃ e, x[k]? = some e := ⟨_, List.getElem?_eq_getElem hlt⟩
   obtain ⟨c0, c1, c2⟩ := ePoint_cells (hc.below hb hbw) he
   have HT := hid (over_take (p := p0) he)
   have hli : (k : Int) < (x.length : Int) := by omega
   clear he
   have k0 := cell_alloc e0 (.cells #[.int .i64 e.x, .int .i64 e.y, .int .i64 e.t] 114)
   have k1 := cell_alloc e1 (.cells #[.int .i64 e.x, .int .i64 e.y, .int .i64 e.t] 114)
   have k2 := cell_alloc e2 (.cells #[.int .i64 e.x, .int .i64 e.y, .int .i64 e.t] 114)
   have k3 := cell_alloc e3 (.cells #[.int .i64 e.x, .int .i64 e.y, .int .i64 e.t] 114)
   obtain ⟨w1, hw1⟩ : ∃ w1, w1 = wr.alloc (.cells #[.int .i64 e.x, .int .i64 e.y, .int .i64 e.t] 114) := ⟨_, rfl⟩
   have q1' : Box w1 _ _ _ := hw1 ▸ q1.alloc (.cells #[.int .i64 e.x, .int .i64 e.y, .int .i64 e.t] 114)
   have q3' : Box w1 _ _ _ := hw1 ▸ q3.alloc (.cells #[.int .i64 e.x, .int .i64 e.y, .int .i64 e.t] 114)
   have hb1 : Below w.heap.size w w1 := by rw [hw1]; exact hb.alloc hb.size _
   have HW1 := hid hw1
   clear hw1
   have HJ : ∀ w', Calls Tryz.prog 152 #[.agg #[.int .i64 B.x1, .int .i64 B.y1, .int .i64 B.x2, .int .i64 B.y2], .agg #[.int .i64 e.x, .int .i64 e.y, .int .i64 e.x, .int .i64 e.y]] w' (Ret (vBox (joinB B (ptBox e))) w') := fun w' => joinBoxes_any B (ptBox e) w'
   go_wp2_with fail
   rw [← HW1.out]
   refine (HJ _).mono ?_
   rintro e' w4 ⟨rfl, hb4⟩
   have q1'' := q1'.later hb4
   have q3'' := q3'.later hb4
   have f0 := q3''.cell (j := 0) rfl
   have f1 := q3''.cell (j := 1) rfl
   have f2 := q3''.cell (j := 2) rfl
   have f3 := q3''.cell (j := 3) rfl
   have ff := q3''.free
   unfold vBox
   clear q1' q3' e0 e1 e2 e3 k0 k1 k2 k3
   have hb5 := hb1.trans (hb4.mono hb1.size)
   go_wp2
   go_roundw
   case rel =>
    refine ⟨k + 1, by omega, by go_num, ?_, ?_, ?_⟩
    ·exact (((hb5.setCell (by simp; omega) _).setCell (by simp; omega) _).setCell (by simp; omega) _).setCell (by simp; omega) _
    ·exact (((q1''.other (by omega)).other (by omega)).other (by omega)).other (by omega)
    ·rw [HT.out, ← HBB.out]
     exact q3''.set4
   case measure => simp [intOf]; omega
  ·obtain rfl : k = x.length := by omega
   have f0 := q1.cell (j := 0) rfl
   have f1 := q1.cell (j := 1) rfl
   have f2 := q1.cell (j := 2) rfl
   have f3 := q1.cell (j := 3) rfl
   have ff := q1.free
   go_wp2
   have HF : B = boxSt x := by rw [HBB.out, List.take_length]; exact HB.out.symm
   refine bodyPost_ret (v := vBox B) (by simp [results, Tryz.results151, go_sem, vBox, f0, f1, f2, f3]) rfl (ret_ret (by rw [HF]) ?_)
   exact (((hb.setCell (by simp) _).setCell (by simp) _).setCell (by simp) _).setCell (by simp) _
end Go.Proofs.YtlnoelbeaolikaaGreat
