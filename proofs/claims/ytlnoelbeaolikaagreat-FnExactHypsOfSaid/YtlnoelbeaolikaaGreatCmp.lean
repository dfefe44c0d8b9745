/- The order of strings. Plain lemmas, no program. -/
import Derived.Test.YtlnoelbeaolikaaGreatBase
import Derived.Test.YtlnoelbeaolikaaGreatRows
import Derived.Test.YtlnoelbeaolikaaGreatRep
namespace Go.Proofs.YtlnoelbeaolikaaGreat

theorem bless_eq : ∀ (x y : List UInt8), Op.bytesLess x y = decide (x < y)
  | [], [] => by simp [Op.bytesLess]
  | _ :: _, [] => by simp [Op.bytesLess]
  | [], _ :: _ => by simp [Op.bytesLess]
  | a :: x, b :: y => by
    rw [Op.bytesLess, bless_eq x y]
    simp only [List.cons_lt_cons_iff]
    by_cases h1 : a < b <;> by_cases h2 : a = b <;> by_cases h3 : x < y <;> simp [h1, h2, h3]

def ltB (a b : ByteArray) : Bool := Op.bytesLess a.toList b.toList
theorem ltB_irrefl (a : ByteArray) : ltB a a = false := by
  unfold ltB; rw [bless_eq]; simp [List.lt_irrefl]
theorem ltB_trans {a b c : ByteArray} (h : ltB a b = true) (k : ltB b c = true) : ltB a c = true := by
  unfold ltB at *; rw [bless_eq] at *; simp at *; exact List.lt_trans h k
theorem ltB_or {a b : ByteArray} (h : ltB a b = false) (k : ltB b a = false) : a.toList = b.toList := by
  unfold ltB at *; rw [bless_eq] at *; simp at h k
  exact List.le_antisymm k h
theorem ltB_ne {a b : ByteArray} (h : ltB a b = true) : (a.toList == b.toList) = false := by
  rw [beq_eq_false_iff_ne]; intro e
  unfold ltB at h; rw [e] at h
  have := ltB_irrefl b
  unfold ltB at this
  rw [this] at h; cases h
theorem ltB_asymm {a b : ByteArray} (h : ltB a b = true) : ltB b a = false := by
  cases k : ltB b a with
  | false => rfl
  | true => have := ltB_trans h k; rw [ltB_irrefl] at this; cases this
theorem ltB_congr {a b c : ByteArray} (h : a.toList = b.toList) : ltB a c = ltB b c ∧ ltB c a = ltB c b := by
  unfold ltB; rw [h]; exact ⟨rfl, rfl⟩
end Go.Proofs.YtlnoelbeaolikaaGreat
namespace Go.Proofs.YtlnoelbeaolikaaGreat
open Go.RowKit

theorem ret_i {k : IntKind} {a b : Int} (h : a = b) : Ending.returned (.int k a) = .returned (.int k b) := by rw [h]
set_option maxHeartbeats 400000 in
theorem l00Min_any (a b : Int) (w : World) : Calls Tryz.prog 98 #[.int .i64 a, .int .i64 b] w fun e w' => e = .returned (.int .i64 (min a b)) ∧ w = w' := by
  by_cases h : a < b
  all_goals
    go_enter Tryz.func98, Tryz.ntmps98
    go_wp2
    go_ret
    exact ⟨ret_i (by omega), rfl⟩
set_option maxHeartbeats 400000 in
theorem l00Max_any (a b : Int) (w : World) : Calls Tryz.prog 182 #[.int .i64 a, .int .i64 b] w fun e w' => e = .returned (.int .i64 (max a b)) ∧ w = w' := by
  by_cases h : b < a
  all_goals
    go_enter Tryz.func182, Tryz.ntmps182
    go_wp2
    go_ret
    exact ⟨ret_i (by omega), rfl⟩
end Go.Proofs.YtlnoelbeaolikaaGreat
namespace Go.Proofs.YtlnoelbeaolikaaGreat
open Go.RowKit

def eqS (a b : ByteArray) : Bool := a.toList == b.toList
def cmpB (a b : ByteArray) : Int := if ltB a b then -1 else if eqS a b then 0 else 1
def cmpI (a b : Int) : Int := if a < b then -1 else if b < a then 1 else 0
theorem cmpI_ne {a b : Int} (h : a ≠ b) : cmpI a b ≠ 0 := by
  unfold cmpI; split
  · omega
  · split <;> omega
theorem cmpI_self (a : Int) : cmpI a a = 0 := by simp [cmpI]
def orL : List Int → Int
  | [] => 0
  | x :: xs => if x = 0 then orL xs else x
def eInt : Enc Int := ⟨fun x => [.int .i64 x], 1, fun _ => rfl, by decide, fun x u hu => by simp at hu; subst hu; rfl⟩
theorem eInt_cells {w : World} {b off : Nat} {es : List Int} (h : Cells eInt w b off es) {k : Nat} {x : Int} (hx : es[k]? = some x) : w.cell? ⟨b, off + k, none⟩ = some (.int .i64 x) := by
  have := h k x hx 0 _ rfl
  simpa [eInt] using this
theorem isNaN_any (s : ByteArray) (w : World) : Calls Tryz.prog 135 #[.string s] w fun e w' => e = .returned (.bool false) ∧ w = w' := by
  go_enter Tryz.func135, Tryz.ntmps135
  go_wp2
  go_ret
  exact ⟨by simp, rfl⟩
theorem cmpStr_any (a b : ByteArray) (w : World) : Calls Tryz.prog 86 #[.string a, .string b] w fun e w' => e = .returned (.int .i64 (cmpB a b)) ∧ w = w' := by
  cases h1 : Op.bytesLess a.toList b.toList <;> cases h2 : (a.toList == b.toList)
  all_goals
    go_enter Tryz.func86, Tryz.ntmps86
    go_wp2_with (go_at_call 135; refine (isNaN_any _ _).mono ?_; rintro e w' ⟨rfl, rfl⟩)
    go_ret
    exact ⟨by simp [cmpB, ltB, eqS, h1, h2], rfl⟩
theorem isNaNI_any (s : Int) (w : World) : Calls Tryz.prog 134 #[.int .i64 s] w fun e w' => e = .returned (.bool false) ∧ w = w' := by
  go_enter Tryz.func134, Tryz.ntmps134
  go_wp2
  go_ret
  exact ⟨by simp, rfl⟩
theorem cmpInt_any (a b : Int) (w : World) : Calls Tryz.prog 85 #[.int .i64 a, .int .i64 b] w fun e w' => e = .returned (.int .i64 (cmpI a b)) ∧ w = w' := by
  by_cases h1 : a < b <;> by_cases h2 : b < a
  all_goals
    go_enter Tryz.func85, Tryz.ntmps85
    go_wp2_with (go_at_call 134; refine (isNaNI_any _ _).mono ?_; rintro e w' ⟨rfl, rfl⟩)
    go_ret
    exact ⟨ret_i (by unfold cmpI; split <;> (try split) <;> omega), rfl⟩
theorem maxLen_ge {n : Nat} (h : n ≤ 1000) : n ≤ maxLen := by unfold maxLen; omega
theorem arr_new {w : World} {T : TypeId} {n : Nat} (xs : List Int) (l : Array Value) (hl : l = (xs.map fun x => Value.int .i64 x).toArray) (hn : n = xs.length) (hm : n ≤ maxLen) : Arr eInt (w.alloc (.cells l T)) (.slice (some ⟨w.heap.size, 0, none⟩) n n) xs := by
  subst hn hl
  refine ⟨w.heap.size, 0, some ⟨w.heap.size, 0, none⟩, xs.length, rfl, Nat.le_refl _, hm, fun _ => ⟨rfl, by simp⟩, fun k x hx j u hu => ?_⟩
  have hj : j = 0 := by have := (List.getElem?_eq_some_iff.1 hu).1; simp [eInt] at this; omega
  subst hj
  simp [eInt] at hu
  subst hu
  have h0 := heap_alloc_new w (.cells (xs.map fun x => Value.int .i64 x).toArray T)
  rw [cell_of_row _ _ _ _ _ _ h0]
  simp [eInt, hx]
theorem orL_skip : ∀ {xs : List Int} {k : Nat} (_ : ∀ j x, j < k → xs[j]? = some x → x = 0), orL xs = orL (xs.drop k)
  | _, 0, _ => rfl
  | [], _ + 1, _ => rfl
  | x :: xs, k + 1, h => by
    have h0 := h 0 x (by omega) rfl
    rw [orL, if_pos h0, List.drop_succ_cons]
    exact orL_skip fun j y hj hy => h (j + 1) y (by omega) hy
set_option maxHeartbeats 400000 in
theorem cmpOr_any (v : Value) (xs : List Int) (w : World) (h : Arr eInt w v xs) : Calls Tryz.prog 84 #[v] w fun e w' => e = .returned (.int .i64 (orL xs)) ∧ w = w' := by
  obtain ⟨b, off, ao, cap, rfl, hnc, hcm, hao, hc⟩ := h
  unfold maxLen at hcm
  go_enter Tryz.func84, Tryz.ntmps84
  go_wp2
  go_loop [5, 8] (fun _ i => ∃ k : Nat, k ≤ xs.length ∧ i = .int .i64 k ∧ ∀ j x, j < k → xs[j]? = some x → x = 0) (fun _ i => xs.length - (intOf i).toNat)
  case atStart => exact ⟨0, Nat.zero_le _, rfl, fun j x h => by omega⟩
  case round =>
    obtain ⟨k, hk, rfl, hall⟩ := hrel
    have HA := hid hall
    clear hall
    by_cases hlt : k < xs.length
    · obtain ⟨hao', hbw⟩ := hao (by omega)
      subst hao'
      obtain ⟨x, hx⟩ : ∃ x, xs[k]? = some x := ⟨_, List.getElem?_eq_getElem hlt⟩
      have c0 := eInt_cells hc hx
      have hli : (k : Int) < (xs.length : Int) := by omega
      have HX := hid hx
      clear hx hao hc
      by_cases h0 : x = 0
      · have hne : (x != 0) = false := by rw [bne_eq_false_iff_eq]; exact h0
        have H0 := hid h0
        clear h0
        go_wp2
        go_round
        case rel =>
          refine ⟨k + 1, by omega, by go_num, fun j y hj hy => ?_⟩
          by_cases ej : j = k
          · subst ej; rw [HX.out] at hy; obtain rfl := Option.some.inj hy; exact H0.out
          · exact HA.out j y (by omega) hy
        case measure => simp [intOf]; omega
      · have hne : (x != 0) = true := by rw [bne_iff_ne]; exact h0
        have HR : Hid (orL xs = x) := by
          show orL xs = x
          rw [orL_skip HA.out, List.drop_eq_getElem_cons hlt]
          have : xs[k] = x := by have := HX.out; rw [List.getElem?_eq_getElem hlt] at this; exact Option.some.inj this
          rw [this, orL, if_neg h0]
        clear h0
        go_wp2
        go_ret
        exact ⟨by rw [HR.out]; rfl, rfl⟩
    · have HR : Hid (orL xs = 0) := by
        show orL xs = 0
        rw [orL_skip HA.out, List.drop_of_length_le (by omega)]; rfl
      clear hao hc
      go_wp2
      go_ret
      exact ⟨by rw [HR.out]; rfl, rfl⟩
end Go.Proofs.YtlnoelbeaolikaaGreat
namespace Go.Proofs.YtlnoelbeaolikaaGreat
open Go.RowKit

theorem ownI_set {e : TypeId} {B g cap n : Nat} {w : World} {xs : List Int} (h : Own eInt e B w (.slice (some ⟨g, 0, none⟩) n cap) xs) (hn : n = xs.length) {k : Nat} (hk : k < n) (u : Int) :
    Own eInt e B (w.setCell ⟨g, k, none⟩ (.int .i64 u)) (.slice (some ⟨g, 0, none⟩) n cap) (xs.set k u) ∧ w.grownBy (w.setCell ⟨g, k, none⟩ (.int .i64 u)) (some g) := by
  have := h.set hn k (by omega) u
  simpa [storesAt, eInt] using this
theorem ownI_get {e : TypeId} {B g cap n : Nat} {w : World} {xs : List Int} (h : Own eInt e B w (.slice (some ⟨g, 0, none⟩) n cap) xs) (hn : n = xs.length) {k : Nat} {u : Int} (hk : xs[k]? = some u) :
    w.cell? ⟨g, k, none⟩ = some (.int .i64 u) := by
  subst hn
  have hlt := (List.getElem?_eq_some_iff.1 hk).1
  have h1 : (eInt.flat xs)[k]? = some (.int .i64 u) := by
    have := eInt.flat_get xs k u 0 hk (by decide)
    simpa [eInt] using this
  have h2 : k < xs.length * eInt.sz := by show k < xs.length * 1; omega
  rw [World.ownsRow.cellAt h _ h2, h1]
theorem ownI_below {e : TypeId} {g cap n B : Nat} {w w1 : World} {k : Nat} {u : Int} {xs : List Int} (h : Own eInt e B w1 (.slice (some ⟨g, 0, none⟩) n cap) xs) (hn : n = xs.length) (hk : k < n) (hb : Below B w w1) :
    Own eInt e B (w1.setCell ⟨g, k, none⟩ (.int .i64 u)) (.slice (some ⟨g, 0, none⟩) n cap) (xs.set k u) ∧ Below B w (w1.setCell ⟨g, k, none⟩ (.int .i64 u)) :=
  ⟨(ownI_set h hn hk u).1, hb.setCell h.lt.1 _⟩
theorem infoInt : (Tryz.prog.info? 2).map (fun i => (i.zero, i.size, i.bytes)) = some (some (.int .i64 0), 1, 8) := by kernel_rfl
theorem set_len {xs : List Int} {k : Nat} {u : Int} {n : Nat} (h : n = xs.length) : n = (xs.set k u).length := by simpa using h
end Go.Proofs.YtlnoelbeaolikaaGreat
