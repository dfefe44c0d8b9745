/- The perceptron: what its functions compute. Plain lemmas, no program. -/
import Derived.Test.YtbgjojnjbplblaaGreatDoorCmp
import Derived.Test.YtbgjojnjbplblaaGreatDoorFlFeat
namespace Go.Proofs.YtbgjojnjbplblaaGreatDoor

def featOk (f : DFeat) : Bool := inB f.x 0 255 && inB f.y 0 255 && inB f.d 0 7
def featsOk (l : List DFeat) : Bool := l.all featOk && inB l.length 1 384
/-- the index of a feature's direction, and of its place -/
def ixD (f : DFeat) : Nat := f.d.toNat
def ixP (f : DFeat) : Nat := 8 + (f.y.toNat / 64 * 4 + f.x.toNat / 64)
def bump (l : List Int) (k : Nat) : List Int := l.set k (l.getD k 0 + 1)
def cntF (l : List DFeat) : List Int := l.foldl (fun a f => bump (bump a (ixD f)) (ixP f)) (List.replicate 25 0)
def nearQ (c n : Int) : Int := (2 * c + n) / (2 * n)
def inpF (l : List DFeat) : List Int := ((cntF l).map fun c => nearQ (c * 256) l.length).set 24 256
theorem bump_len (l : List Int) (k : Nat) : (bump l k).length = l.length := by simp [bump]
theorem foldF_len (L : List DFeat) : ∀ a : List Int, (L.foldl (fun a f => bump (bump a (ixD f)) (ixP f)) a).length = a.length := by
  induction L with
  | nil => intro a; rfl
  | cons f L ih => intro a; rw [List.foldl_cons, ih, bump_len, bump_len]
theorem cntF_len (L : List DFeat) : (cntF L).length = 25 := by rw [cntF, foldF_len]; simp
theorem inpF_len (L : List DFeat) : (inpF L).length = 25 := by simp [inpF, cntF_len]
theorem cntF_take {L : List DFeat} {k : Nat} {f : DFeat} (h : L[k]? = some f) : cntF (L.take (k + 1)) = bump (bump (cntF (L.take k)) (ixD f)) (ixP f) := by
  unfold cntF; rw [List.take_add_one, h]; simp
theorem featOk_bd {f : DFeat} (h : featOk f = true) : 0 ≤ f.x ∧ f.x ≤ 255 ∧ 0 ≤ f.y ∧ f.y ≤ 255 ∧ 0 ≤ f.d ∧ f.d ≤ 7 := by
  unfold featOk at h
  rw [Bool.and_eq_true, Bool.and_eq_true, inB_true, inB_true, inB_true] at h
  omega
theorem ixD_lt {f : DFeat} (h : featOk f = true) : ixD f < 8 := by have := featOk_bd h; unfold ixD; omega
theorem ixP_lt {f : DFeat} (h : featOk f = true) : 8 ≤ ixP f ∧ ixP f < 24 := by have := featOk_bd h; unfold ixP; omega
def okCnt (n : Nat) (l : List Int) : Prop := ∀ k, 0 ≤ l.getD k 0 ∧ l.getD k 0 ≤ n
theorem okCnt_bump {n : Nat} {l : List Int} (h : okCnt n l) (k : Nat) : okCnt (n + 1) (bump l k) := by
  intro j
  unfold bump
  have h1 := h j
  have h2 := h k
  simp only [List.getD, List.getElem?_set] at *
  by_cases e : k = j
  · subst e
    rw [if_pos rfl]
    split
    · simp only [Option.getD_some]; omega
    · simp; omega
  · rw [if_neg e]; omega
theorem okCnt_mono {n m : Nat} {l : List Int} (h : okCnt n l) (hm : n ≤ m) : okCnt m l := fun k => by have := h k; omega
theorem okCnt_fold : ∀ (L : List DFeat) (n : Nat) (a : List Int), okCnt n a → okCnt (n + 2 * L.length) (L.foldl (fun a f => bump (bump a (ixD f)) (ixP f)) a)
  | [], n, a, h => h
  | f :: L, n, a, h => by
    rw [List.foldl_cons]
    exact okCnt_mono (okCnt_fold L (n + 1 + 1) _ (okCnt_bump (okCnt_bump h _) _)) (by simp; omega)
theorem cntF_ok (L : List DFeat) : okCnt (2 * L.length) (cntF L) := by
  have := okCnt_fold L 0 (List.replicate 25 0) (fun k => by rw [List.getD, List.getElem?_replicate]; split <;> simp)
  rwa [Nat.zero_add] at this
theorem nearQ_bd {c n : Int} (h0 : 0 ≤ c) (h1 : c ≤ 196608) (hn : 1 ≤ n) : 0 ≤ nearQ c n ∧ nearQ c n ≤ 196608 := by
  unfold nearQ
  refine ⟨Int.ediv_nonneg (by omega) (by omega), ?_⟩
  have h2 : 2 * c + n < (196609) * (2 * n) := by
    have : 2 * c ≤ 2 * 196608 * n := by
      have := Int.mul_le_mul_of_nonneg_left hn (by omega : (0 : Int) ≤ 2 * 196608)
      omega
    have e : (196609 : Int) * (2 * n) = 2 * 196608 * n + 2 * n := by
      rw [show (196609 : Int) * (2 * n) = (196609 * 2) * n from by rw [Int.mul_assoc], show (2 : Int) * 196608 * n + 2 * n = (2 * 196608 + 2) * n from by rw [Int.add_mul]]
      rfl
    omega
  have := Int.ediv_lt_of_lt_mul (by omega : 0 < 2 * n) h2
  omega
theorem inpF_bd {L : List DFeat} (h : featsOk L = true) {k : Nat} {c : Int} (hc : (inpF L)[k]? = some c) : 0 ≤ c ∧ c ≤ 196608 := by
  unfold featsOk at h
  rw [Bool.and_eq_true, inB_true] at h
  unfold inpF at hc
  rw [List.getElem?_set] at hc
  split at hc
  · split at hc
    · cases hc; omega
    · cases hc
  · rw [List.getElem?_map] at hc
    cases hk : (cntF L)[k]? with
    | none => rw [hk] at hc; cases hc
    | some d =>
      rw [hk] at hc
      cases hc
      have := cntF_ok L k
      rw [List.getD, hk, Option.getD_some] at this
      exact nearQ_bd (by omega) (by omega) (by omega)
/-- the way by the remainder -/
theorem near_rest {c n : Int} (hn : 1 ≤ n) (_ : 0 ≤ c) : nearQ c n = if n - (c - c / n * n) ≤ c - c / n * n then c / n + 1 else c / n := by
  unfold nearQ
  have h1 := Int.emod_add_mul_ediv c n
  have h2 := Int.emod_nonneg c (by omega : n ≠ 0)
  have h3 := Int.emod_lt_of_pos c (by omega : 0 < n)
  generalize c / n = q at *
  generalize c % n = r at *
  have e : c - q * n = r := by rw [Int.mul_comm q n]; omega
  rw [e]
  have hq : 2 * c + n = (2 * n) * q + (2 * r + n) := by
    rw [← h1, Int.mul_add, Int.mul_assoc]; omega
  rw [hq, Int.add_comm, Int.add_mul_ediv_left _ _ (by omega)]
  split
  · have : (2 * r + n) / (2 * n) = 1 := by
      rw [Int.ediv_eq_iff_of_pos (by omega)]; omega
    omega
  · have : (2 * r + n) / (2 * n) = 0 := Int.ediv_eq_zero_of_lt (by omega) (by omega)
    omega

/-! ### scores -/
def dotK (r x : List Int) (k : Nat) : Int := ((List.range k).map fun i => r.getD i 0 * x.getD i 0).sum
def scoreR (x r : List Int) : Int := dotK r x 25
def scoresF (W : List (List Int)) (x : List Int) : List Int := W.map (scoreR x)
theorem dotK_succ (r x : List Int) (k : Nat) : dotK r x (k + 1) = dotK r x k + r.getD k 0 * x.getD k 0 := by
  unfold dotK; rw [List.range_succ]; simp
def rowOk (r : List Int) : Bool := decide (r.length = 25) && r.all fun c => inB c (-1000000) 1000000
theorem rowOk_bd {r : List Int} (h : rowOk r = true) (k : Nat) : -1000000 ≤ r.getD k 0 ∧ r.getD k 0 ≤ 1000000 := by
  unfold rowOk at h
  rw [Bool.and_eq_true, List.all_eq_true] at h
  cases hk : r[k]? with
  | none => simp [List.getD, hk]
  | some c =>
    have := inB_true.1 (h.2 c (List.mem_of_getElem? hk))
    rw [List.getD, hk, Option.getD_some]; exact this
def okInp (x : List Int) : Prop := x.length = 25 ∧ ∀ k, 0 ≤ x.getD k 0 ∧ x.getD k 0 ≤ 196608
theorem okInp_of {L : List DFeat} (h : featsOk L = true) : okInp (inpF L) := by
  refine ⟨inpF_len L, fun k => ?_⟩
  cases hk : (inpF L)[k]? with
  | none => simp [List.getD, hk]
  | some c => rw [List.getD, hk, Option.getD_some]; exact inpF_bd h hk
theorem mul_bd {a b : Int} (h1 : -1000000 ≤ a) (h2 : a ≤ 1000000) (h3 : 0 ≤ b) (h4 : b ≤ 196608) : -196608000000 ≤ a * b ∧ a * b ≤ 196608000000 := by
  have e1 := Int.mul_le_mul_of_nonneg_right h2 h3
  have e2 := Int.mul_le_mul_of_nonneg_right h1 h3
  omega
theorem dotK_bd {r x : List Int} (hr : rowOk r = true) (hx : okInp x) : ∀ k : Nat, k ≤ 25 → -196608000000 * (k : Int) ≤ dotK r x k ∧ dotK r x k ≤ 196608000000 * (k : Int)
  | 0, _ => by simp [dotK]
  | k + 1, h => by
    rw [dotK_succ]
    have h1 := dotK_bd hr hx k (by omega)
    have h2 := rowOk_bd hr k
    have h3 := hx.2 k
    have h4 := mul_bd h2.1 h2.2 h3.1 h3.2
    omega
theorem score_bd {r x : List Int} (hr : rowOk r = true) (hx : okInp x) : -4915200000000 ≤ scoreR x r ∧ scoreR x r ≤ 4915200000000 := by
  have := dotK_bd hr hx 25 (Nat.le_refl _)
  unfold scoreR; omega
/-! ### the greatest -/
/-- the index of the first greatest number among the first k + 1 -/
def bestK (l : List Int) : Nat → Nat
  | 0 => 0
  | k + 1 => if l.getD (bestK l k) 0 < l.getD (k + 1) 0 then k + 1 else bestK l k
def bestI (l : List Int) : Nat := bestK l (l.length - 1)
theorem bestK_le (l : List Int) : ∀ k, bestK l k ≤ k
  | 0 => Nat.le_refl _
  | k + 1 => by unfold bestK; split; exact Nat.le_refl _; exact Nat.le_succ_of_le (bestK_le l k)
theorem bestK_max (l : List Int) : ∀ k j, j ≤ k → l.getD j 0 ≤ l.getD (bestK l k) 0
  | 0, j, h => by obtain rfl : j = 0 := by omega
                  exact Int.le_refl _
  | k + 1, j, h => by
    have ih := bestK_max l k
    unfold bestK
    split
    · rename_i hlt
      by_cases e : j = k + 1
      · subst e; exact Int.le_refl _
      · have := ih j (by omega); omega
    · rename_i hlt
      by_cases e : j = k + 1
      · subst e; omega
      · exact ih j (by omega)
theorem bestK_first (l : List Int) : ∀ k j, j < bestK l k → l.getD j 0 < l.getD (bestK l k) 0
  | 0, j, h => by unfold bestK at h; omega
  | k + 1, j, h => by
    unfold bestK at h ⊢
    split at h
    · rename_i hlt
      rw [if_pos hlt]
      have := bestK_max l k j (by omega)
      omega
    · rename_i hlt
      rw [if_neg hlt]
      exact bestK_first l k j h
end Go.Proofs.YtbgjojnjbplblaaGreatDoor
