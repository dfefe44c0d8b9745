/- The gap ahead of a place. -/
import Derived.Test.YtdadmphmpojjhaaInkOrderOf
namespace Go.Proofs.Ytdadmphmpojjhaa
open Go.RowKit

-- the order holds each stroke once
def sumR : Nat → (Nat → Nat) → Nat
  | 0, _ => 0
  | n + 1, f => sumR n f + f n
theorem sumR_add (n : Nat) (f g : Nat → Nat) : sumR n (fun k => f k + g k) = sumR n f + sumR n g := by
  induction n with
  | zero => rfl
  | succ n ih => simp only [sumR, ih]; omega
theorem sumR_congr {n : Nat} {f g : Nat → Nat} (h : ∀ k, k < n → f k = g k) : sumR n f = sumR n g := by
  induction n with
  | zero => rfl
  | succ n ih => simp only [sumR]; rw [ih fun k hk => h k (by omega), h n (by omega)]
theorem sumR_delta (n j : Nat) : sumR n (fun k => if j = k then 1 else 0) = if j < n then 1 else 0 := by
  induction n with
  | zero => simp [sumR]
  | succ n ih =>
    simp only [sumR, ih]
    by_cases h1 : j < n
    · rw [if_pos h1, if_neg (by omega), if_pos (by omega)]
    · rw [if_neg h1]
      by_cases h2 : j = n
      · rw [if_pos h2, if_pos (by omega)]
      · rw [if_neg h2, if_neg (by omega)]
theorem sumR_zero (n : Nat) : sumR n (fun _ => 0) = 0 := by
  induction n with
  | zero => rfl
  | succ n ih => simp only [sumR, ih]
theorem sumR_one (n : Nat) : sumR n (fun _ => 1) = n := by
  induction n with
  | zero => rfl
  | succ n ih => simp only [sumR, ih]
theorem flat_len_sum (n : Nat) (F : Nat → List Int) : ((List.range n).flatMap F).length = sumR n fun k => (F k).length := by
  induction n with
  | zero => rfl
  | succ n ih => rw [List.range_succ, List.flatMap_append, List.length_append, ih]; simp [sumR]
def hAt (H : List Int) (k : Nat) : Int := (H[k]?).getD 0
theorem ordRow_one (H : List Int) (k m : Nat) (hm : m < H.length) : (ordRow H k (m + 1)).length = (ordRow H k m).length + if hAt H m = (k : Int) then 1 else 0 := by
  have hx : H[m]? = some (hAt H m) := by simp [hAt, hm]
  by_cases h : hAt H m = (k : Int)
  · rw [ordRow_t (by rw [hx, h]), if_pos h]; simp
  · rw [ordRow_f hx h, if_neg h]; rfl
theorem ord_count {H : List Int} (hP : ∀ d, d < H.length → hAt H d < 0 ∨ ∃ j, j < H.length ∧ hAt H d = (j : Int) ∧ hAt H j < 0) : ∀ m, m ≤ H.length →
    sumR H.length (fun k => if hAt H k < 0 then 1 + (ordRow H k m).length else 0) = sumR H.length (fun k => if hAt H k < 0 then 1 else 0) + sumR m (fun d => if hAt H d < 0 then 0 else 1)
  | 0, _ => by simp [ordRow_zero, sumR]
  | m + 1, hm => by
    have ih := ord_count hP m (by omega)
    have e : sumR H.length (fun k => if hAt H k < 0 then 1 + (ordRow H k (m + 1)).length else 0) = sumR H.length (fun k => if hAt H k < 0 then 1 + (ordRow H k m).length else 0) + sumR H.length (fun k => if hAt H k < 0 then (if hAt H m = (k : Int) then 1 else 0) else 0) := by
      rw [← sumR_add]
      refine sumR_congr fun k _ => ?_
      by_cases hk : hAt H k < 0
      · rw [if_pos hk, if_pos hk, if_pos hk, ordRow_one H k m (by omega)]; omega
      · rw [if_neg hk, if_neg hk, if_neg hk]
    rw [e, ih]
    simp only [sumR]
    have e2 : sumR H.length (fun k => if hAt H k < 0 then (if hAt H m = (k : Int) then 1 else 0) else 0) = if hAt H m < 0 then 0 else 1 := by
      rcases hP m (by omega) with h | ⟨j, hj, h1, h2⟩
      · rw [if_pos h]
        refine Eq.trans (sumR_congr (g := fun _ => 0) fun k _ => ?_) (sumR_zero H.length)
        split
        · rw [if_neg (by omega)]
        · rfl
      · rw [if_neg (by omega)]
        have := sumR_delta H.length j
        rw [if_pos hj] at this
        refine Eq.trans (sumR_congr (g := fun k => if j = k then 1 else 0) fun k _ => ?_) this
        by_cases hk : j = k
        · subst hk; rw [if_pos h2, if_pos h1, if_pos rfl]
        · rw [if_neg hk]
          split
          · rw [if_neg (by omega)]
          · rfl
    rw [e2]
    omega
theorem ord_len {H : List Int} (hP : ∀ d, d < H.length → hAt H d < 0 ∨ ∃ j, j < H.length ∧ hAt H d = (j : Int) ∧ hAt H j < 0) : (ordTo H H.length).length = H.length := by
  unfold ordTo
  rw [flat_len_sum]
  have e : sumR H.length (fun k => (ordAt H k).length) = sumR H.length (fun k => if hAt H k < 0 then 1 + (ordRow H k H.length).length else 0) := by
    refine sumR_congr fun k hk => ?_
    have hx : H[k]? = some (hAt H k) := by simp [hAt, hk]
    by_cases h : hAt H k < 0
    · rw [if_pos h, ordAt_f hx h, List.length_cons]; omega
    · rw [if_neg h, ordAt_t hx (by omega)]; rfl
  rw [e, ord_count hP H.length (Nat.le_refl _), ← sumR_add]
  refine Eq.trans (sumR_congr (g := fun _ => 1) fun k _ => ?_) (sumR_one H.length)
  split <;> rfl
theorem homeF_home (X : XInk) (d : DBox) : ∀ k, k ≤ X.length → (homeF X d k).1 = -1 ∨ ∃ j s, j < k ∧ (homeF X d k).1 = (j : Int) ∧ X[j]? = some s ∧ isDotB s = false
  | 0, _ => .inl rfl
  | k + 1, hk => by
    obtain ⟨s, hs⟩ : ∃ s, X[k]? = some s := ⟨_, List.getElem?_eq_getElem (by omega)⟩
    rw [homeF_succ hs]
    have ih : (homeF X d k).1 = -1 ∨ ∃ j s, j < k + 1 ∧ (homeF X d k).1 = (j : Int) ∧ X[j]? = some s ∧ isDotB s = false := by
      rcases homeF_home X d k (by omega) with h | ⟨j, t, h1, h2⟩
      · exact .inl h
      · exact .inr ⟨j, t, by omega, h2⟩
    unfold stepH
    cases hd : isDotB s
    · rw [if_neg (by simp)]
      split
      · exact .inr ⟨k, s, by omega, rfl, hs, hd⟩
      · exact ih
    · rw [if_pos rfl]; exact ih
theorem homes_ok (X : XInk) : ∀ d, d < (homesTo X X.length).length → hAt (homesTo X X.length) d < 0 ∨ ∃ j, j < (homesTo X X.length).length ∧ hAt (homesTo X X.length) d = (j : Int) ∧ hAt (homesTo X X.length) j < 0 := by
  intro d hd
  rw [homesTo_len] at hd ⊢
  have e : ∀ k, k < X.length → hAt (homesTo X X.length) k = homeI X k := fun k hk => by unfold hAt; rw [homesTo_get hk]; rfl
  rw [e d hd]
  obtain ⟨s, hs⟩ : ∃ s, X[d]? = some s := ⟨_, List.getElem?_eq_getElem hd⟩
  cases hdot : isDotB s
  · left; rw [homeI_f hs hdot]; omega
  · rw [homeI_t hs hdot]
    rcases homeF_home X (boxSt s) d (by omega) with h | ⟨j, t, h1, h2, h3, h4⟩
    · left; omega
    · right
      refine ⟨j, by omega, h2, ?_⟩
      rw [e j (by omega), homeI_f h3 h4]; omega
theorem orderI_len (X : XInk) : (orderI X).length = X.length := by
  have := ord_len (homes_ok X)
  rw [homesTo_len] at this
  exact this
theorem orderI_in (X : XInk) : ∀ e ∈ orderI X, ∃ j, j < X.length ∧ e = ((j : Nat) : Int) := by
  intro e he
  unfold orderI ordTo at he
  obtain ⟨k, hk, he⟩ := List.mem_flatMap.1 he
  have hk : k < X.length := by simpa using hk
  unfold ordAt at he
  split at he
  · split at he
    · simp at he
    · rcases List.mem_cons.1 he with rfl | he
      · exact ⟨k, hk, rfl⟩
      · unfold ordRow at he
        obtain ⟨d, hd, rfl⟩ := List.mem_map.1 he
        have := (List.mem_filter.1 hd).1
        rw [homesTo_len] at this
        exact ⟨d, by simpa using this, rfl⟩
  · simp at he

def strokeAt (X : XInk) (L : List Int) (k : Nat) : XStroke := (X[((L[k]?).getD 0).toNat]?).getD []
def gapR (X : XInk) (L : List Int) : Nat → Int
  | 0 => 0
  | k + 1 => max (gapR X L k) (boxSt (strokeAt X L k)).x2
def gapI (X : XInk) (L : List Int) (k : Nat) : Int := (boxSt (strokeAt X L k)).x1 - gapR X L k
def fitsL (X : XInk) (L : List Int) : Prop := ∀ e ∈ L, ∃ j, j < X.length ∧ e = ((j : Nat) : Int)
theorem fitsL_at {X : XInk} {L : List Int} (h : fitsL X L) {k : Nat} (hk : k < L.length) : ∃ (j : Nat) (s : XStroke), j < X.length ∧ L[k]? = some (j : Int) ∧ X[j]? = some s ∧ strokeAt X L k = s := by
  obtain ⟨j, hj, he⟩ := h L[k] (List.getElem_mem hk)
  have hx : L[k]? = some (j : Int) := by rw [List.getElem?_eq_getElem hk, he]
  obtain ⟨s, hs⟩ : ∃ s, X[j]? = some s := ⟨_, List.getElem?_eq_getElem hj⟩
  exact ⟨j, s, hj, hx, hs, by simp [strokeAt, hx, hs]⟩
theorem gapR_bd {X : XInk} {L : List Int} (hv : validInk X = true) (h : fitsL X L) : ∀ k, k ≤ L.length → 0 ≤ gapR X L k ∧ gapR X L k ≤ 4095
  | 0, _ => by simp [gapR]
  | k + 1, hk => by
    have ih := gapR_bd hv h k (by omega)
    obtain ⟨j, s, _, _, hs, e⟩ := fitsL_at h (k := k) (by omega)
    have := okBox_st (validInk_st hv hs)
    unfold okBox at this
    simp only [gapR, e]
    omega
theorem fieldB (a b c d : Int) (w : World) : (Instr.field 86 (.agg #[.int .i64 a, .int .i64 b, .int .i64 c, .int .i64 d]) 2).run Try.prog w = .ok (.int .i64 c) w := by kernel_rfl
theorem fieldB0 (a b c d : Int) (w : World) : (Instr.field 86 (.agg #[.int .i64 a, .int .i64 b, .int .i64 c, .int .i64 d]) 0).run Try.prog w = .ok (.int .i64 a) w := by kernel_rfl
end Go.Proofs.Ytdadmphmpojjhaa
