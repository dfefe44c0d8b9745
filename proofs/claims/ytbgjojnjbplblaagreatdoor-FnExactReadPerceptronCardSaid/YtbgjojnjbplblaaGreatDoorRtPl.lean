/- Texts that are read: parts between bytes, numbers in decimal. Plain lemmas, no program. -/
import Derived.Test.YtbgjojnjbplblaaGreatDoorBase
import Derived.Lib.Split
import Derived.Lib.AtoiTie
import Derived.Lib.AtoiAll
import Derived.Lib.ParseIntBTie
import Derived.Lib.ItoaNum
import Derived.Lib.Strings
namespace Go.Proofs.YtbgjojnjbplblaaGreatDoor

/-! ### parts of a list of bytes -/
def splL (b : UInt8) : List UInt8 → List (List UInt8)
  | [] => [[]]
  | c :: t => if c = b then [] :: splL b t else match splL b t with | [] => [[c]] | h :: r => (c :: h) :: r
theorem splL_ne (b : UInt8) : ∀ s, splL b s ≠ []
  | [] => by simp [splL]
  | c :: t => by
    unfold splL
    split
    · simp
    · split <;> simp
theorem splL_hit {b : UInt8} : ∀ {u : List UInt8} (_ : b ∉ u) (v : List UInt8), splL b (u ++ b :: v) = u :: splL b v
  | [], _, v => by
    show splL b (b :: v) = _
    rw [splL, if_pos rfl]
  | c :: u, h, v => by
    have hc : c ≠ b := fun e => h (by rw [e]; exact List.mem_cons_self)
    show splL b (c :: (u ++ b :: v)) = _
    rw [splL, if_neg hc, splL_hit (fun hm => h (List.mem_cons_of_mem _ hm))]
theorem splL_none {b : UInt8} : ∀ {u : List UInt8} (_ : b ∉ u), splL b u = [u]
  | [], _ => rfl
  | c :: u, h => by
    have hc : c ≠ b := fun e => h (by rw [e]; exact List.mem_cons_self)
    rw [splL, if_neg hc, splL_none (fun hm => h (List.mem_cons_of_mem _ hm))]
theorem splL_mem {b : UInt8} : ∀ {s p : List UInt8}, p ∈ splL b s → b ∉ p
  | [], p, h => by simp [splL] at h; subst h; simp
  | c :: t, p, h => by
    unfold splL at h
    split at h
    · rcases List.mem_cons.1 h with h1 | h1
      · subst h1; simp
      · exact splL_mem h1
    · rename_i hc
      cases ht : splL b t with
      | nil => exact absurd ht (splL_ne b t)
      | cons x r =>
        rw [ht] at h
        simp only at h
        rcases List.mem_cons.1 h with h1 | h1
        · subst h1
          intro hm
          rcases List.mem_cons.1 hm with h2 | h2
          · exact hc h2.symm
          · exact splL_mem (s := t) (p := x) (by rw [ht]; exact List.mem_cons_self) h2
        · exact splL_mem (s := t) (p := p) (by rw [ht]; exact List.mem_cons_of_mem _ h1)
def joinL (b : UInt8) : List (List UInt8) → List UInt8
  | [] => []
  | [p] => p
  | p :: q :: r => p ++ b :: joinL b (q :: r)
theorem joinL_cons (b : UInt8) (p : List UInt8) {r : List (List UInt8)} (h : r ≠ []) : joinL b (p :: r) = p ++ b :: joinL b r := by
  cases r with
  | nil => exact absurd rfl h
  | cons q r => rfl
theorem join_splL (b : UInt8) : ∀ s, joinL b (splL b s) = s
  | [] => rfl
  | c :: t => by
    unfold splL
    by_cases hc : c = b
    · rw [if_pos hc, joinL_cons b [] (splL_ne b t), join_splL b t, hc]; rfl
    · rw [if_neg hc]
      have ih := join_splL b t
      cases ht : splL b t with
      | nil => exact absurd ht (splL_ne b t)
      | cons x r =>
        rw [ht] at ih
        simp only
        cases r with
        | nil => rw [show joinL b [x] = x from rfl] at ih; rw [show joinL b [c :: x] = c :: x from rfl, ih]
        | cons y r => rw [joinL_cons b _ (by simp)] at ih ⊢; rw [← ih]; rfl
theorem splL_join {b : UInt8} : ∀ {P : List (List UInt8)}, P ≠ [] → (∀ p ∈ P, b ∉ p) → splL b (joinL b P) = P
  | [], h, _ => absurd rfl h
  | [p], _, h => splL_none (h p List.mem_cons_self)
  | p :: q :: r, _, h => by
    rw [joinL_cons b p (by simp), splL_hit (h p List.mem_cons_self), splL_join (by simp) fun x hx => h x (List.mem_cons_of_mem _ hx)]
theorem splL_snoc (b : UInt8) : ∀ s, splL b (s ++ [b]) = splL b s ++ [[]]
  | [] => by simp [splL]
  | c :: t => by
    show splL b (c :: (t ++ [b])) = _
    unfold splL
    by_cases hc : c = b
    · rw [if_pos hc, if_pos hc, splL_snoc b t]; rfl
    · rw [if_neg hc, if_neg hc, splL_snoc b t]
      cases ht : splL b t with
      | nil => exact absurd ht (splL_ne b t)
      | cons x r => rfl
theorem splL_len (b : UInt8) : ∀ s, (splL b s).length ≤ s.length + 1
  | [] => by simp [splL]
  | c :: t => by
    have ih := splL_len b t
    unfold splL
    split
    · simp; omega
    · split
      · simp
      · rename_i h r e
        rw [e] at ih
        simp at ih ⊢; omega
theorem splL_plen {b : UInt8} : ∀ {s l : List UInt8}, l ∈ splL b s → l.length ≤ s.length := by
  intro s
  induction s with
  | nil => intro l h; simp [splL] at h; subst h; simp
  | cons c t ih =>
    intro l h
    unfold splL at h
    split at h
    · rcases List.mem_cons.1 h with h1 | h1
      · subst h1; simp
      · have := ih h1; simp; omega
    · cases ht : splL b t with
      | nil => exact absurd ht (splL_ne b t)
      | cons x r =>
        rw [ht] at h ih
        simp only at h
        rcases List.mem_cons.1 h with h1 | h1
        · subst h1; have := ih (l := x) List.mem_cons_self; simp; omega
        · have := ih (List.mem_cons_of_mem _ h1); simp; omega
theorem splL_ends {b : UInt8} {s : List UInt8} : (splL b s).getLast? = some [] ↔ s = [] ∨ ∃ t, s = t ++ [b] := by
  constructor
  · intro h
    by_cases hs : s = []
    · exact .inl hs
    · right
      refine ⟨s.dropLast, ?_⟩
      have h1 := List.dropLast_concat_getLast hs
      by_cases hl : s.getLast hs = b
      · rw [hl] at h1; exact h1.symm
      · exfalso
        have key : ∀ (t : List UInt8) (c : UInt8), c ≠ b → (splL b (t ++ [c])).getLast? ≠ some [] := by
          intro t c hc
          induction t with
          | nil => simp [splL, hc]
          | cons a t ih =>
            show (splL b (a :: (t ++ [c]))).getLast? ≠ _
            unfold splL
            split
            · rw [List.getLast?_cons_of_ne_nil (splL_ne _ _)]; exact ih
            · cases ht : splL b (t ++ [c]) with
              | nil => exact absurd ht (splL_ne _ _)
              | cons x r =>
                rw [ht] at ih
                cases r with
                | nil => simp
                | cons y r => simpa using ih
        exact key _ _ hl (by rw [h1]; exact h)
  · rintro (h | ⟨t, h⟩)
    · subst h; rfl
    · subst h; rw [splL_snoc]; simp

/-! ### what the library's functions say -/
theorem occ_one (s : List UInt8) (b : UInt8) (i : Nat) : Lib.occAt s [b] i = (s[i]? == some b) := by
  unfold Lib.occAt
  cases h : s.drop i with
  | nil =>
    have : s[i]? = none := by rw [List.getElem?_eq_none_iff]; exact List.drop_eq_nil_iff.1 h
    rw [this]; rfl
  | cons c t =>
    have : s[i]? = some c := by rw [← List.head?_drop, h]; rfl
    rw [this]
    have e : ((some c : Option UInt8) == some b) = (c == b) := rfl
    rw [e]
    show (b == c && List.isPrefixOf [] t) = (c == b)
    rw [show List.isPrefixOf [] t = true from by cases t <;> rfl, Bool.and_true]
    cases h1 : (b == c) with
    | true => rw [beq_iff_eq] at h1; subst h1; simp
    | false => rw [beq_eq_false_iff_ne] at h1; symm; rw [beq_eq_false_iff_ne]; exact fun e => h1 e.symm
theorem take_no {s : List UInt8} {b : UInt8} {i : Nat} (h : ∀ j, j < i → s[j]? ≠ some b) : b ∉ s.take i := by
  intro hm
  obtain ⟨j, hj⟩ := List.mem_iff_getElem?.1 hm
  have hlt := (List.getElem?_eq_some_iff.1 hj).1
  rw [List.length_take] at hlt
  rw [List.getElem?_take_of_lt (by omega)] at hj
  exact h j (by omega) hj
theorem split_at {s : List UInt8} {b : UInt8} {i : Nat} (h : s[i]? = some b) : s = s.take i ++ b :: s.drop (i + 1) := by
  have hl := (List.getElem?_eq_some_iff.1 h).1
  have e : s[i] = b := (List.getElem?_eq_some_iff.1 h).2
  rw [← e, ← List.drop_eq_getElem_cons hl, List.take_append_drop]
theorem index_one (s : List UInt8) (b : UInt8) : (Lib.index s [b] = -1 ∧ b ∉ s) ∨ ∃ i : Nat, Lib.index s [b] = i ∧ i < s.length ∧ s[i]? = some b ∧ b ∉ s.take i := by
  rcases Lib.index_spec s [b] with ⟨h1, h2⟩ | ⟨i, h1, h2, h3, h4⟩
  · left
    refine ⟨h1, fun hm => ?_⟩
    obtain ⟨j, hj⟩ := List.mem_iff_getElem?.1 hm
    have := h2 j (by have := (List.getElem?_eq_some_iff.1 hj).1; omega)
    rw [occ_one, hj] at this
    simp at this
  · right
    rw [occ_one] at h3
    have h3' : s[i]? = some b := by simpa using h3
    refine ⟨i, h1, (List.getElem?_eq_some_iff.1 h3').1, h3', take_no fun j hj => ?_⟩
    have := h4 j hj
    rw [occ_one] at this
    simpa using this
theorem splitK_one (b : UInt8) : ∀ (n : Nat) (s : List UInt8), s.length ≤ n → Lib.splitK [b] 0 (Lib.count s [b]) s = splL b s := by
  intro n
  induction n with
  | zero =>
    intro s h
    have : s = [] := List.length_eq_zero_iff.1 (by omega)
    subst this
    rw [Lib.count_miss (by simp [Lib.index])]; rfl
  | succ n ih =>
    intro s hn
    rcases index_one s b with ⟨h1, h2⟩ | ⟨i, h1, h2, h3, h4⟩
    · rw [Lib.count_miss h1, splL_none h2]; rfl
    · rw [Lib.count_hit (by simp) h1, Nat.add_comm, Lib.splitK, if_neg (by rw [h1]; simp <;> omega), h1]
      have e := split_at h3
      conv => rhs; rw [e]
      rw [splL_hit h4]
      have e2 : ((i : Int)).toNat = i := by omega
      simp only [e2, Nat.add_zero, List.length_singleton]
      rw [ih _ (by rw [List.length_drop]; omega)]
theorem splL_count (b : UInt8) : ∀ (n : Nat) (s : List UInt8), s.length ≤ n → (splL b s).length = Lib.count s [b] + 1 := by
  intro n
  induction n with
  | zero =>
    intro s h
    have : s = [] := List.length_eq_zero_iff.1 (by omega)
    subst this
    rw [Lib.count_miss (by simp [Lib.index])]; rfl
  | succ n ih =>
    intro s hn
    rcases index_one s b with ⟨h1, h2⟩ | ⟨i, h1, h2, h3, h4⟩
    · rw [Lib.count_miss h1, splL_none h2]; rfl
    · rw [Lib.count_hit (by simp) h1]
      have e := split_at h3
      conv => lhs; rw [e]
      rw [splL_hit h4]
      simp only [List.length_cons]
      rw [ih _ (by rw [List.length_drop]; omega)]
      simp
      omega
theorem cut_len (s : List UInt8) (b : UInt8) : (Lib.cut s [b]).1.length ≤ s.length := by
  unfold Lib.cut
  split
  · simp; omega
  · simp
theorem cut_hit {b : UInt8} {u : List UInt8} (h : b ∉ u) (v : List UInt8) : Lib.cut (u ++ b :: v) [b] = (u, v, true) := by
  have hi : Lib.index (u ++ b :: v) [b] = u.length := by
    refine Lib.index_first (by simp) (by rw [occ_one]; simp) fun j hj => ?_
    rw [occ_one, List.getElem?_append_left hj]
    cases hx : (u[j]? == some b) with
    | false => rfl
    | true => exact absurd (List.mem_of_getElem? (by simpa using hx)) h
  unfold Lib.cut
  rw [hi, if_pos (by omega)]
  simp
theorem hasSuf_one (s : List UInt8) (b : UInt8) : Lib.hasSuffix s [b] = true ↔ ∃ t, s = t ++ [b] := by
  unfold Lib.hasSuffix
  rw [List.isSuffixOf_iff_suffix]
  constructor
  · rintro ⟨t, h⟩; exact ⟨t, h.symm⟩
  · rintro ⟨t, h⟩; exact ⟨t, h.symm⟩
theorem trimSuf_one (t : List UInt8) (b : UInt8) : Lib.trimSuffix (t ++ [b]) [b] = t := by
  unfold Lib.trimSuffix
  rw [if_pos ((hasSuf_one _ _).2 ⟨t, rfl⟩)]
  simp

/-! ### numbers in decimal -/
/-- what stands behind a minus sign -/
def noMinus (l : List UInt8) : List UInt8 := match l with | [] => [] | c :: r => if c = 45 then r else l
/-- the number with a text: none where the text is not its own text, or has more than 18 digits -/
def rdN (l : List UInt8) : Option Int := if 1 ≤ (noMinus l).length ∧ (noMinus l).length ≤ 18 then (match Lib.atoi l with | some n => if Lib.itoa n = l then some n else none | none => none) else none
def rdNv (l : List UInt8) : Int := (rdN l).getD 0
def rdNb (l : List UInt8) : Bool := (rdN l).isSome
theorem rdN_some {l : List UInt8} {n : Int} (h : rdN l = some n) : Lib.itoa n = l ∧ (noMinus l).length ≤ 18 := by
  unfold rdN at h
  split at h
  · rename_i hb
    cases ha : Lib.atoi l with
    | none => rw [ha] at h; cases h
    | some m =>
      rw [ha] at h
      simp only at h
      split at h
      · rename_i hi
        cases h
        exact ⟨hi, hb.2⟩
      · cases h
  · cases h
theorem decFrom_app : ∀ (a : List UInt8) (acc : Nat) (b : List UInt8), Lib.decFrom acc (a ++ b) = (Lib.decFrom acc a).bind fun m => Lib.decFrom m b
  | [], acc, b => rfl
  | c :: a, acc, b => by
    simp only [List.cons_append, Lib.decFrom]
    cases Lib.digitVal c with
    | none => rfl
    | some d => exact decFrom_app a _ b
theorem digitVal_of {d : Nat} (h : d < 10) : Lib.digitVal (UInt8.ofNat (48 + d)) = some d := by
  have e : (UInt8.ofNat (48 + d)).toNat = 48 + d := by simp; omega
  unfold Lib.digitVal
  rw [e, if_pos (by omega)]
  congr 1; omega
theorem decFrom_digits : ∀ (u : Nat), Lib.decFrom 0 (Lib.decDigits u) = some u := by
  intro u
  induction u using Nat.strongRecOn with
  | _ u ih =>
    rw [Lib.decDigits]
    split
    · rename_i h
      simp only [Lib.decFrom, digitVal_of h]
      congr 1; omega
    · rename_i h
      rw [decFrom_app, ih (u / 10) (by omega)]
      simp only [Option.bind_some, Lib.decFrom, digitVal_of (show u % 10 < 10 by omega)]
      congr 1; omega
theorem nDig_le : ∀ (k u : Nat), u < 10 ^ (k + 1) → Lib.nDigits u ≤ k + 1
  | 0, u, h => by rw [Lib.nDigits_small (by simpa using h)]; exact Nat.le_refl _
  | k + 1, u, h => by
    by_cases h1 : u < 10
    · rw [Lib.nDigits_small h1]; omega
    · rw [Lib.nDigits_big h1]
      have : u / 10 < 10 ^ (k + 1) := by rw [Nat.pow_succ] at h; omega
      have := nDig_le k _ this
      omega
theorem digs_ne (u : Nat) : Lib.decDigits u ≠ [] := by
  intro h
  have h1 := congrArg List.length h
  rw [Lib.decDigits_length] at h1
  have := Lib.nDigits_pos u
  simp at h1; omega
theorem digit_byte {u : Nat} {c : UInt8} (h : c ∈ Lib.decDigits u) : 48 ≤ c.toNat ∧ c.toNat ≤ 57 := by
  obtain ⟨k, hk⟩ := List.mem_iff_getElem?.1 h
  obtain ⟨d, hd⟩ := Lib.digit_of_decFrom _ 0 u (decFrom_digits u) k c hk
  have := Lib.digitVal_eq hd
  exact ⟨this.1, this.2.1⟩
theorem digs_head (u : Nat) : ∃ c r, Lib.decDigits u = c :: r ∧ 48 ≤ c.toNat ∧ c.toNat ≤ 57 := by
  cases h : Lib.decDigits u with
  | nil => exact absurd h (digs_ne u)
  | cons c r => exact ⟨c, r, rfl, digit_byte (u := u) (by rw [h]; exact List.mem_cons_self)⟩
theorem itoa_byte {n : Int} {c : UInt8} (h : c ∈ Lib.itoa n) : c = 45 ∨ (48 ≤ c.toNat ∧ c.toNat ≤ 57) := by
  unfold Lib.itoa at h
  split at h
  · rcases List.mem_cons.1 h with h1 | h1
    · exact .inl h1
    · exact .inr (digit_byte h1)
  · exact .inr (digit_byte h)
theorem itoa_no {n : Int} {b : UInt8} (hb : b.toNat < 45) : b ∉ Lib.itoa n := by
  intro h
  rcases itoa_byte h with h1 | h1
  · subst h1; exact absurd hb (by decide)
  · omega
theorem itoa_no2 {n : Int} {b : UInt8} (hb : 57 < b.toNat) : b ∉ Lib.itoa n := by
  intro h
  rcases itoa_byte h with h1 | h1
  · subst h1; exact absurd hb (by decide)
  · omega
theorem itoa_ne (n : Int) : Lib.itoa n ≠ [] := by
  unfold Lib.itoa
  split
  · simp
  · exact digs_ne _
theorem atoi_itoa (n : Int) : Lib.atoi (Lib.itoa n) = some n := by
  unfold Lib.itoa
  by_cases h : n < 0
  · rw [if_pos h]
    simp only [Lib.atoi, beq_self_eq_true, if_true, Lib.decNat]
    rw [if_neg (by rw [List.isEmpty_iff]; exact digs_ne _), decFrom_digits]
    simp only [Option.map_some]
    congr 1; omega
  · rw [if_neg h]
    obtain ⟨c, r, e, h1, h2⟩ := digs_head n.toNat
    have hc1 : (c == 45) = false := by
      rw [beq_eq_false_iff_ne]; rintro rfl; exact absurd h1 (by decide)
    have hc2 : (c == 43) = false := by
      rw [beq_eq_false_iff_ne]; rintro rfl; exact absurd h1 (by decide)
    have hd := decFrom_digits n.toNat
    rw [e] at hd ⊢
    simp only [Lib.atoi, hc1, hc2, Bool.false_eq_true, if_false, Lib.decNat, List.isEmpty_cons]
    rw [hd]
    simp only [Option.map_some]
    congr 1; omega
theorem noMinus_itoa (n : Int) : noMinus (Lib.itoa n) = Lib.decDigits n.natAbs := by
  unfold Lib.itoa
  by_cases h : n < 0
  · rw [if_pos h]; simp [noMinus]
  · rw [if_neg h, show n.toNat = n.natAbs by omega]
    obtain ⟨c, r, e, h1, h2⟩ := digs_head n.natAbs
    rw [e]
    have hc1 : c ≠ 45 := by rintro rfl; exact absurd h1 (by decide)
    simp [noMinus, hc1]
theorem rdN_itoa {n : Int} (h : n.natAbs < 1000000000000000000) : rdN (Lib.itoa n) = some n := by
  have e18 : (10 : Nat) ^ (17 + 1) = 1000000000000000000 := by decide
  unfold rdN
  rw [noMinus_itoa, Lib.decDigits_length, if_pos ⟨Lib.nDigits_pos _, nDig_le 17 _ (by rw [e18]; exact h)⟩, atoi_itoa]
  simp
theorem rdN_val {l : List UInt8} {n : Int} (h : rdN l = some n) : n.natAbs < 1000000000000000000 := by
  obtain ⟨h1, h2⟩ := rdN_some h
  rw [← h1, noMinus_itoa, Lib.decDigits_length] at h2
  have h3 := Lib.lt_pow_nDigits n.natAbs
  have h4 : 10 ^ Lib.nDigits n.natAbs ≤ 10 ^ 18 := Nat.pow_le_pow_right (by decide) h2
  have e18 : (10 : Nat) ^ 18 = 1000000000000000000 := by decide
  omega
theorem rdN_bd {l : List UInt8} {n : Int} (h : rdN l = some n) : -1000000000000000000 < n ∧ n < 1000000000000000000 := by
  have := rdN_val h
  omega
theorem rdNv_bd (l : List UInt8) : -1000000000000000000 < rdNv l ∧ rdNv l < 1000000000000000000 := by
  unfold rdNv
  cases h : rdN l with
  | none => simp
  | some n => exact rdN_bd h
theorem rdNv_itoa {n : Int} (h : n.natAbs < 1000000000000000000) : rdNv (Lib.itoa n) = n := by
  unfold rdNv; rw [rdN_itoa h]; rfl
/-- what the library's ParseInt says of a text that is short enough -/
theorem parse_short {l : List UInt8} (h : (noMinus l).length ≤ 18) : Lib.parseIntB 64 l = Lib.NumEnd.ofOption (Lib.atoi l) := by
  rw [Lib.parseIntB_64]
  cases l with
  | nil => rfl
  | cons c r =>
    by_cases hc : c = 45
    · subst hc
      have : r.length ≤ 18 := by simpa [noMinus] using h
      rw [Lib.atoiAll_minus, Lib.signed_short this]
      rfl
    · have : (c :: r).length ≤ 18 := by simpa [noMinus, hc] using h
      exact Lib.atoiAll_short _ this
end Go.Proofs.YtbgjojnjbplblaaGreatDoor
