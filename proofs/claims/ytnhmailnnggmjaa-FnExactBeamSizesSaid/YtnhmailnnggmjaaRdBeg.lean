/- Whether a word of a lexicon begins with a text, and the readings at the first node. -/
import Derived.Test.YtnhmailnnggmjaaLxCost
import Derived.Test.YtnhmailnnggmjaaCmp
import Derived.Test.YtnhmailnnggmjaaRdRows
namespace Go.Proofs.Ytnhmailnnggmjaa
open Go.RowKit

def preB (p w : ByteArray) : Bool := decide (p.size ≤ w.size) && eqS (w.extract 0 p.size) p
def begLx (x : XLexicon) (s : ByteArray) : Bool := x.any fun e => preB s e.word
theorem toList_len (a : ByteArray) : a.toList.length = a.size := by rw [ByteArray.toList_eq]; simp
theorem extract_toList (a : ByteArray) (n : Nat) : (a.extract 0 n).toList = a.toList.take n := by
  rw [ByteArray.toList_eq, ByteArray.toList_eq, ByteArray.data_extract]
  simp
theorem preB_iff {p w : ByteArray} : preB p w = true ↔ p.toList <+: w.toList := by
  unfold preB eqS
  rw [extract_toList, Bool.and_eq_true, decide_eq_true_eq, beq_iff_eq, List.prefix_iff_eq_take, toList_len]
  constructor
  · rintro ⟨_, h⟩; exact h.symm
  · intro h
    refine ⟨?_, h.symm⟩
    have := congrArg List.length h
    rw [List.length_take, toList_len, toList_len] at this
    omega
theorem ltB_list (a b : ByteArray) : ltB a b = decide (a.toList < b.toList) := by unfold ltB; rw [bless_eq]
theorem prefix_le : ∀ (s e : List UInt8), s <+: e → ¬ e < s
  | [], e, _, h => by cases e <;> simp at h
  | c :: s, [], h, _ => by simp at h
  | c :: s, d :: e, h, hl => by
    rw [List.cons_prefix_cons] at h
    obtain ⟨rfl, h⟩ := h
    rw [List.cons_lt_cons_iff] at hl
    rcases hl with hl | ⟨_, hl⟩
    · exact UInt8.lt_irrefl _ hl
    · exact prefix_le s e h hl
theorem prefix_mid : ∀ (s a e : List UInt8), ¬ a < s → ¬ e < a → s <+: e → s <+: a
  | [], a, _, _, _, _ => List.nil_prefix
  | c :: s, a, [], _, _, h => by simp at h
  | c :: s, [], d :: e, h1, _, _ => absurd (List.nil_lt_cons _ _) h1
  | c :: s, b :: a, d :: e, h1, h2, h3 => by
    rw [List.cons_prefix_cons] at h3
    obtain ⟨rfl, h3⟩ := h3
    rw [List.cons_lt_cons_iff] at h1 h2
    have e1 : ¬ b < c := fun h => h1 (.inl h)
    have e2 : ¬ c < b := fun h => h2 (.inl h)
    have e3 : b = c := by
      rw [UInt8.lt_iff_toNat_lt] at e1 e2
      exact UInt8.toNat_inj.1 (by omega)
    subst e3
    rw [List.cons_prefix_cons]
    exact ⟨rfl, prefix_mid s a e (fun h => h1 (.inr ⟨rfl, h⟩)) (fun h => h2 (.inr ⟨rfl, h⟩)) h3⟩
theorem beg_low {x : XLexicon} (hs : Sorted x) (s : ByteArray) : begLx x s = match x[lowLx x s]? with | some e => preB s e.word | none => false := by
  cases hb : begLx x s with
  | false =>
    cases hl : x[lowLx x s]? with
    | none => rfl
    | some e =>
      have := List.any_eq_false.1 hb e (List.mem_of_getElem? hl)
      show false = preB s e.word
      cases hh : preB s e.word with
      | false => rfl
      | true => exact absurd hh this
  | true =>
    obtain ⟨e, he, hp⟩ := List.any_eq_true.1 hb
    obtain ⟨i, hi⟩ := List.mem_iff_getElem?.1 he
    have hil := (List.getElem?_eq_some_iff.1 hi).1
    have hp' := preB_iff.1 hp
    have hge : lowLx x s ≤ i := by
      rcases Nat.lt_or_ge i (lowLx x s) with h | h
      · have := low_lt h hi
        rw [ltB_list, decide_eq_true_eq] at this
        exact absurd this (prefix_le _ _ hp')
      · exact h
    obtain ⟨a, ha⟩ : ∃ a, x[lowLx x s]? = some a := ⟨_, List.getElem?_eq_getElem (by omega)⟩
    rw [ha]
    refine (preB_iff.2 ?_).symm
    have h1 := low_not ha
    rw [ltB_list, decide_eq_false_iff_not] at h1
    by_cases e1 : lowLx x s = i
    · rw [e1, hi] at ha; cases ha; exact hp'
    · have h2 := hs _ _ a e (by omega) ha hi
      rw [ltB_list, decide_eq_true_eq] at h2
      exact prefix_mid _ _ _ h1 (List.lt_asymm h2) hp'
theorem beg_empty (x : XLexicon) : begLx x ByteArray.empty = decide (0 < x.length) := by
  cases x with
  | nil => rfl
  | cons a t =>
    have : preB ByteArray.empty a.word = true := preB_iff.2 (by rw [ByteArray.toList_eq]; exact List.nil_prefix)
    simp [begLx, this]
theorem liteHasPrefix_any (s p : ByteArray) (w : World) (_hs : s.size ≤ 9223372036854775807) (hp : p.size ≤ 9223372036854775807) : Calls Try.prog 98 #[.string s, .string p] w fun e w' => e = .returned (.bool (preB p s)) ∧ w = w' := by
  by_cases h : p.size ≤ s.size
  · have hi : (p.size : Int) ≤ (s.size : Int) := by omega
    have h0 : (0 : Int) ≤ (p.size : Int) := by omega
    have HV := hid (show preB p s = ((s.extract 0 p.size).toList == p.toList) by simp [preB, eqS, h])
    go_enter Try.func98, Try.ntmps98
    go_wp2
    go_ret
    exact ⟨by rw [HV.out]; rfl, rfl⟩
  · have hd : decide ((p.size : Int) ≤ (s.size : Int)) = false := by simp; omega
    have hi : (s.size : Int) < (p.size : Int) := by omega
    have HV := hid (show preB p s = false by simp [preB, h])
    go_enter Try.func98, Try.ntmps98
    go_wp2
    go_ret
    exact ⟨by rw [HV.out]; rfl, rfl⟩
theorem hasPrefix_any (s p : ByteArray) (w : World) (hs : s.size ≤ 9223372036854775807) (hp : p.size ≤ 9223372036854775807) : Calls Try.prog 79 #[.string s, .string p] w fun e w' => e = .returned (.bool (preB p s)) ∧ w = w' := by
  go_enter Try.func79, Try.ntmps79
  go_wp2_with (go_at_call 98; refine (liteHasPrefix_any s p _ hs hp).mono ?_; rintro e w' ⟨rfl, rfl⟩)
  go_ret
  exact ⟨rfl, rfl⟩
set_option maxHeartbeats 1000000 in
theorem begins_any (v : Value) (x : XLexicon) (s : ByteArray) (w : World) {lo hi : Nat} (h : rLexicon.at_ lo hi w v x) (ok : okLexicon x) (g : goodLexicon x) (hs : Sorted x) (hsz : s.size ≤ 1048576) :
    Calls Try.prog 53 #[v, .string s] w (Ret (.bool (begLx x s)) w) := by
  have hat := h
  obtain ⟨u, rfl, h⟩ := h
  replace h := ArrIn.arr h
  obtain ⟨b, off, ao, cap, rfl, hnc, hcm, hao, hc⟩ := h
  unfold maxLen at hcm
  have ok' : x.length ≤ 1048576 := ok
  have hlow := low_le x s
  have HV := hid (beg_low hs s)
  have CP := hid (placeOf_any _ x s (w.alloc (.cells #[.slice ao x.length cap] 51)) (rLexicon.at_alloc hat _) ok hs)
  have q0 : (w.alloc (.cells #[.slice ao x.length cap] 51)).cell? ⟨w.heap.size, 0, none⟩ = some (.slice ao x.length cap) := by simp
  obtain ⟨k, hk⟩ : ∃ k, k = lowLx x s := ⟨_, rfl⟩
  rw [← hk] at CP HV hlow
  clear hk hat
  by_cases hlt : k < x.length
  · obtain ⟨hao', hbw⟩ := hao (by omega)
    subst hao'
    obtain ⟨e, he⟩ : ∃ e, x[k]? = some e := ⟨_, List.getElem?_eq_getElem hlt⟩
    have hli : (k : Int) < (x.length : Int) := by omega
    have hws := (g e (List.mem_of_getElem? he)).1
    have HV' : Hid (begLx x s = preB s e.word) := hid (by rw [HV.out, he])
    have HE := hid he
    clear hao he
    have HW : ∀ w', Calls Try.prog 79 #[.string e.word, .string s] w' fun en w'' => en = .returned (.bool (preB s e.word)) ∧ w' = w'' := fun w' => hasPrefix_any _ _ w' hws (by omega)
    go_enter Try.func53, Try.ntmps53
    go_wp2_with (first | (go_at_call 78; refine CP.out.mono ?_; rintro en w2 ⟨rfl, hb⟩; have s0 := cell_later hb q0; obtain ⟨c0, c1⟩ := eEntry_cells ((hc.below (below_alloc w _) hbw).below hb (by simp; omega)) HE.out) | (go_at_call 79; refine (HW _).mono ?_; rintro en w' ⟨rfl, rfl⟩))
    go_ret
    exact ret_bool HV'.out.symm ((below_alloc _ _).trans (hb.mono (by simp)))
  · have hd : decide ((k : Int) < (x.length : Int)) = false := by simp; omega
    have hdi : ¬ ((k : Int) < (x.length : Int)) := by omega
    have HV' : Hid (begLx x s = false) := hid (by rw [HV.out, List.getElem?_eq_none (by omega)])
    go_enter Try.func53, Try.ntmps53
    go_wp2_with (go_at_call 78; refine CP.out.mono ?_; rintro en w2 ⟨rfl, hb⟩; have s0 := cell_later hb q0)
    go_ret
    exact ret_bool HV'.out.symm ((below_alloc _ _).trans (hb.mono (by simp)))
theorem begins_is {v : Value} {x : XLexicon} {s : ByteArray} {c : Bool} (hc : begLx x s = c) {w : World} {lo hi : Nat} (h : rLexicon.at_ lo hi w v x) (ok : okLexicon x) (g : goodLexicon x) (hs : Sorted x) (hsz : s.size ≤ 1048576) :
    Calls Try.prog 53 #[v, .string s] w (Ret (.bool c) w) := by subst hc; exact begins_any v x s w h ok g hs hsz
set_option maxHeartbeats 1000000 in
theorem l16Begins_any (p : Nat) (v : Value) (x : XLexicon) (s : ByteArray) (w : World) (hp : w.cell? ⟨p, 0, none⟩ = some v) (h : Arr eEntry w v x) (ok : okLexicon x) (g : goodLexicon x) (hsz : s.size ≤ 1048576) :
    Calls Try.prog 74 #[.pointer (some ⟨p, 0, none⟩), .string s] w fun e w' => e = .returned (.bool (begLx x s)) ∧ w = w' := by
  obtain ⟨b, off, ao, cap, rfl, hnc, hcm, hao, hc⟩ := h
  unfold maxLen at hcm
  unfold okLexicon at ok
  go_enter Try.func74, Try.ntmps74
  go_wp2
  go_loop [5, 6] (fun i _ => ∃ k : Nat, k ≤ x.length ∧ i = .int .i64 k ∧ ∀ j e, j < k → x[j]? = some e → preB s e.word = false) (fun i _ => x.length - (intOf i).toNat)
  case atStart => exact ⟨0, Nat.zero_le _, rfl, fun j e h => by omega⟩
  case round =>
    obtain ⟨k, hk, rfl, hall⟩ := hrel
    have HA := hid hall
    clear hall
    by_cases hlt : k < x.length
    · obtain ⟨hao', hbw⟩ := hao (by omega)
      subst hao'
      obtain ⟨e, he⟩ : ∃ e, x[k]? = some e := ⟨_, List.getElem?_eq_getElem hlt⟩
      obtain ⟨c0, c1⟩ := eEntry_cells hc he
      have hli : (k : Int) < (x.length : Int) := by omega
      have hws := (g e (List.mem_of_getElem? he)).1
      unfold maxLen at hws
      have HE := hid he
      clear he hao
      have next : preB s e.word = false → ∀ j e', j < k + 1 → x[j]? = some e' → preB s e'.word = false := by
        intro hq j e' hj he'
        by_cases ej : j = k
        · subst ej
          rw [HE.out] at he'; obtain rfl := Option.some.inj he'
          exact hq
        · exact HA.out j e' (by omega) he'
      by_cases hsl : s.size ≤ e.word.size
      · have h1 : (s.size : Int) ≤ (e.word.size : Int) := by omega
        have h0 : (0 : Int) ≤ (s.size : Int) := by omega
        cases hq : ((e.word.extract 0 s.size).toList == s.toList)
        · have HN := hid (next (by simp [preB, eqS, hq]))
          clear next
          go_wp2
          go_round
          case rel => exact ⟨k + 1, by omega, by go_num, HN.out⟩
          case measure => simp [intOf]; omega
        · have HV : Hid (begLx x s = true) := hid (List.any_eq_true.2 ⟨e, List.mem_of_getElem? HE.out, by simp [preB, eqS, hq, hsl]⟩)
          clear next
          go_wp2
          go_ret
          exact ⟨by rw [HV.out]; rfl, rfl⟩
      · have h1 : (e.word.size : Int) < (s.size : Int) := by omega
        have h2 : decide ((s.size : Int) ≤ (e.word.size : Int)) = false := by simp; omega
        have HN := hid (next (by simp [preB, hsl]))
        clear next
        go_wp2
        go_round
        case rel => exact ⟨k + 1, by omega, by go_num, HN.out⟩
        case measure => simp [intOf]; omega
    · have HV : Hid (begLx x s = false) := hid (List.any_eq_false.2 fun e he => by
        obtain ⟨j, hj⟩ := List.mem_iff_getElem?.1 he
        have := HA.out j e (by have := (List.getElem?_eq_some_iff.1 hj).1; omega) hj
        simp [this])
      go_wp2
      go_ret
      exact ⟨by rw [HV.out]; rfl, rfl⟩
theorem l16Begins_is {p : Nat} {v : Value} {x : XLexicon} {s : ByteArray} {c : Bool} (hcc : begLx x s = c) {w : World} (hp : w.cell? ⟨p, 0, none⟩ = some v) (h : Arr eEntry w v x) (ok : okLexicon x) (g : goodLexicon x) (hsz : s.size ≤ 1048576) :
    Calls Try.prog 74 #[.pointer (some ⟨p, 0, none⟩), .string s] w fun e w' => e = .returned (.bool c) ∧ w = w' := by subst hcc; exact l16Begins_any p v x s w hp h ok g hsz
end Go.Proofs.Ytnhmailnnggmjaa
namespace Go.Proofs.Ytnhmailnnggmjaa
def beg0 (y : XLexicon) : List DReading := if begLx y ByteArray.empty then [⟨⟨#[]⟩, 0⟩] else []
end Go.Proofs.Ytnhmailnnggmjaa
