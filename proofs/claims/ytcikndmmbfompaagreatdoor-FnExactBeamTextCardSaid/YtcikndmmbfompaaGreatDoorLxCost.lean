/- Where a word stands in a lexicon, and the calls that find it. -/
import Derived.Test.YtcikndmmbfompaaGreatDoorLxValid
import Derived.Test.YtcikndmmbfompaaGreatDoorCmp
namespace Go.Proofs.YtcikndmmbfompaaGreatDoor
open Go.RowKit

def findLx (x : XLexicon) (s : ByteArray) : Option Nat := x.findIdx? (fun e => eqS e.word s)
def lowLx : XLexicon → ByteArray → Nat
  | [], _ => 0
  | e :: es, s => if ltB e.word s then lowLx es s + 1 else 0
def posOf : Option Nat → Int
  | none => -1
  | some k => k
def Sorted (x : XLexicon) : Prop := ∀ (i j : Nat) (a b : DEntry), i < j → x[i]? = some a → x[j]? = some b → ltB a.word b.word = true

theorem findLx_some {x : XLexicon} {s : ByteArray} {k : Nat} {e : DEntry} (h : x[k]? = some e) (he : eqS e.word s = true) (hj : ∀ j e, j < k → x[j]? = some e → eqS e.word s = false) : findLx x s = some k := by
  obtain ⟨hk, hx⟩ := List.getElem?_eq_some_iff.1 h
  rw [findLx, List.findIdx?_eq_some_iff_getElem]
  refine ⟨hk, by rw [hx]; exact he, fun j hjk => ?_⟩
  simp [hj j x[j] hjk (List.getElem?_eq_getElem _)]
theorem findLx_none {x : XLexicon} {s : ByteArray} (hj : ∀ j e, j < x.length → x[j]? = some e → eqS e.word s = false) : findLx x s = none := by
  rw [findLx, List.findIdx?_eq_none_iff]
  intro e he
  obtain ⟨j, h⟩ := List.mem_iff_getElem?.1 he
  exact hj j e (List.getElem?_eq_some_iff.1 h).1 h
theorem find_get {x : XLexicon} {s : ByteArray} {k : Nat} (h : findLx x s = some k) : ∃ e, x[k]? = some e ∧ eqS e.word s = true := by
  rw [findLx, List.findIdx?_eq_some_iff_getElem] at h
  obtain ⟨hk, h1, _⟩ := h
  exact ⟨x[k], List.getElem?_eq_getElem hk, h1⟩

theorem low_eq : ∀ {x : XLexicon} {s : ByteArray} {k : Nat} (_ : k ≤ x.length) (_ : ∀ j e, j < k → x[j]? = some e → ltB e.word s = true) (_ : ∀ e, x[k]? = some e → ltB e.word s = false), lowLx x s = k
  | [], _, k, hk, _, _ => by simp at hk; simp [lowLx, hk]
  | e :: es, s, 0, _, _, h2 => by have := h2 e (by simp); simp [lowLx, this]
  | e :: es, s, k + 1, hk, h1, h2 => by
    have h0 := h1 0 e (by omega) (by simp)
    have := low_eq (x := es) (s := s) (k := k) (by simpa using hk) (fun j a hj ha => h1 (j + 1) a (by omega) (by simpa using ha)) (fun a ha => h2 a (by simpa using ha))
    simp [lowLx, h0, this]
theorem low_lt : ∀ {x : XLexicon} {s : ByteArray} {j : Nat} {e : DEntry} (_ : j < lowLx x s) (_ : x[j]? = some e), ltB e.word s = true
  | [], _, _, _, h, _ => by simp [lowLx] at h
  | a :: es, s, j, e, h, he => by
    by_cases ha : ltB a.word s = true
    · cases j with
      | zero => simp at he; subst he; exact ha
      | succ j => simp [lowLx, ha] at h; exact low_lt (x := es) h (by simpa using he)
    · simp [lowLx, ha] at h
theorem low_le : ∀ (x : XLexicon) (s : ByteArray), lowLx x s ≤ x.length
  | [], _ => by simp [lowLx]
  | a :: es, s => by
    have := low_le es s
    by_cases ha : ltB a.word s = true <;> simp [lowLx, ha] <;> omega
theorem low_not : ∀ {x : XLexicon} {s : ByteArray} {e : DEntry} (_ : x[lowLx x s]? = some e), ltB e.word s = false
  | [], _, _, h => by simp at h
  | a :: es, s, e, h => by
    by_cases ha : ltB a.word s = true
    · simp [lowLx, ha] at h; exact low_not (x := es) h
    · simp [lowLx, ha] at h; subst h; simpa using ha
theorem low_ge {x : XLexicon} (hs : Sorted x) {s : ByteArray} {j : Nat} {e : DEntry} (h : lowLx x s ≤ j) (he : x[j]? = some e) : ltB e.word s = false := by
  have hj := (List.getElem?_eq_some_iff.1 he).1
  obtain ⟨a, ha⟩ : ∃ a, x[lowLx x s]? = some a := ⟨_, List.getElem?_eq_getElem (by omega)⟩
  by_cases e1 : lowLx x s = j
  · rw [← e1] at he; exact low_not he
  · have h1 := hs _ _ a e (by omega) ha he
    cases h2 : ltB e.word s with
    | false => rfl
    | true => have := low_not ha; rw [ltB_trans h1 h2] at this; cases this

/-- in a sorted lexicon a word stands at its low place, or nowhere -/
theorem find_low {x : XLexicon} (hs : Sorted x) (s : ByteArray) : findLx x s = if (match x[lowLx x s]? with | some e => eqS e.word s | none => false) then some (lowLx x s) else none := by
  cases hx : x[lowLx x s]? with
  | none =>
    simp only [Bool.false_eq_true, if_false]
    refine findLx_none fun j e hj he => ?_
    have := List.getElem?_eq_none_iff.1 hx
    exact ltB_ne (low_lt (by omega) he)
  | some a =>
    simp only
    by_cases ha : eqS a.word s = true
    · rw [if_pos ha]; exact findLx_some hx ha fun j e hj he => ltB_ne (low_lt hj he)
    · rw [if_neg ha]
      refine findLx_none fun j e hj he => ?_
      by_cases h1 : j < lowLx x s
      · exact ltB_ne (low_lt h1 he)
      · by_cases h2 : j = lowLx x s
        · subst h2; rw [hx] at he; obtain rfl := Option.some.inj he; simpa using ha
        · have h3 := hs _ _ a e (by omega) hx he
          cases h4 : eqS e.word s with
          | false => rfl
          | true =>
            have h5 : e.word.toList = s.toList := by simpa [eqS] using h4
            rw [(ltB_congr h5).2] at h3
            rw [low_not hx] at h3; cases h3

theorem low_of_find {x : XLexicon} (hs : Sorted x) {s : ByteArray} {k : Nat} (h : findLx x s = some k) : lowLx x s = k := by
  have h1 := find_low hs s
  rw [h] at h1
  by_cases hc : (match x[lowLx x s]? with | some e => eqS e.word s | none => false) = true
  · rw [if_pos hc] at h1; exact (Option.some.inj h1).symm
  · rw [if_neg hc] at h1; cases h1

theorem sorted_of_valid {x : XLexicon} (h : validLx x = true) : Sorted x := by
  have adj : ∀ k a b, x[k]? = some a → x[k + 1]? = some b → ltB a.word b.word = true := by
    intro k a b ha hb
    cases hl : ltB a.word b.word with
    | true => rfl
    | false =>
      have : entOk x (k + 1) b = true := by
        cases he : entOk x (k + 1) b with
        | true => rfl
        | false => rw [validLx_at hb he] at h; cases h
      simp [entOk, ordAt, ha, leB] at this
      obtain ⟨_, h1, h2⟩ := this
      exact absurd (ltB_or h1 hl) h2
  intro i j
  induction j with
  | zero => intro a b h; omega
  | succ j ih =>
    intro a b hij ha hb
    have hj := (List.getElem?_eq_some_iff.1 hb).1
    obtain ⟨c, hc⟩ : ∃ c, x[j]? = some c := ⟨_, List.getElem?_eq_getElem (by omega)⟩
    by_cases e : i = j
    · subst e; exact adj i a b ha hb
    · exact ltB_trans (ih a c (by omega) ha hc) (adj j c b hc hb)

def costLx (x : XLexicon) (s : ByteArray) : Int := if validLx x then (match findLx x s with | none => 0 | some k => (match x[k]? with | some e => e.cost | none => 0)) else 0
def codeLx (x : XLexicon) (s : ByteArray) : Int := if validLx x then (match findLx x s with | none => 3 | some _ => 0) else 1

set_option maxHeartbeats 1000000 in
theorem l16Find_any (p : Nat) (v : Value) (x : XLexicon) (s : ByteArray) (w : World) (hp : w.cell? ⟨p, 0, none⟩ = some v) (h : Arr eEntry w v x) (ok : okLexicon x) :
    Calls Tryz.prog 32 #[.pointer (some ⟨p, 0, none⟩), .string s] w fun e w' => e = .returned (.int .i64 (posOf (findLx x s))) ∧ w = w' := by
  obtain ⟨b, off, ao, cap, rfl, hnc, hcm, hao, hc⟩ := h
  unfold maxLen at hcm
  unfold okLexicon at ok
  go_enter Tryz.func32, Tryz.ntmps32
  go_wp2
  go_loop [5] (fun i => ∃ k : Nat, k ≤ x.length ∧ i = .int .i64 k ∧ ∀ j e, j < k → x[j]? = some e → eqS e.word s = false) (fun i => x.length - (intOf i).toNat)
  case atStart => exact ⟨0, Nat.zero_le _, rfl, fun j e h => by omega⟩
  case round =>
    obtain ⟨k, hk, rfl, hall⟩ := hrel
    have HA := hid hall
    clear hall
    by_cases hlt : k < x.length
    · obtain ⟨hao', hbw⟩ := hao (by omega)
      subst hao'
      obtain ⟨e, he⟩ : ∃ e, x[k]? = some e := ⟨_, List.getElem?_eq_getElem hlt⟩
      obtain ⟨c0, c1⟩ := eEntry_cells hc he
      have hli : (k : Int) < (x.length : Int) := by omega
      have HE := hid he
      clear he hao
      cases hq : (e.word.toList == s.toList)
      · go_wp2
        go_round
        case rel =>
          refine ⟨k + 1, by omega, by go_num, fun j e' hj he' => ?_⟩
          by_cases ej : j = k
          · subst ej
            rw [HE.out] at he'; obtain rfl := Option.some.inj he'
            exact hq
          · exact HA.out j e' (by omega) he'
        case measure => simp [intOf]; omega
      · go_wp2
        go_ret
        exact ⟨by rw [findLx_some HE.out hq HA.out]; rfl, rfl⟩
    · have HV := hid (findLx_none (x := x) (s := s) fun j e hj => HA.out j e (by omega))
      go_wp2
      go_ret
      exact ⟨by rw [HV.out]; rfl, rfl⟩

theorem placeCmp_any (e : DEntry) (s : ByteArray) (w : World) : Calls Tryz.prog 66 #[.agg #[.string e.word, .int .i64 e.cost], .string s] w (Ret (.int .i64 (cmpB e.word s)) w) := by
  go_enter Tryz.func66, Tryz.ntmps66
  go_wp2_with (go_at_call 67; refine (cmpStr_any _ _ _).mono ?_; rintro e w' ⟨rfl, rfl⟩)
  go_ret
  exact ret_int rfl (below_alloc _ _)
set_option maxHeartbeats 2000000 in
theorem searchEn_any (v : Value) (x : XLexicon) (s : ByteArray) (w : World) (h : Arr eEntry w v x) (ok : okLexicon x) (hs : Sorted x) :
    Calls Tryz.prog 65 #[v, .string s, .func (.func 66) #[] #[]] w (Ret (.tuple #[.int .i64 (lowLx x s), .bool (findLx x s).isSome]) w) := by
  obtain ⟨b, off, ao, cap, rfl, hnc, hcm, hao, hc⟩ := h
  unfold maxLen at hcm
  unfold okLexicon at ok
  go_enter Tryz.func65, Tryz.ntmps65
  go_wp2
  go_loopw [9, 10] (fun i j wr => ∃ k l : Nat, i = .int .i64 k ∧ j = .int .i64 l ∧ k ≤ l ∧ l ≤ x.length ∧ Below w.heap.size w wr ∧ Hid ((∀ t e, t < k → x[t]? = some e → ltB e.word s = true) ∧ ∀ t e, l ≤ t → x[t]? = some e → ltB e.word s = false)) (fun i j _ => (intOf j).toNat - (intOf i).toNat)
  case atStart => exact ⟨0, x.length, rfl, rfl, Nat.zero_le _, Nat.le_refl _, Below.refl _ _, ⟨fun t e h => by omega, fun t e h1 h2 => by have := (List.getElem?_eq_some_iff.1 h2).1; omega⟩⟩
  case round =>
    obtain ⟨k, l, rfl, rfl, hkl, hln, hb, HI⟩ := hrel
    by_cases hlt : k < l
    · obtain ⟨hao', hbw⟩ := hao (by omega)
      subst hao'
      obtain ⟨m, hm⟩ : ∃ m, m = (k + l) / 2 := ⟨_, rfl⟩
      obtain ⟨e, he⟩ : ∃ e, x[(k + l) / 2]? = some e := ⟨_, List.getElem?_eq_getElem (by omega)⟩
      obtain ⟨c0, c1⟩ := eEntry_cells (hc.below hb hbw) he
      have HE := hid he
      clear he hao
      cases hq : ltB e.word s
      · have hcm : (0 : Int) ≤ cmpB e.word s := by unfold cmpB; rw [hq]; simp; split <;> omega
        go_wp2_with (go_at_call 66; refine (placeCmp_any e s _).mono ?_; rintro e w' ⟨rfl, hb2⟩)
        go_roundw
        case rel =>
          refine ⟨k, (k + l) / 2, rfl, by go_num, by omega, by omega, hb.trans (hb2.mono hb.size), ⟨HI.out.1, fun t a h1 h2 => ?_⟩⟩
          by_cases e1 : t = (k + l) / 2
          · subst e1; rw [HE.out] at h2; obtain rfl := Option.some.inj h2; exact hq
          · have h3 := hs _ _ e a (by omega) HE.out h2
            cases h4 : ltB a.word s with
            | false => rfl
            | true => rw [ltB_trans h3 h4] at hq; cases hq
        case measure => simp [intOf]; omega
      · have hcm : cmpB e.word s = -1 := by unfold cmpB; rw [hq]; simp
        go_wp2_with (go_at_call 66; refine (placeCmp_any e s _).mono ?_; rintro e w' ⟨rfl, hb2⟩; rw [hcm])
        go_roundw
        case rel =>
          refine ⟨(k + l) / 2 + 1, l, by go_num, rfl, by omega, by omega, hb.trans (hb2.mono hb.size), ⟨fun t a h1 h2 => ?_, HI.out.2⟩⟩
          by_cases e1 : t = (k + l) / 2
          · subst e1; rw [HE.out] at h2; obtain rfl := Option.some.inj h2; exact hq
          · exact ltB_trans (hs _ _ a e (by omega) h2 HE.out) hq
        case measure => simp [intOf]; omega
    · obtain rfl : l = k := by omega
      have hlow := low_eq (x := x) (s := s) (k := l) hln HI.out.1 fun e he => HI.out.2 l e (Nat.le_refl _) he
      have hfind := find_low hs s
      rw [hlow] at hfind
      by_cases hl : l < x.length
      · obtain ⟨hao', hbw⟩ := hao (by omega)
        subst hao'
        obtain ⟨e, he⟩ : ∃ e, x[l]? = some e := ⟨_, List.getElem?_eq_getElem hl⟩
        obtain ⟨c0, c1⟩ := eEntry_cells (hc.below hb hbw) he
        have hq := HI.out.2 l e (Nat.le_refl _) he
        have hli : (l : Int) < (x.length : Int) := by omega
        rw [he] at hfind
        have HL := hid hlow
        have HF := hid hfind
        clear he hao hlow hfind
        cases hqq : eqS e.word s
        · have hcm : cmpB e.word s = 1 := by unfold cmpB; rw [hq, hqq]; simp
          go_wp2_with (go_at_call 66; refine (placeCmp_any e s _).mono ?_; rintro e w' ⟨rfl, hb2⟩; rw [hcm])
          go_ret2
          have h1 := HF.out
          simp [hqq] at h1
          exact ⟨by rw [h1, HL.out]; rfl, hb.trans (hb2.mono hb.size)⟩
        · have hcm : cmpB e.word s = 0 := by unfold cmpB; rw [hq, hqq]; simp
          go_wp2_with (go_at_call 66; refine (placeCmp_any e s _).mono ?_; rintro e w' ⟨rfl, hb2⟩; rw [hcm])
          go_ret2
          have h1 := HF.out
          simp [hqq] at h1
          exact ⟨by rw [h1, HL.out]; rfl, hb.trans (hb2.mono hb.size)⟩
      · have hn : x[l]? = none := List.getElem?_eq_none_iff.2 (by omega)
        rw [hn] at hfind
        have HL := hid hlow
        have HF := hid hfind
        clear hao hlow hfind
        go_wp2
        go_ret2
        exact ⟨by rw [HF.out, HL.out]; simp, hb⟩
theorem placeOf_any (v : Value) (x : XLexicon) (s : ByteArray) (w : World) {lo hi : Nat} (h : rLexicon.at_ lo hi w v x) (ok : okLexicon x) (hs : Sorted x) :
    Calls Tryz.prog 42 #[v, .string s] w (Ret (.tuple #[.int .i64 (lowLx x s), .bool (findLx x s).isSome]) w) := by
  obtain ⟨u, rfl, h⟩ := h
  replace h := ArrIn.arr h
  go_enter Tryz.func42, Tryz.ntmps42
  go_wp2_with (go_at_call 65; refine (searchEn_any _ x s _ (h.alloc _) ok hs).mono ?_; rintro e w' ⟨rfl, hb⟩)
  go_ret2
  exact ⟨rfl, (below_alloc _ _).trans (hb.mono (by simp))⟩
end Go.Proofs.YtcikndmmbfompaaGreatDoor
