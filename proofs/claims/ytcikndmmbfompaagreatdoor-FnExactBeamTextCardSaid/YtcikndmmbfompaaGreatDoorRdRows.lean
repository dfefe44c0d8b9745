/- An array of lists of readings, one list a node: how it lies in memory. -/
import Derived.Test.YtcikndmmbfompaaGreatDoorRdMerge
import Derived.Test.YtcikndmmbfompaaGreatDoorRdSort
import Derived.Test.YtcikndmmbfompaaGreatDoorNest
import Derived.Test.YtcikndmmbfompaaGreatDoorReg
import Derived.Test.YtcikndmmbfompaaGreatDoorLxCost
import Derived.Test.YtcikndmmbfompaaGreatDoorCmp
namespace Go.Proofs.YtcikndmmbfompaaGreatDoor
open Go.RowKit

theorem infRows : (Tryz.prog.info? 69).map (fun i => (i.zero, i.size, i.bytes)) = some (some (.slice none 0 0), eS1.sz, 24) := by kernel_rfl
structure RowsR (g N : Nat) (w : World) (vs : List SV) (st : SR) : Prop where
  own : Own eS1 69 g w (.slice (some ⟨g, 0, none⟩) N N) vs
  len : N = vs.length
  row : ∀ (v : Nat) (s : SV), vs[v]? = some s → ArrIn eReading (g + 1) w.heap.size w s.val (st v)
theorem RowsR.below {g N : Nat} {w w' : World} {vs : List SV} {st : SR} (h : RowsR g N w vs st) (hb : Below w.heap.size w w') : RowsR g N w' vs st :=
  ⟨h.own.below hb, h.len, fun v s hs => (Rep.flat eReading 74).at_now (h.row v s hs) hb⟩
theorem RowsR.lt {g N : Nat} {w : World} {vs : List SV} {st : SR} (h : RowsR g N w vs st) : g < w.heap.size := h.own.lt.2
theorem RowsR.get {g N : Nat} {w : World} {vs : List SV} {st : SR} (h : RowsR g N w vs st) {v : Nat} (hv : v < N) : ∃ s : SV, vs[v]? = some s ∧ s.n = (st v).length ∧ w.cell? ⟨g, v, none⟩ = some (.slice s.a (st v).length s.c) ∧ ArrIn eReading (g + 1) w.heap.size w (.slice s.a (st v).length s.c) (st v) := by
  obtain ⟨s, hs⟩ : ∃ s, vs[v]? = some s := ⟨_, List.getElem?_eq_getElem (by rw [← h.len]; exact hv)⟩
  have hr := h.row v s hs
  obtain ⟨sa, sc, e⟩ := (ArrIn.arr hr).isSlice
  have e' : Value.slice s.a s.n s.c = .slice sa (st v).length sc := e
  simp only [Value.slice.injEq] at e'
  obtain ⟨e1, e2, e3⟩ := e'
  have hc : w.cell? ⟨g, v, none⟩ = some (.slice s.a s.n s.c) := by
    obtain ⟨b, off, ao, cap, hv2, _, _, hb0, hcl⟩ := h.own.arr
    simp only [Value.slice.injEq] at hv2
    obtain ⟨h1, _, _⟩ := hv2
    have := (hb0 (by rw [← h.len]; omega)).1
    rw [← h1] at this
    cases this
    have := eS1_cells hcl hs
    rwa [Nat.zero_add] at this
  refine ⟨s, hs, e2, by rw [← e2]; exact hc, ?_⟩
  have : Value.slice s.a (st v).length s.c = s.val := by rw [← e2]; rfl
  rw [this]; exact hr
theorem RowsR.free {g N : Nat} {w : World} {vs : List SV} {st : SR} (h : RowsR g N w vs st) (o : Nat) : w.frozen? ⟨g, o, none⟩ = false := h.own.free h.len o
theorem RowsR.set {g N : Nat} {w : World} {vs : List SV} {st : SR} (h : RowsR g N w vs st) {v n c : Nat} {a : Option Addr} {L : List DReading} (hv : v < N) (hL : ArrIn eReading (g + 1) w.heap.size w (.slice a n c) L) :
    RowsR g N (w.setCell ⟨g, v, none⟩ (.slice a n c)) (vs.set v ⟨a, n, c⟩) (setR st v L) ∧ w.grownBy (w.setCell ⟨g, v, none⟩ (.slice a n c)) (some g) := by
  have h1 := h.own.set1 h.len (k := v) (j := 0) (x' := (⟨a, n, c⟩ : SV)) (u := .slice a n c) (List.getElem?_eq_getElem (by rw [← h.len]; exact hv)) (by decide) rfl
  have e0 : v * eS1.sz + 0 = v := by show v * 1 + 0 = v; omega
  rw [e0] at h1
  have hch : Chg g (g + 1) w (w.setCell ⟨g, v, none⟩ (.slice a n c)) := chg_set w g v _
  refine ⟨⟨h1.1, by rw [List.length_set]; exact h.len, fun u s hs => ?_⟩, h1.2⟩
  have hsz : (w.setCell ⟨g, v, none⟩ (.slice a n c)).heap.size = w.heap.size := by simp
  rw [hsz]
  unfold setR
  by_cases e : u = v
  · subst e
    rw [List.getElem?_set_self (by rw [← h.len]; exact hv)] at hs
    cases hs
    rw [if_pos rfl]
    exact hL.chg hch (.inl (Nat.le_refl _))
  · rw [List.getElem?_set_ne (Ne.symm e)] at hs
    rw [if_neg e]
    exact (h.row u s hs).chg hch (.inl (Nat.le_refl _))
theorem RowsR.made {g N : Nat} {w : World} (h : Own eS1 69 g w (.slice (some ⟨g, 0, none⟩) N N) (List.replicate N ⟨none, 0, 0⟩)) : RowsR g N w (List.replicate N ⟨none, 0, 0⟩) (fun _ => []) :=
  ⟨h, by simp, fun v s hs => by
    rw [List.getElem?_replicate] at hs
    split at hs
    · cases hs
      exact ⟨0, 0, none, 0, rfl, Nat.le_refl _, by simp [maxLen], by simp, fun k x hx => by simp at hx⟩
    · cases hs⟩
theorem startR_set (I : List DReading) : setR (fun _ => []) 0 I = startR I := by funext v; unfold setR startR; rfl

def FinR (g N : Nat) (w w' : World) (st : SR) : Prop := ∃ vs, RowsR g N w' vs st ∧ Below g w w'
theorem finR {g N : Nat} {w w' : World} {vs : List SV} {st : SR} (h1 : RowsR g N w' vs st) (h2 : Below g w w') : FinR g N w w' st := ⟨vs, h1, h2⟩
theorem FinR.below {g N : Nat} {w w' w'' : World} {st : SR} (h : FinR g N w w' st) (hb : Below w'.heap.size w' w'') : FinR g N w w'' st := by
  obtain ⟨vs, h1, h2⟩ := h
  exact ⟨vs, h1.below hb, h2.trans (hb.mono (Nat.le_of_lt h1.lt))⟩
def NewR (lo : Nat) (w' : World) (v : Value) (L : List DReading) : Prop := ∃ ua uc, v = .slice ua L.length uc ∧ ArrIn eReading lo w'.heap.size w' v L
theorem newR {lo : Nat} {w' : World} {v : Value} {L : List DReading} (h : ArrIn eReading lo w'.heap.size w' v L) : NewR lo w' v L := by
  obtain ⟨ua, uc, hu⟩ := (ArrIn.arr h).isSlice
  exact ⟨ua, uc, hu, h⟩
theorem NewR.below {lo : Nat} {w w' : World} {v : Value} {L : List DReading} (h : NewR lo w v L) (hb : Below w.heap.size w w') : NewR lo w' v L := by
  obtain ⟨ua, uc, h1, h2⟩ := h
  exact ⟨ua, uc, h1, (Rep.flat eReading 74).at_now h2 hb⟩
theorem arrIn_of {α : Type} {E : Enc α} {w : World} {b o n c lo hi : Nat} {xs : List α} (h : Arr E w (.slice (some ⟨b, o, none⟩) n c) xs) (hl : lo ≤ b) (hh : b < hi) : ArrIn E lo hi w (.slice (some ⟨b, o, none⟩) n c) xs := by
  obtain ⟨b', off, ao, cap, hv, h1, h2, h3, h4⟩ := h
  simp only [Value.slice.injEq] at hv
  obtain ⟨rfl, rfl, rfl⟩ := hv
  cases xs with
  | nil => exact ⟨b', off, _, c, rfl, h1, h2, fun h => by simp at h, h4⟩
  | cons a t =>
    have := (h3 (by simp)).1
    cases this
    exact ⟨b, o, _, c, rfl, h1, h2, fun _ => ⟨rfl, hl, hh⟩, h4⟩
/-- an edge, over the first k readings at its start -/
def pushK (m : Nat) (beg : ByteArray → Bool) (st : SR) (e : DEdge) (k : Nat) : SR := setR st (to e) ((extsR beg e ((st (fr e)).take k)).foldl (insK m) (st (to e)))
theorem pushK_zero (m : Nat) (beg : ByteArray → Bool) (st : SR) (e : DEdge) : pushK m beg st e 0 = st := by
  funext v
  unfold pushK setR
  split
  · rename_i h; rw [h]; rfl
  · rfl
theorem pushK_all (m : Nat) (beg : ByteArray → Bool) (st : SR) (e : DEdge) : pushK m beg st e (st (fr e)).length = pushR m beg st e := by
  funext v
  unfold pushK setR pushR
  rw [List.take_length]
  split
  · rename_i h; rw [h]
  · rfl
theorem extsR_take {beg : ByteArray → Bool} {e : DEdge} {L : List DReading} {k : Nat} {r : DReading} (h : L[k]? = some r) : extsR beg e (L.take (k + 1)) = extsR beg e (L.take k) ++ (if beg (extR r e).text then [extR r e] else []) := by
  unfold extsR
  rw [List.take_add_one, h]
  simp only [Option.toList_some, List.map_append, List.map_cons, List.map_nil, List.filter_append]
  congr 1
  cases hb : beg (extR r e).text <;> simp [hb]
theorem pushK_at {m : Nat} {beg : ByteArray → Bool} {st : SR} {e : DEdge} {k : Nat} {r : DReading} (_ : fr e < to e) (h : (st (fr e))[k]? = some r) :
    pushK m beg st e (k + 1) = if beg (extR r e).text = true then setR (pushK m beg st e k) (to e) (insK m (pushK m beg st e k (to e)) (extR r e)) else pushK m beg st e k := by
  unfold pushK
  rw [extsR_take h, List.foldl_append]
  cases hb : beg (extR r e).text with
  | false => simp
  | true =>
    simp only [if_true, List.foldl_cons, List.foldl_nil]
    funext v
    unfold setR
    by_cases hv : v = to e
    · simp [hv]
    · simp [hv]
theorem pushK_from {m : Nat} {beg : ByteArray → Bool} {st : SR} {e : DEdge} {k : Nat} (_ : fr e < to e) : pushK m beg st e k (fr e) = st (fr e) := by
  unfold pushK setR; rw [if_neg (by omega)]
/-- the lists are short, and so are the texts -/
def okS (m : Nat) (st : SR) : Prop := ∀ v, (st v).length ≤ m ∧ ∀ r ∈ st v, r.text.size ≤ v
theorem insK_le {m : Nat} {L : List DReading} {h : DReading} (hl : L.length ≤ m) : (insK m L h).length ≤ m := by
  unfold insK
  split
  · exact hl
  · rw [List.length_take]; omega
theorem okS_start {m : Nat} (hm : 1 ≤ m) {I : List DReading} (hI : I.length ≤ 1) (hT : ∀ r ∈ I, r.text.size = 0) : okS m (startR I) := by
  intro v
  unfold startR
  split
  · exact ⟨by omega, fun r hr => by rw [hT r hr]; omega⟩
  · exact ⟨by simp, fun r hr => by cases hr⟩
theorem okS_set {m : Nat} {st : SR} (h : okS m st) {v : Nat} {r : DReading} (hr : r.text.size ≤ v) : okS m (setR st v (insK m (st v) r)) := by
  intro u
  unfold setR
  split
  · rename_i e
    subst e
    exact ⟨insK_le (h u).1, fun q hq => by
      rcases insK_mem hq with h1 | h1
      · rw [h1]; exact hr
      · exact (h u).2 q h1⟩
  · exact h u
theorem extR_size {r : DReading} {e : DEdge} : (extR r e).text.size = r.text.size + e.label.size := by unfold extR; simp
theorem okS_fold {m : Nat} {st : SR} (h : okS m st) {v : Nat} : ∀ (S : List DReading), (∀ r ∈ S, r.text.size ≤ v) → okS m (setR st v (S.foldl (insK m) (st v)))
  | S, hS => by
    have key : ∀ (S L : List DReading), L.length ≤ m → (∀ r ∈ L, r.text.size ≤ v) → (∀ r ∈ S, r.text.size ≤ v) → (S.foldl (insK m) L).length ≤ m ∧ ∀ r ∈ S.foldl (insK m) L, r.text.size ≤ v := by
      intro S
      induction S with
      | nil => intro L h1 h2 _; exact ⟨h1, h2⟩
      | cons a S ih =>
        intro L h1 h2 h3
        refine ih _ (insK_le h1) (fun r hr => ?_) (fun r hr => h3 r (List.mem_cons_of_mem _ hr))
        rcases insK_mem hr with h4 | h4
        · rw [h4]; exact h3 a List.mem_cons_self
        · exact h2 r h4
    intro u
    unfold setR
    split
    · rename_i e
      subst e
      exact key S _ (h u).1 (h u).2 hS
    · exact h u
theorem okS_pushK {m : Nat} {beg : ByteArray → Bool} {st : SR} {e : DEdge} (h : okS m st) (hl : fr e < to e) (hs : e.label.size = 1) (k : Nat) : okS m (pushK m beg st e k) := by
  unfold pushK
  refine okS_fold h _ fun r hr => ?_
  obtain ⟨q, hq, rfl, _⟩ := extsR_mem hr
  have := (h (fr e)).2 q (List.mem_of_mem_take hq)
  rw [extR_size]; omega
theorem lab1 {s : ByteArray} (h : isLabelB s = true) : s.size = 1 := by
  by_cases h1 : s.size = 1
  · exact h1
  · rw [isLabel_len h1] at h; cases h
theorem valid_lab {n : Int} {x : List DEdge} (h : validLt (n, x) = true) {k : Nat} {e : DEdge} (he : x[k]? = some e) : e.label.size = 1 := by
  have h1 : validEd n x = true := by simp [validLt] at h; exact h.2
  have h2 := validEd_mem h1 he
  simp [edOk] at h2
  exact lab1 h2.1.2
end Go.Proofs.YtcikndmmbfompaaGreatDoor
namespace Go.Proofs.YtcikndmmbfompaaGreatDoor
open Go.RowKit

def preB (p w : ByteArray) : Bool := decide (p.size ≤ w.size) && eqS (w.extract 0 p.size) p
def begLx (x : XLexicon) (s : ByteArray) : Bool := x.any fun e => preB s e.word
theorem toList_len (a : ByteArray) : a.toList.length = a.size := by rw [ByteArray.toList_eq]; simp
theorem extract_toList (a : ByteArray) (n : Nat) : (a.extract 0 n).toList = a.toList.take n := by
  rw [ByteArray.toList_eq, ByteArray.toList_eq, ByteArray.data_extract]
  simp
theorem preB_iff {p w : ByteArray} : preB p w = true ↔ p.toList <+: w.toList := by
  unfold preB eqS
  rw [extract_toList, Bool.and_eq_true, decide_eq_true_eq, beq_iff_eq, List.prefix_iff_eq_take, toList_len]
  constructor
  · rintro ⟨_, h⟩; exact h.symm
  · intro h
    refine ⟨?_, h.symm⟩
    have := congrArg List.length h
    rw [List.length_take, toList_len, toList_len] at this
    omega
theorem ltB_list (a b : ByteArray) : ltB a b = decide (a.toList < b.toList) := by unfold ltB; rw [bless_eq]
theorem prefix_le : ∀ (s e : List UInt8), s <+: e → ¬ e < s
  | [], e, _, h => by cases e <;> simp at h
  | c :: s, [], h, _ => by simp at h
  | c :: s, d :: e, h, hl => by
    rw [List.cons_prefix_cons] at h
    obtain ⟨rfl, h⟩ := h
    rw [List.cons_lt_cons_iff] at hl
    rcases hl with hl | ⟨_, hl⟩
    · exact UInt8.lt_irrefl _ hl
    · exact prefix_le s e h hl
theorem prefix_mid : ∀ (s a e : List UInt8), ¬ a < s → ¬ e < a → s <+: e → s <+: a
  | [], a, _, _, _, _ => List.nil_prefix
  | c :: s, a, [], _, _, h => by simp at h
  | c :: s, [], d :: e, h1, _, _ => absurd (List.nil_lt_cons _ _) h1
  | c :: s, b :: a, d :: e, h1, h2, h3 => by
    rw [List.cons_prefix_cons] at h3
    obtain ⟨rfl, h3⟩ := h3
    rw [List.cons_lt_cons_iff] at h1 h2
    have e1 : ¬ b < c := fun h => h1 (.inl h)
    have e2 : ¬ c < b := fun h => h2 (.inl h)
    have e3 : b = c := by
      rw [UInt8.lt_iff_toNat_lt] at e1 e2
      exact UInt8.toNat_inj.1 (by omega)
    subst e3
    rw [List.cons_prefix_cons]
    exact ⟨rfl, prefix_mid s a e (fun h => h1 (.inr ⟨rfl, h⟩)) (fun h => h2 (.inr ⟨rfl, h⟩)) h3⟩
theorem beg_low {x : XLexicon} (hs : Sorted x) (s : ByteArray) : begLx x s = match x[lowLx x s]? with | some e => preB s e.word | none => false := by
  cases hb : begLx x s with
  | false =>
    cases hl : x[lowLx x s]? with
    | none => rfl
    | some e =>
      have := List.any_eq_false.1 hb e (List.mem_of_getElem? hl)
      show false = preB s e.word
      cases hh : preB s e.word with
      | false => rfl
      | true => exact absurd hh this
  | true =>
    obtain ⟨e, he, hp⟩ := List.any_eq_true.1 hb
    obtain ⟨i, hi⟩ := List.mem_iff_getElem?.1 he
    have hil := (List.getElem?_eq_some_iff.1 hi).1
    have hp' := preB_iff.1 hp
    have hge : lowLx x s ≤ i := by
      rcases Nat.lt_or_ge i (lowLx x s) with h | h
      · have := low_lt h hi
        rw [ltB_list, decide_eq_true_eq] at this
        exact absurd this (prefix_le _ _ hp')
      · exact h
    obtain ⟨a, ha⟩ : ∃ a, x[lowLx x s]? = some a := ⟨_, List.getElem?_eq_getElem (by omega)⟩
    rw [ha]
    refine (preB_iff.2 ?_).symm
    have h1 := low_not ha
    rw [ltB_list, decide_eq_false_iff_not] at h1
    by_cases e1 : lowLx x s = i
    · rw [e1, hi] at ha; cases ha; exact hp'
    · have h2 := hs _ _ a e (by omega) ha hi
      rw [ltB_list, decide_eq_true_eq] at h2
      exact prefix_mid _ _ _ h1 (List.lt_asymm h2) hp'
theorem beg_empty (x : XLexicon) : begLx x ByteArray.empty = decide (0 < x.length) := by
  cases x with
  | nil => rfl
  | cons a t =>
    have : preB ByteArray.empty a.word = true := preB_iff.2 (by rw [ByteArray.toList_eq]; exact List.nil_prefix)
    simp [begLx, this]
theorem liteHasPrefix_any (s p : ByteArray) (w : World) (_hs : s.size ≤ 9223372036854775807) (hp : p.size ≤ 9223372036854775807) : Calls Tryz.prog 92 #[.string s, .string p] w fun e w' => e = .returned (.bool (preB p s)) ∧ w = w' := by
  by_cases h : p.size ≤ s.size
  · have hi : (p.size : Int) ≤ (s.size : Int) := by omega
    have h0 : (0 : Int) ≤ (p.size : Int) := by omega
    have HV := hid (show preB p s = ((s.extract 0 p.size).toList == p.toList) by simp [preB, eqS, h])
    go_enter Tryz.func92, Tryz.ntmps92
    go_wp2
    go_ret
    exact ⟨by rw [HV.out]; rfl, rfl⟩
  · have hd : decide ((p.size : Int) ≤ (s.size : Int)) = false := by simp; omega
    have hi : (s.size : Int) < (p.size : Int) := by omega
    have HV := hid (show preB p s = false by simp [preB, h])
    go_enter Tryz.func92, Tryz.ntmps92
    go_wp2
    go_ret
    exact ⟨by rw [HV.out]; rfl, rfl⟩
theorem hasPrefix_any (s p : ByteArray) (w : World) (hs : s.size ≤ 9223372036854775807) (hp : p.size ≤ 9223372036854775807) : Calls Tryz.prog 79 #[.string s, .string p] w fun e w' => e = .returned (.bool (preB p s)) ∧ w = w' := by
  go_enter Tryz.func79, Tryz.ntmps79
  go_wp2_with (go_at_call 92; refine (liteHasPrefix_any s p _ hs hp).mono ?_; rintro e w' ⟨rfl, rfl⟩)
  go_ret
  exact ⟨rfl, rfl⟩
set_option maxHeartbeats 1000000 in
theorem begins_any (v : Value) (x : XLexicon) (s : ByteArray) (w : World) {lo hi : Nat} (h : rLexicon.at_ lo hi w v x) (ok : okLexicon x) (g : goodLexicon x) (hs : Sorted x) (hsz : s.size ≤ 1048576) :
    Calls Tryz.prog 63 #[v, .string s] w (Ret (.bool (begLx x s)) w) := by
  have hat := h
  obtain ⟨u, rfl, h⟩ := h
  replace h := ArrIn.arr h
  obtain ⟨b, off, ao, cap, rfl, hnc, hcm, hao, hc⟩ := h
  unfold maxLen at hcm
  have ok' : x.length ≤ 1048576 := ok
  have hlow := low_le x s
  have HV := hid (beg_low hs s)
  have CP := hid (placeOf_any _ x s (w.alloc (.cells #[.slice ao x.length cap] 37)) (rLexicon.at_alloc hat _) ok hs)
  have q0 : (w.alloc (.cells #[.slice ao x.length cap] 37)).cell? ⟨w.heap.size, 0, none⟩ = some (.slice ao x.length cap) := by simp
  obtain ⟨k, hk⟩ : ∃ k, k = lowLx x s := ⟨_, rfl⟩
  rw [← hk] at CP HV hlow
  clear hk hat
  by_cases hlt : k < x.length
  · obtain ⟨hao', hbw⟩ := hao (by omega)
    subst hao'
    obtain ⟨e, he⟩ : ∃ e, x[k]? = some e := ⟨_, List.getElem?_eq_getElem hlt⟩
    have hli : (k : Int) < (x.length : Int) := by omega
    have hws := (g e (List.mem_of_getElem? he)).1
    have HV' : Hid (begLx x s = preB s e.word) := hid (by rw [HV.out, he])
    have HE := hid he
    clear hao he
    have HW : ∀ w', Calls Tryz.prog 79 #[.string e.word, .string s] w' fun en w'' => en = .returned (.bool (preB s e.word)) ∧ w' = w'' := fun w' => hasPrefix_any _ _ w' hws (by omega)
    go_enter Tryz.func63, Tryz.ntmps63
    go_wp2_with (first | (go_at_call 42; refine CP.out.mono ?_; rintro en w2 ⟨rfl, hb⟩; have s0 := cell_later hb q0; obtain ⟨c0, c1⟩ := eEntry_cells ((hc.below (below_alloc w _) hbw).below hb (by simp; omega)) HE.out) | (go_at_call 79; refine (HW _).mono ?_; rintro en w' ⟨rfl, rfl⟩))
    go_ret
    exact ret_bool HV'.out.symm ((below_alloc _ _).trans (hb.mono (by simp)))
  · have hd : decide ((k : Int) < (x.length : Int)) = false := by simp; omega
    have hdi : ¬ ((k : Int) < (x.length : Int)) := by omega
    have HV' : Hid (begLx x s = false) := hid (by rw [HV.out, List.getElem?_eq_none (by omega)])
    go_enter Tryz.func63, Tryz.ntmps63
    go_wp2_with (go_at_call 42; refine CP.out.mono ?_; rintro en w2 ⟨rfl, hb⟩; have s0 := cell_later hb q0)
    go_ret
    exact ret_bool HV'.out.symm ((below_alloc _ _).trans (hb.mono (by simp)))
theorem begins_is {v : Value} {x : XLexicon} {s : ByteArray} {c : Bool} (hc : begLx x s = c) {w : World} {lo hi : Nat} (h : rLexicon.at_ lo hi w v x) (ok : okLexicon x) (g : goodLexicon x) (hs : Sorted x) (hsz : s.size ≤ 1048576) :
    Calls Tryz.prog 63 #[v, .string s] w (Ret (.bool c) w) := by subst hc; exact begins_any v x s w h ok g hs hsz
set_option maxHeartbeats 1000000 in
theorem l16Begins_any (p : Nat) (v : Value) (x : XLexicon) (s : ByteArray) (w : World) (hp : w.cell? ⟨p, 0, none⟩ = some v) (h : Arr eEntry w v x) (ok : okLexicon x) (g : goodLexicon x) (hsz : s.size ≤ 1048576) :
    Calls Tryz.prog 54 #[.pointer (some ⟨p, 0, none⟩), .string s] w fun e w' => e = .returned (.bool (begLx x s)) ∧ w = w' := by
  obtain ⟨b, off, ao, cap, rfl, hnc, hcm, hao, hc⟩ := h
  unfold maxLen at hcm
  unfold okLexicon at ok
  go_enter Tryz.func54, Tryz.ntmps54
  go_wp2
  go_loop [5, 6] (fun i _ => ∃ k : Nat, k ≤ x.length ∧ i = .int .i64 k ∧ ∀ j e, j < k → x[j]? = some e → preB s e.word = false) (fun i _ => x.length - (intOf i).toNat)
  case atStart => exact ⟨0, Nat.zero_le _, rfl, fun j e h => by omega⟩
  case round =>
    obtain ⟨k, hk, rfl, hall⟩ := hrel
    have HA := hid hall
    clear hall
    by_cases hlt : k < x.length
    · obtain ⟨hao', hbw⟩ := hao (by omega)
      subst hao'
      obtain ⟨e, he⟩ : ∃ e, x[k]? = some e := ⟨_, List.getElem?_eq_getElem hlt⟩
      obtain ⟨c0, c1⟩ := eEntry_cells hc he
      have hli : (k : Int) < (x.length : Int) := by omega
      have hws := (g e (List.mem_of_getElem? he)).1
      unfold maxLen at hws
      have HE := hid he
      clear he hao
      have next : preB s e.word = false → ∀ j e', j < k + 1 → x[j]? = some e' → preB s e'.word = false := by
        intro hq j e' hj he'
        by_cases ej : j = k
        · subst ej
          rw [HE.out] at he'; obtain rfl := Option.some.inj he'
          exact hq
        · exact HA.out j e' (by omega) he'
      by_cases hsl : s.size ≤ e.word.size
      · have h1 : (s.size : Int) ≤ (e.word.size : Int) := by omega
        have h0 : (0 : Int) ≤ (s.size : Int) := by omega
        cases hq : ((e.word.extract 0 s.size).toList == s.toList)
        · have HN := hid (next (by simp [preB, eqS, hq]))
          clear next
          go_wp2
          go_round
          case rel => exact ⟨k + 1, by omega, by go_num, HN.out⟩
          case measure => simp [intOf]; omega
        · have HV : Hid (begLx x s = true) := hid (List.any_eq_true.2 ⟨e, List.mem_of_getElem? HE.out, by simp [preB, eqS, hq, hsl]⟩)
          clear next
          go_wp2
          go_ret
          exact ⟨by rw [HV.out]; rfl, rfl⟩
      · have h1 : (e.word.size : Int) < (s.size : Int) := by omega
        have h2 : decide ((s.size : Int) ≤ (e.word.size : Int)) = false := by simp; omega
        have HN := hid (next (by simp [preB, hsl]))
        clear next
        go_wp2
        go_round
        case rel => exact ⟨k + 1, by omega, by go_num, HN.out⟩
        case measure => simp [intOf]; omega
    · have HV : Hid (begLx x s = false) := hid (List.any_eq_false.2 fun e he => by
        obtain ⟨j, hj⟩ := List.mem_iff_getElem?.1 he
        have := HA.out j e (by have := (List.getElem?_eq_some_iff.1 hj).1; omega) hj
        simp [this])
      go_wp2
      go_ret
      exact ⟨by rw [HV.out]; rfl, rfl⟩
theorem l16Begins_is {p : Nat} {v : Value} {x : XLexicon} {s : ByteArray} {c : Bool} (hcc : begLx x s = c) {w : World} (hp : w.cell? ⟨p, 0, none⟩ = some v) (h : Arr eEntry w v x) (ok : okLexicon x) (g : goodLexicon x) (hsz : s.size ≤ 1048576) :
    Calls Tryz.prog 54 #[.pointer (some ⟨p, 0, none⟩), .string s] w fun e w' => e = .returned (.bool c) ∧ w = w' := by subst hcc; exact l16Begins_any p v x s w hp h ok g hsz
end Go.Proofs.YtcikndmmbfompaaGreatDoor
namespace Go.Proofs.YtcikndmmbfompaaGreatDoor
def beg0 (y : XLexicon) : List DReading := if begLx y ByteArray.empty then [⟨⟨#[]⟩, 0⟩] else []
end Go.Proofs.YtcikndmmbfompaaGreatDoor
