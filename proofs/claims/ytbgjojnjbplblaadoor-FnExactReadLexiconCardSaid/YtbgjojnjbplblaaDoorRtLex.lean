/- A lexicon that is read from its text: what both calls return. Plain lemmas, no program. -/
import Derived.Test.YtbgjojnjbplblaaDoorRtMap
import Derived.Test.YtbgjojnjbplblaaDoorTxLex
namespace Go.Proofs.YtbgjojnjbplblaaDoor

/-! ### lexicons -/
def lineE (p : List UInt8) : Option DEntry := match splL 32 p with
  | [a, c] => (rdN c).map fun n => ⟨⟨a.toArray⟩, n⟩
  | _ => none
def candE (p : List UInt8) : DEntry := ⟨⟨(Lib.cut p [32]).1.toArray⟩, rdNv (Lib.cut p [32]).2.1⟩
def readLx (s : ByteArray) : Option XLexicon := match linesL s.data.toList with
  | some P => (match mapO lineE P with
    | some x => if validLx x then some x else none
    | none => none)
  | none => none
def rdLx (s : ByteArray) : XLexicon := (readLx s).getD []
def rdLxB (s : ByteArray) : Bool := (readLx s).isSome
theorem lineE_some {p : List UInt8} {e : DEntry} (h : lineE p = some e) : candE p = e ∧ entL e = p ++ [10] := by
  unfold lineE at h
  split at h
  · rename_i a c hs
    cases hr : rdN c with
    | none => rw [hr] at h; cases h
    | some n =>
      rw [hr] at h
      obtain rfl := Option.some.inj h
      have hp : p = a ++ 32 :: c := by
        have := join_splL 32 p
        rw [hs] at this
        exact this.symm
      have ha : (32 : UInt8) ∉ a := splL_mem (s := p) (by rw [hs]; exact List.mem_cons_self)
      have hc : Lib.cut p [32] = (a, c, true) := by rw [hp]; exact cut_hit ha c
      refine ⟨?_, ?_⟩
      · unfold candE
        rw [hc]
        simp only [rdNv, hr, Option.getD_some]
      · unfold entL lnE
        rw [hp]
        simp only [app_list, decS_list, (rdN_some hr).1]
        simp
  · cases h
theorem mapO_cand : ∀ {P : List (List UInt8)} {x : XLexicon}, mapO lineE P = some x → P.map candE = x ∧ lexL x = P.flatMap fun p => p ++ [10]
  | [], x, h => by simp [mapO] at h; subst h; exact ⟨rfl, rfl⟩
  | p :: t, x, h => by
    obtain ⟨e, r, h1, h2, rfl⟩ := mapO_cons h
    obtain ⟨i1, i2⟩ := mapO_cand h2
    obtain ⟨j1, j2⟩ := lineE_some h1
    refine ⟨by rw [List.map_cons, i1, j1], ?_⟩
    unfold lexL at i2 ⊢
    rw [List.flatMap_cons, List.flatMap_cons, i2, j2]
/-- the line of an entry -/
def lineOf (e : DEntry) : List UInt8 := e.word.data.toList ++ 32 :: Lib.itoa e.cost
theorem entL_line (e : DEntry) : entL e = lineOf e ++ [10] := by
  unfold entL lnE lineOf
  simp only [app_list, decS_list]
  show e.word.data.toList ++ [32] ++ Lib.itoa e.cost ++ [10] = _
  rw [List.append_assoc e.word.data.toList]
  rfl
theorem lexE_word {x : XLexicon} (h : validLx x = true) {e : DEntry} (he : e ∈ x) : isWordB e.word = true ∧ 0 ≤ e.cost ∧ e.cost ≤ 1000000 := by
  obtain ⟨k, hk⟩ := List.getElem?_of_mem he
  cases hb : entOk x k e with
  | false => rw [validLx_at hk hb] at h; cases h
  | true =>
    unfold entOk at hb
    rw [Bool.and_eq_true, Bool.and_eq_true, inB_true] at hb
    exact ⟨hb.1.1, hb.1.2.1, hb.1.2.2⟩
theorem word_bytes {s : ByteArray} (h : isWordB s = true) {b : UInt8} (hb : b ∈ s.data.toList) : 97 ≤ b.toNat ∧ b.toNat ≤ 122 := by
  unfold isWordB at h
  rw [Bool.and_eq_true, List.all_eq_true] at h
  have h1 := h.1 b hb
  unfold letB at h1
  rw [inB_true] at h1
  omega
theorem lineE_line {e : DEntry} (hw : isWordB e.word = true) (h0 : 0 ≤ e.cost) (h1 : e.cost ≤ 1000000) : lineE (lineOf e) = some e ∧ (10 : UInt8) ∉ lineOf e := by
  have hno : ∀ b : UInt8, b.toNat < 45 → b ∉ e.word.data.toList := fun b hb hm => by
    have := word_bytes hw hm; omega
  have h32 : (32 : UInt8) ∉ Lib.itoa e.cost := itoa_no (by decide)
  refine ⟨?_, ?_⟩
  · unfold lineE lineOf
    rw [splL_hit (hno 32 (by decide)), splL_none h32]
    simp only [rdN_itoa (n := e.cost) (by omega), Option.map_some]
  · unfold lineOf
    intro hm
    rcases List.mem_append.1 hm with h2 | h2
    · exact hno 10 (by decide) h2
    · rcases List.mem_cons.1 h2 with h3 | h3
      · exact absurd h3 (by decide)
      · exact itoa_no (n := e.cost) (b := 10) (by decide) h3
theorem lexS_eq {x : XLexicon} (h : validLx x = true) : (lexS x).data.toList = lexL x := by
  unfold lexS; rw [if_pos h, ofL_list]
/-- what the reference returns is what the implementation finds: its own text -/
theorem readLx_iff (s : ByteArray) {P : List (List UInt8)} (hP : linesL s.data.toList = some P) : readLx s = if validLx (P.map candE) && eqS (lexS (P.map candE)) s then some (P.map candE) else none := by
  unfold readLx
  rw [hP]
  simp only
  cases hm : mapO lineE P with
  | some x =>
    obtain ⟨h1, h2⟩ := mapO_cand hm
    rw [h1]
    simp only
    cases hv : validLx x with
    | false => simp
    | true =>
      have : eqS (lexS x) s = true := by
        unfold eqS
        rw [beq_iff_eq, ByteArray.toList_eq, ByteArray.toList_eq, lexS_eq hv, h2]
        exact (linesL_some hP).2.symm
      rw [this]; simp
  | none =>
    simp only
    symm
    rw [if_neg]
    intro h
    rw [Bool.and_eq_true] at h
    obtain ⟨hv, he⟩ := h
    obtain ⟨x, hx⟩ : ∃ x, x = P.map candE := ⟨_, rfl⟩
    rw [← hx] at hv he
    unfold eqS at he
    rw [beq_iff_eq, ByteArray.toList_eq, ByteArray.toList_eq, lexS_eq hv] at he
    have h1 : lexL x = (x.map lineOf).flatMap fun p => p ++ [10] := by
      unfold lexL
      rw [List.flatMap_map]
      congr 1
      funext e
      exact entL_line e
    have h2 : linesL s.data.toList = some (x.map lineOf) := by
      rw [← he, h1]
      refine linesL_mk fun p hp => ?_
      obtain ⟨e, he', rfl⟩ := List.mem_map.1 hp
      obtain ⟨a1, a2, a3⟩ := lexE_word hv he'
      exact (lineE_line a1 a2 a3).2
    rw [hP] at h2
    obtain rfl := Option.some.inj h2
    have h3 : mapO lineE (x.map lineOf) = some (x.map id) := mapO_map fun e he' => by
      obtain ⟨a1, a2, a3⟩ := lexE_word hv he'
      exact (lineE_line a1 a2 a3).1
    rw [hm] at h3; cases h3
theorem readLx_no {s : ByteArray} (h : linesL s.data.toList = none) : readLx s = none := by unfold readLx; rw [h]
theorem rdLx_some {s : ByteArray} {x : XLexicon} (h : readLx s = some x) : rdLx s = x ∧ rdLxB s = true := by unfold rdLx rdLxB; rw [h]; exact ⟨rfl, rfl⟩
theorem rdLx_none {s : ByteArray} (h : readLx s = none) : rdLx s = [] ∧ rdLxB s = false := by unfold rdLx rdLxB; rw [h]; exact ⟨rfl, rfl⟩
theorem validLx_len {x : XLexicon} (h : validLx x = true) : x.length ≤ 60 := by
  unfold validLx at h
  rw [Bool.and_eq_true, decide_eq_true_eq] at h
  exact h.2
theorem goodCand {s : ByteArray} {P : List (List UInt8)} (hP : linesL s.data.toList = some P) (hs : s.size ≤ 1048576) : goodLexicon (P.map candE) := by
  intro e he
  obtain ⟨p, hp, rfl⟩ := List.mem_map.1 he
  refine ⟨?_, wfR (rdNv_bd _)⟩
  have h1 : p ∈ splL 10 s.data.toList := by rw [(linesL_some hP).1]; exact List.mem_append_left _ hp
  have h2 := splL_plen h1
  have h3 : s.data.toList.length = s.size := by rw [Array.length_toList]; rfl
  have h4 := cut_len p 32
  show (Lib.cut p [32]).1.toArray.size ≤ maxLen
  rw [List.size_toArray]
  unfold maxLen
  omega
theorem okRdLx {s : ByteArray} : okLexicon (rdLx s) := by
  unfold okLexicon
  cases h : readLx s with
  | none => rw [(rdLx_none h).1]; simp
  | some x =>
    rw [(rdLx_some h).1]
    unfold readLx at h
    split at h
    · split at h
      · split at h
        · rename_i hv
          obtain rfl := Option.some.inj h
          have := validLx_len hv; omega
        · cases h
      · cases h
    · cases h
end Go.Proofs.YtbgjojnjbplblaaDoor
