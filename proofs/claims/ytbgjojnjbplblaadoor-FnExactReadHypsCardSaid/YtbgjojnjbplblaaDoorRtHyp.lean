/- Hypotheses that are read from their text: what both calls return. Plain lemmas, no program. -/
import Derived.Test.YtbgjojnjbplblaaDoorRtMap
import Derived.Test.YtbgjojnjbplblaaDoorTxHyp
namespace Go.Proofs.YtbgjojnjbplblaaDoor

theorem join_is (b : UInt8) : ∀ P : List (List UInt8), Lib.join P [b] = joinL b P
  | [] => rfl
  | [p] => Lib.join_one p [b]
  | p :: q :: r => by
    have ih := join_is b (q :: r)
    rw [Lib.join_cons] at ih
    rw [Lib.join_cons, joinL_cons b p (by simp), ← ih]
    show p ++ (Lib.joinTail [b] (q :: r)) = _
    rw [show Lib.joinTail [b] (q :: r) = [b] ++ q ++ Lib.joinTail [b] r from by unfold Lib.joinTail; simp]
    simp
def noneS : ByteArray := ⟨#[110, 111, 110, 101]⟩
theorem noneS_list : noneS.toList = [110, 111, 110, 101] := by rw [ByteArray.toList_eq]; rfl
def partE (p : List UInt8) : Option DHyp := match splL 58 p with
  | [a, c] => (rdN c).map fun n => ⟨⟨a.toArray⟩, n⟩
  | _ => none
def candH (p : List UInt8) : DHyp := ⟨⟨(Lib.cut p [58]).1.toArray⟩, rdNv (Lib.cut p [58]).2.1⟩
def readHy (s : ByteArray) : Option XHypS := if eqS s noneS then some [] else (match mapO partE (splL 32 s.data.toList) with
    | some x => if validHy x then some x else none
    | none => none)
def rdHy (s : ByteArray) : XHypS := (readHy s).getD []
def rdHyB (s : ByteArray) : Bool := (readHy s).isSome
theorem partE_some {p : List UInt8} {e : DHyp} (h : partE p = some e) : candH p = e ∧ hyL e = p := by
  unfold partE at h
  split at h
  · rename_i a c hs
    cases hr : rdN c with
    | none => rw [hr] at h; cases h
    | some n =>
      rw [hr] at h
      obtain rfl := Option.some.inj h
      have hp : p = a ++ 58 :: c := by
        have := join_splL 58 p
        rw [hs] at this
        exact this.symm
      have ha : (58 : UInt8) ∉ a := splL_mem (s := p) (by rw [hs]; exact List.mem_cons_self)
      have hc : Lib.cut p [58] = (a, c, true) := by rw [hp]; exact cut_hit ha c
      refine ⟨?_, ?_⟩
      · unfold candH
        rw [hc]
        simp only [rdNv, hr, Option.getD_some]
      · unfold hyL lnH
        rw [hp]
        simp only [app_list, decS_list, (rdN_some hr).1]
        simp
  · cases h
theorem mapO_candH : ∀ {P : List (List UInt8)} {x : XHypS}, mapO partE P = some x → P.map candH = x ∧ x.map hyL = P
  | [], x, h => by simp [mapO] at h; subst h; exact ⟨rfl, rfl⟩
  | p :: t, x, h => by
    obtain ⟨e, r, h1, h2, rfl⟩ := mapO_cons h
    obtain ⟨i1, i2⟩ := mapO_candH h2
    obtain ⟨j1, j2⟩ := partE_some h1
    exact ⟨by rw [List.map_cons, i1, j1], by rw [List.map_cons, i2, j2]⟩
theorem hyE_lab {x : XHypS} (h : validHy x = true) {e : DHyp} (he : e ∈ x) : isLabelB e.label = true ∧ 0 ≤ e.cost ∧ e.cost ≤ 1000000 := by
  obtain ⟨k, hk⟩ := List.getElem?_of_mem he
  cases hb : hyOk x k e with
  | false => rw [allHy_at hk hb] at h; cases h
  | true =>
    unfold hyOk at hb
    simp only [Bool.and_eq_true, inB_true] at hb
    exact ⟨hb.1.1.1, hb.1.1.2.1, hb.1.1.2.2⟩
theorem hyL_eq (e : DHyp) : hyL e = e.label.data.toList ++ 58 :: Lib.itoa e.cost := by
  unfold hyL lnH
  simp only [app_list, decS_list]
  show e.label.data.toList ++ [58] ++ Lib.itoa e.cost = _
  rw [List.append_assoc]
  rfl
theorem partE_line {e : DHyp} (hl : isLabelB e.label = true) (h0 : 0 ≤ e.cost) (h1 : e.cost ≤ 1000000) : partE (hyL e) = some e ∧ (32 : UInt8) ∉ hyL e := by
  obtain ⟨b, hb, n10, n32, n58⟩ := lab_byte hl
  have h58 : (58 : UInt8) ∉ Lib.itoa e.cost := itoa_no2 (by decide)
  have h32 : (32 : UInt8) ∉ Lib.itoa e.cost := itoa_no (by decide)
  rw [hyL_eq]
  refine ⟨?_, ?_⟩
  · unfold partE
    rw [splL_hit (by rw [hb]; simp; exact fun h => n58 h.symm), splL_none h58]
    simp only [rdN_itoa (n := e.cost) (by omega), Option.map_some]
  · rw [hb]
    intro hm
    rcases List.mem_append.1 hm with h2 | h2
    · simp at h2; exact n32 h2.symm
    · rcases List.mem_cons.1 h2 with h3 | h3
      · exact absurd h3 (by decide)
      · exact h32 h3
theorem readHy_iff (s : ByteArray) (hne : eqS s noneS = false) : readHy s = if validHy ((splL 32 s.data.toList).map candH) && eqS (hypS ((splL 32 s.data.toList).map candH)) s then some ((splL 32 s.data.toList).map candH) else none := by
  unfold readHy
  rw [hne]
  simp only [Bool.false_eq_true, if_false]
  obtain ⟨P, hP⟩ : ∃ P, P = splL 32 s.data.toList := ⟨_, rfl⟩
  rw [← hP]
  have hPne : P ≠ [] := by rw [hP]; exact splL_ne _ _
  have hcl : ¬ (P.map candH).length = 0 := by
    rw [List.length_map]
    intro h
    exact hPne (List.length_eq_zero_iff.1 h)
  cases hm : mapO partE P with
  | some x =>
    obtain ⟨h1, h2⟩ := mapO_candH hm
    rw [h1] at hcl ⊢
    simp only
    cases hv : validHy x with
    | false => simp
    | true =>
      have : eqS (hypS x) s = true := by
        unfold eqS hypS
        rw [if_pos hv, if_neg hcl, beq_iff_eq, ByteArray.toList_eq, ByteArray.toList_eq, ofL_list]
        unfold hypT
        rw [h2, join_is, hP, join_splL]
      rw [this]; simp
  | none =>
    simp only
    symm
    rw [if_neg]
    intro h
    rw [Bool.and_eq_true] at h
    obtain ⟨hv, he⟩ := h
    obtain ⟨x, hx⟩ : ∃ x, x = P.map candH := ⟨_, rfl⟩
    rw [← hx] at hv he hcl
    unfold eqS hypS at he
    rw [if_pos hv, if_neg hcl, beq_iff_eq, ByteArray.toList_eq, ByteArray.toList_eq, ofL_list] at he
    have h2 : P = x.map hyL := by
      rw [hP, ← he]
      unfold hypT
      rw [join_is]
      refine splL_join ?_ fun p hp => ?_
      · intro h
        have := congrArg List.length h
        rw [List.length_map] at this
        exact hcl this
      · obtain ⟨e, he', rfl⟩ := List.mem_map.1 hp
        obtain ⟨a1, a2, a3⟩ := hyE_lab hv he'
        exact (partE_line a1 a2 a3).2
    have h3 : mapO partE (x.map hyL) = some (x.map id) := mapO_map fun e he' => by
      obtain ⟨a1, a2, a3⟩ := hyE_lab hv he'
      exact (partE_line a1 a2 a3).1
    rw [h2] at hm
    rw [hm] at h3; cases h3
theorem readHy_none {s : ByteArray} (h : eqS s noneS = true) : readHy s = some [] := by unfold readHy; rw [if_pos h]
theorem validHy_nil : validHy [] = true := by decide
theorem hypS_nil : hypS [] = noneS := by unfold hypS; rw [if_pos validHy_nil]; rfl
theorem rdHy_some {s : ByteArray} {x : XHypS} (h : readHy s = some x) : rdHy s = x ∧ rdHyB s = true := by unfold rdHy rdHyB; rw [h]; exact ⟨rfl, rfl⟩
theorem rdHy_none {s : ByteArray} (h : readHy s = none) : rdHy s = [] ∧ rdHyB s = false := by unfold rdHy rdHyB; rw [h]; exact ⟨rfl, rfl⟩
theorem goodCandH {s : ByteArray} (hs : s.size ≤ 1048576) : goodHypS ((splL 32 s.data.toList).map candH) := by
  intro e he
  obtain ⟨p, hp, rfl⟩ := List.mem_map.1 he
  refine ⟨?_, wfR (rdNv_bd _)⟩
  have h2 := splL_plen hp
  have h3 : s.data.toList.length = s.size := by rw [Array.length_toList]; rfl
  have h4 := cut_len p 58
  show (Lib.cut p [58]).1.toArray.size ≤ maxLen
  rw [List.size_toArray]
  unfold maxLen
  omega
theorem mapO_all {α β : Type} {f : α → Option β} : ∀ {l : List α} {x : List β}, mapO f l = some x → ∀ a ∈ l, ∃ b, f a = some b
  | [], _, _, a, h => by cases h
  | c :: t, x, h, a, ha => by
    obtain ⟨b', r, h1, h2, rfl⟩ := mapO_cons h
    rcases List.mem_cons.1 ha with e | e
    · subst e; exact ⟨b', h1⟩
    · exact mapO_all h2 a e
theorem join_long (b : UInt8) : ∀ {P : List (List UInt8)}, P ≠ [] → (∀ p ∈ P, 1 ≤ p.length) → 2 * P.length ≤ (joinL b P).length + 1
  | [], h, _ => absurd rfl h
  | [p], _, h => by have := h p List.mem_cons_self; simp [joinL]; omega
  | p :: q :: r, _, h => by
    have h1 := h p List.mem_cons_self
    have h2 := join_long b (P := q :: r) (by simp) fun x hx => h x (List.mem_cons_of_mem _ hx)
    rw [joinL_cons b p (by simp), List.length_append, List.length_cons]
    simp only [List.length_cons] at h2 ⊢
    omega
theorem readHy_short {s : ByteArray} {x : XHypS} (hs : s.size ≤ 1048576) (h : mapO partE (splL 32 s.data.toList) = some x) : x.length ≤ 1048576 := by
  have h1 := join_long 32 (splL_ne 32 s.data.toList) fun p hp => by
    obtain ⟨e, he⟩ := mapO_all h p hp
    have h2 := (partE_some he).2
    rw [← h2, hyL_eq, List.length_append, List.length_cons]
    omega
  rw [join_splL] at h1
  have h3 : s.data.toList.length = s.size := by rw [Array.length_toList]; rfl
  have h4 := mapO_len h
  omega
theorem okRdHy {s : ByteArray} : okHypS (rdHy s) := by
  unfold okHypS
  cases h : readHy s with
  | none => rw [(rdHy_none h).1]; simp
  | some x =>
    rw [(rdHy_some h).1]
    unfold readHy at h
    split at h
    · obtain rfl := Option.some.inj h; simp
    · split at h
      · split at h
        · rename_i hv
          obtain rfl := Option.some.inj h
          have := hypN_ok hv; omega
        · cases h
      · cases h
end Go.Proofs.YtbgjojnjbplblaaDoor
