/- A perceptron that is read from its text: what both calls return. Plain lemmas, no program. -/
import Derived.Test.YtbgjojnjbplblaaGreatDoorRtMap
import Derived.Test.YtbgjojnjbplblaaGreatDoorTxPc
namespace Go.Proofs.YtbgjojnjbplblaaGreatDoor

def lineP (p : List UInt8) : Option (ByteArray × List Int) := match splL 32 p with
  | a :: t => (mapO rdN t).map fun ns => (⟨a.toArray⟩, ns)
  | [] => none
def candP (p : List UInt8) : ByteArray × List Int := match splL 32 p with
  | a :: t => (⟨a.toArray⟩, t.map rdNv)
  | [] => (⟨#[]⟩, [])
def unz (z : List (ByteArray × List Int)) : XPerceptron := (z.map (·.1), z.map (·.2))
def readPc (s : ByteArray) : Option XPerceptron := match linesL s.data.toList with
  | some P => if P.length ≤ 12 then (match mapO lineP P with
    | some z => if pcOk (unz z) then some (unz z) else none
    | none => none) else none
  | none => none
def rdPc (s : ByteArray) : XPerceptron := (readPc s).getD ([], [])
def rdPcB (s : ByteArray) : Bool := (readPc s).isSome
theorem zip_unz : ∀ z : List (ByteArray × List Int), (unz z).1.zip (unz z).2 = z
  | [] => rfl
  | (a, b) :: t => by
    have := zip_unz t
    simp only [unz, List.map_cons, List.zip_cons_cons] at this ⊢
    rw [this]
theorem unz_zip {x : XPerceptron} (h : x.2.length = x.1.length) : unz (x.1.zip x.2) = x := by
  obtain ⟨a, b⟩ := x
  simp only at h
  unfold unz
  simp only
  rw [List.map_fst_zip (by omega), List.map_snd_zip (by omega)]
def lineOfP (e : ByteArray × List Int) : List UInt8 := e.1.data.toList ++ numL e.2
theorem rowL_line (e : ByteArray × List Int) : rowL e = lineOfP e ++ [10] := rfl
theorem numL_cons (c : Int) (r : List Int) : numL (c :: r) = 32 :: (Lib.itoa c ++ numL r) := rfl
theorem join_num : ∀ (a : List UInt8) (r : List Int), joinL 32 (a :: r.map Lib.itoa) = a ++ numL r
  | a, [] => by simp [joinL, numL]
  | a, c :: r => by
    rw [List.map_cons, joinL_cons 32 a (by simp), join_num _ r, numL_cons]
theorem spl_num : ∀ {a : List UInt8} (_ : (32 : UInt8) ∉ a) (r : List Int), splL 32 (a ++ numL r) = a :: r.map Lib.itoa
  | a, h, [] => by
    rw [show numL [] = [] from rfl, List.append_nil, splL_none h]; rfl
  | a, h, c :: r => by
    rw [numL_cons, splL_hit h, spl_num (itoa_no (by decide)) r, List.map_cons]
theorem mapO_rd : ∀ {t : List (List UInt8)} {ns : List Int}, mapO rdN t = some ns → t = ns.map Lib.itoa ∧ t.map rdNv = ns
  | [], ns, h => by simp [mapO] at h; subst h; exact ⟨rfl, rfl⟩
  | p :: t, ns, h => by
    obtain ⟨n, r, h1, h2, rfl⟩ := mapO_cons h
    obtain ⟨i1, i2⟩ := mapO_rd h2
    refine ⟨by rw [List.map_cons, ← i1, (rdN_some h1).1], ?_⟩
    rw [List.map_cons, i2]
    unfold rdNv
    rw [h1]; rfl
theorem lineP_some {p : List UInt8} {e : ByteArray × List Int} (h : lineP p = some e) : candP p = e ∧ lineOfP e = p := by
  unfold lineP at h
  split at h
  · rename_i a t hs
    cases hm : mapO rdN t with
    | none => rw [hm] at h; cases h
    | some ns =>
      rw [hm] at h
      obtain rfl := Option.some.inj h
      obtain ⟨i1, i2⟩ := mapO_rd hm
      refine ⟨?_, ?_⟩
      · unfold candP
        rw [hs]
        simp only [i2]
      · unfold lineOfP
        show a ++ numL ns = p
        rw [← join_num, ← i1, ← hs, join_splL]
  · cases h
theorem mapO_candP : ∀ {P : List (List UInt8)} {z : List (ByteArray × List Int)}, mapO lineP P = some z → P.map candP = z ∧ z.map lineOfP = P
  | [], x, h => by simp [mapO] at h; subst h; exact ⟨rfl, rfl⟩
  | p :: t, x, h => by
    obtain ⟨e, r, h1, h2, rfl⟩ := mapO_cons h
    obtain ⟨i1, i2⟩ := mapO_candP h2
    obtain ⟨j1, j2⟩ := lineP_some h1
    exact ⟨by rw [List.map_cons, i1, j1], by rw [List.map_cons, i2, j2]⟩
theorem pcE_fit {x : XPerceptron} (h : pcOk x = true) {e : ByteArray × List Int} (he : e ∈ x.1.zip x.2) : isLabelB e.1 = true ∧ ∀ c ∈ e.2, -1000000 ≤ c ∧ c ≤ 1000000 := by
  obtain ⟨s, r⟩ := e
  obtain ⟨hs, hr⟩ := List.of_mem_zip he
  refine ⟨?_, fun c hc => ?_⟩
  · obtain ⟨k, hk⟩ := List.getElem?_of_mem hs
    have hl : labsOk x.1 = true := by unfold pcOk at h; rw [Bool.and_eq_true] at h; exact h.1
    cases hb : labAt x.1 k s with
    | false => rw [labsOk_at hk hb] at hl; cases hl
    | true => unfold labAt at hb; rw [Bool.and_eq_true] at hb; exact hb.1
  · have h1 := (pcOk_rowsT h).1 r hr
    obtain ⟨k, hk⟩ := List.getElem?_of_mem hc
    have h2 := rowOk_bd h1 k
    rw [List.getD, hk, Option.getD_some] at h2
    omega
theorem lineP_line {e : ByteArray × List Int} (hl : isLabelB e.1 = true) (hc : ∀ c ∈ e.2, -1000000 ≤ c ∧ c ≤ 1000000) : lineP (lineOfP e) = some e ∧ (10 : UInt8) ∉ lineOfP e := by
  obtain ⟨b, hb, n10, n32, n58⟩ := lab_byte hl
  have hlb : (32 : UInt8) ∉ e.1.data.toList := by rw [hb]; simp; exact fun h => n32 h.symm
  refine ⟨?_, ?_⟩
  · unfold lineP lineOfP
    rw [spl_num hlb]
    simp only
    have : mapO rdN (e.2.map Lib.itoa) = some (e.2.map id) := mapO_map fun c h => rdN_itoa (by have := hc c h; omega)
    rw [this]
    simp
  · unfold lineOfP
    intro hm
    rcases List.mem_append.1 hm with h | h
    · rw [hb] at h; simp at h; exact n10 h.symm
    · unfold numL at h
      obtain ⟨c, hc', h⟩ := List.mem_flatMap.1 h
      rcases List.mem_cons.1 h with h | h
      · exact absurd h (by decide)
      · exact itoa_no (n := c) (b := 10) (by decide) h
theorem pcpL_lines (z : List (ByteArray × List Int)) : pcpL z = (z.map lineOfP).flatMap fun p => p ++ [10] := by
  unfold pcpL
  rw [List.flatMap_map]
  rfl
theorem pcpS_eq {x : XPerceptron} (h : pcOk x = true) : (pcpS x).data.toList = pcpL (x.1.zip x.2) := by
  unfold pcpS; rw [if_pos h, ofL_list]
def candX (P : List (List UInt8)) : XPerceptron := unz (P.map candP)
theorem candX_len (P : List (List UInt8)) : (candX P).1.length = P.length ∧ (candX P).2.length = P.length := by unfold candX unz; simp
theorem pcOk_few {P : List (List UInt8)} (h : 12 < P.length) : pcOk (candX P) = false := by
  cases hp : pcOk (candX P) with
  | false => rfl
  | true =>
    have h1 := (pcOk_rowsT hp).2.2.2
    rw [(candX_len P).1] at h1
    omega
/-- what the reference returns is what the implementation finds: its own text -/
theorem readPc_iff (s : ByteArray) {P : List (List UInt8)} (hP : linesL s.data.toList = some P) : readPc s = if pcOk (candX P) && eqS (pcpS (candX P)) s then some (candX P) else none := by
  unfold readPc
  rw [hP]
  simp only
  by_cases hl : P.length ≤ 12
  case neg => rw [if_neg hl, pcOk_few (by omega)]; rfl
  rw [if_pos hl]
  cases hm : mapO lineP P with
  | some z =>
    obtain ⟨h1, h2⟩ := mapO_candP hm
    simp only
    have e1 : candX P = unz z := by unfold candX; rw [h1]
    rw [e1]
    cases hv : pcOk (unz z) with
    | false => simp
    | true =>
      have : eqS (pcpS (unz z)) s = true := by
        unfold eqS
        rw [beq_iff_eq, ByteArray.toList_eq, ByteArray.toList_eq, pcpS_eq hv, zip_unz, pcpL_lines, h2]
        exact (linesL_some hP).2.symm
      rw [this]; simp
  | none =>
    simp only
    symm
    rw [if_neg]
    intro h
    rw [Bool.and_eq_true] at h
    obtain ⟨hv, he⟩ := h
    obtain ⟨x, hx⟩ : ∃ x, x = candX P := ⟨_, rfl⟩
    rw [← hx] at hv he
    unfold eqS at he
    rw [beq_iff_eq, ByteArray.toList_eq, ByteArray.toList_eq, pcpS_eq hv, pcpL_lines] at he
    have h2 : linesL s.data.toList = some ((x.1.zip x.2).map lineOfP) := by
      rw [← he]
      refine linesL_mk fun p hp => ?_
      obtain ⟨e, he', rfl⟩ := List.mem_map.1 hp
      obtain ⟨a1, a2⟩ := pcE_fit hv he'
      exact (lineP_line a1 a2).2
    rw [hP] at h2
    obtain rfl := Option.some.inj h2
    have h3 : mapO lineP ((x.1.zip x.2).map lineOfP) = some ((x.1.zip x.2).map id) := mapO_map fun e he' => by
      obtain ⟨a1, a2⟩ := pcE_fit hv he'
      exact (lineP_line a1 a2).1
    rw [hm] at h3; cases h3
theorem readPc_no {s : ByteArray} (h : linesL s.data.toList = none) : readPc s = none := by unfold readPc; rw [h]
theorem readPc_many {s : ByteArray} {P : List (List UInt8)} (h : linesL s.data.toList = some P) (hl : 12 < P.length) : readPc s = none := by unfold readPc; rw [h]; simp only; rw [if_neg (by omega)]
theorem readPc_bad {s : ByteArray} {P : List (List UInt8)} (h : linesL s.data.toList = some P) {p : List UInt8} (hp : p ∈ P) (hl : lineP p = none) : readPc s = none := by
  unfold readPc; rw [h]; simp only
  rw [mapO_none hp hl]
  split <;> rfl
theorem readPc_is {s : ByteArray} {P : List (List UInt8)} (h : linesL s.data.toList = some P) (hl : P.length ≤ 12) {z : List (ByteArray × List Int)} (hm : mapO lineP P = some z) : readPc s = if pcOk (unz z) then some (unz z) else none := by
  unfold readPc; rw [h]; simp only; rw [if_pos hl, hm]
theorem rdPc_some {s : ByteArray} {x : XPerceptron} (h : readPc s = some x) : rdPc s = x ∧ rdPcB s = true := by unfold rdPc rdPcB; rw [h]; exact ⟨rfl, rfl⟩
theorem rdPc_none {s : ByteArray} (h : readPc s = none) : rdPc s = ([], []) ∧ rdPcB s = false := by unfold rdPc rdPcB; rw [h]; exact ⟨rfl, rfl⟩
theorem candP_len (p : List UInt8) : (candP p).1.size ≤ p.length ∧ (candP p).2.length ≤ p.length := by
  unfold candP
  split
  · rename_i a t hs
    have h1 : a ∈ splL 32 p := by rw [hs]; exact List.mem_cons_self
    have h2 := splL_plen h1
    have h3 := splL_len 32 p
    rw [hs] at h3
    simp only [List.length_cons] at h3
    refine ⟨?_, by rw [List.length_map]; show t.length ≤ _; omega⟩
    show a.toArray.size ≤ _
    rw [List.size_toArray]; exact h2
  · exact ⟨by show (0 : Nat) ≤ _; omega, by simp⟩
theorem cand_tot : ∀ P : List (List UInt8), (candX P).2.length + totSS (candX P).2 ≤ (P.flatMap fun p => p ++ [10]).length
  | [] => by simp [candX, unz, totSS, sumOf]
  | p :: t => by
    have ih := cand_tot t
    have h1 := (candP_len p).2
    unfold candX unz totSS sumOf at ih ⊢
    rw [List.flatMap_cons, List.length_append]
    simp only [List.map_cons, List.length_cons, List.sum_cons, List.length_append, List.length_nil] at ih ⊢
    omega
theorem okCandX {s : ByteArray} {P : List (List UInt8)} (hP : linesL s.data.toList = some P) (hs : s.size ≤ 1048576) : okPerceptron (candX P) := by
  have h1 := cand_tot P
  rw [← (linesL_some hP).2] at h1
  have h3 : s.data.toList.length = s.size := by rw [Array.length_toList]; rfl
  have h4 := candX_len P
  refine ⟨?_, ?_⟩
  · show (candX P).1.length ≤ 1048576; omega
  · show (candX P).2.length + totSS (candX P).2 ≤ 1048576; omega
theorem goodCandX {s : ByteArray} {P : List (List UInt8)} (hP : linesL s.data.toList = some P) (hs : s.size ≤ 1048576) : goodStringS (candX P).1 := by
  intro e he
  unfold candX unz at he
  simp only [List.map_map] at he
  obtain ⟨p, hp, rfl⟩ := List.mem_map.1 he
  have h1 : p ∈ splL 10 s.data.toList := by rw [(linesL_some hP).1]; exact List.mem_append_left _ hp
  have h2 := splL_plen h1
  have h3 : s.data.toList.length = s.size := by rw [Array.length_toList]; rfl
  have h4 := (candP_len p).1
  show (candP p).1.size ≤ maxLen
  unfold maxLen
  omega
theorem okRdPc {s : ByteArray} (hs : s.size ≤ 1048576) : okPerceptron (rdPc s) := by
  cases hP : linesL s.data.toList with
  | none => rw [(rdPc_none (readPc_no hP)).1]; exact ⟨by show (0 : Nat) ≤ _; omega, by show ([] : XInt64SS).length + totSS [] ≤ 1048576; simp [totSS, sumOf]⟩
  | some P =>
    have h := readPc_iff s hP
    split at h
    · rw [(rdPc_some h).1]; exact okCandX hP hs
    · rw [(rdPc_none h).1]; exact ⟨by show (0 : Nat) ≤ _; omega, by show ([] : XInt64SS).length + totSS [] ≤ 1048576; simp [totSS, sumOf]⟩
end Go.Proofs.YtbgjojnjbplblaaGreatDoor
