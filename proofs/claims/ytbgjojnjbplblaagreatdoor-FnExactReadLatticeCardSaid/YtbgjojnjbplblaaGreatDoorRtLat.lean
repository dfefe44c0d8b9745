/- A lattice that is read from its text: what both calls return. Plain lemmas, no program. -/
import Derived.Test.YtbgjojnjbplblaaGreatDoorRtMap
import Derived.Test.YtbgjojnjbplblaaGreatDoorTxLat
namespace Go.Proofs.YtbgjojnjbplblaaGreatDoor

def latW : List UInt8 := [108, 97, 116, 116, 105, 99, 101]
def lineG (p : List UInt8) : Option DEdge := match splL 32 p with
  | [a, b, l, c] => match rdN a, rdN b, rdN c with
    | some x, some y, some z => some ⟨x, y, ⟨l.toArray⟩, z⟩
    | _, _, _ => none
  | _ => none
def candG (p : List UInt8) : DEdge := match splL 32 p with
  | [a, b, l, c] => ⟨rdNv a, rdNv b, ⟨l.toArray⟩, rdNv c⟩
  | _ => ⟨0, 0, ⟨#[]⟩, 0⟩
def headN (p : List UInt8) : Option Int := match splL 32 p with
  | [a, c] => if a = latW then rdN c else none
  | _ => none
def candN (p : List UInt8) : Int := match splL 32 p with
  | [_, c] => rdNv c
  | _ => 0
def readLt (s : ByteArray) : Option XLattice := match linesL s.data.toList with
  | some (h :: P) => (match headN h, mapO lineG P with
    | some n, some x => if validLt (n, x) then some (n, x) else none
    | _, _ => none)
  | _ => none
def rdLt (s : ByteArray) : XLattice := (readLt s).getD (0, [])
def rdLtB (s : ByteArray) : Bool := (readLt s).isSome
theorem spl4 {b : UInt8} {p a0 a1 a2 a3 : List UInt8} (h : splL b p = [a0, a1, a2, a3]) : p = a0 ++ b :: (a1 ++ b :: (a2 ++ b :: a3)) := by
  have := join_splL b p
  rw [h] at this
  exact this.symm
theorem spl2 {b : UInt8} {p a0 a1 : List UInt8} (h : splL b p = [a0, a1]) : p = a0 ++ b :: a1 := by
  have := join_splL b p
  rw [h] at this
  exact this.symm
/-- the line of an edge -/
def lineOfG (e : DEdge) : List UInt8 := Lib.itoa e.frm ++ 32 :: (Lib.itoa e.to_ ++ 32 :: (e.label.data.toList ++ 32 :: Lib.itoa e.cost))
theorem edgL_line (e : DEdge) : edgL e = lineOfG e ++ [10] := by
  unfold edgL lnD lineOfG
  simp only [app_list, decS_list, List.append_assoc, List.cons_append]
  rfl
def headOf (n : Int) : List UInt8 := latW ++ 32 :: Lib.itoa n
theorem hdS_line (n : Int) : (hdS n).data.toList = headOf n ++ [10] := by
  unfold hdS headOf latW
  simp only [app_list, decS_list, List.append_assoc, List.cons_append]
  rfl
theorem lineG_some {p : List UInt8} {e : DEdge} (h : lineG p = some e) : candG p = e ∧ lineOfG e = p := by
  unfold lineG at h
  split at h
  · rename_i a b l c hs
    split at h
    · rename_i x y z h1 h2 h3
      obtain rfl := Option.some.inj h
      refine ⟨?_, ?_⟩
      · unfold candG
        rw [hs]
        simp only [rdNv, h1, h2, h3, Option.getD_some]
      · unfold lineOfG
        rw [spl4 hs]
        simp only [(rdN_some h1).1, (rdN_some h2).1, (rdN_some h3).1]
    · cases h
  · cases h
theorem headN_some {p : List UInt8} {n : Int} (h : headN p = some n) : candN p = n ∧ headOf n = p := by
  unfold headN at h
  split at h
  · rename_i a c hs
    split at h
    · rename_i ha
      refine ⟨?_, ?_⟩
      · unfold candN
        rw [hs]
        simp only [rdNv, h, Option.getD_some]
      · unfold headOf
        rw [spl2 hs, ← ha, (rdN_some h).1]
    · cases h
  · cases h
theorem mapO_candG : ∀ {P : List (List UInt8)} {x : List DEdge}, mapO lineG P = some x → P.map candG = x ∧ x.map lineOfG = P
  | [], x, h => by simp [mapO] at h; subst h; exact ⟨rfl, rfl⟩
  | p :: t, x, h => by
    obtain ⟨e, r, h1, h2, rfl⟩ := mapO_cons h
    obtain ⟨i1, i2⟩ := mapO_candG h2
    obtain ⟨j1, j2⟩ := lineG_some h1
    exact ⟨by rw [List.map_cons, i1, j1], by rw [List.map_cons, i2, j2]⟩
theorem latE_fit {n : Int} {x : List DEdge} (h : validLt (n, x) = true) {e : DEdge} (he : e ∈ x) : (0 ≤ e.frm ∧ e.frm ≤ 20) ∧ (0 ≤ e.to_ ∧ e.to_ ≤ 20) ∧ isLabelB e.label = true ∧ 0 ≤ e.cost ∧ e.cost ≤ 1000000 := by
  obtain ⟨k, hk⟩ := List.getElem?_of_mem he
  unfold validLt at h
  simp only [Bool.and_eq_true, decide_eq_true_eq, inB_true] at h
  cases hb : edOk n x k e with
  | false => have := h.2; rw [validEd_at hk hb] at this; cases this
  | true =>
    unfold edOk at hb
    rw [Bool.and_eq_true, Bool.and_eq_true] at hb
    have hf := hb.1.1
    unfold fitE at hf
    simp only [Bool.and_eq_true, decide_eq_true_eq, inB_true] at hf
    exact ⟨by omega, by omega, hb.1.2, by omega, by omega⟩
theorem latN_fit {n : Int} {x : List DEdge} (h : validLt (n, x) = true) : 1 ≤ n ∧ n ≤ 20 := by
  unfold validLt at h
  simp only [Bool.and_eq_true, decide_eq_true_eq, inB_true] at h
  exact h.1.1
theorem lineG_line {e : DEdge} (h0 : 0 ≤ e.frm ∧ e.frm ≤ 20) (h1 : 0 ≤ e.to_ ∧ e.to_ ≤ 20) (hl : isLabelB e.label = true) (h2 : 0 ≤ e.cost) (h3 : e.cost ≤ 1000000) : lineG (lineOfG e) = some e ∧ (10 : UInt8) ∉ lineOfG e := by
  obtain ⟨b, hb, n10, n32, n58⟩ := lab_byte hl
  have i0 : ∀ n : Int, (32 : UInt8) ∉ Lib.itoa n := fun n => itoa_no (by decide)
  have j0 : ∀ n : Int, (10 : UInt8) ∉ Lib.itoa n := fun n => itoa_no (by decide)
  have hlb : (32 : UInt8) ∉ e.label.data.toList := by rw [hb]; simp; exact fun h => n32 h.symm
  have hlb2 : (10 : UInt8) ∉ e.label.data.toList := by rw [hb]; simp; exact fun h => n10 h.symm
  refine ⟨?_, ?_⟩
  · unfold lineG lineOfG
    rw [splL_hit (i0 _), splL_hit (i0 _), splL_hit hlb, splL_none (i0 _)]
    simp only [rdN_itoa (n := e.frm) (by omega), rdN_itoa (n := e.to_) (by omega), rdN_itoa (n := e.cost) (by omega)]
  · unfold lineOfG
    intro hm
    rcases List.mem_append.1 hm with h | h
    · exact j0 _ h
    rcases List.mem_cons.1 h with h | h
    · exact absurd h (by decide)
    rcases List.mem_append.1 h with h | h
    · exact j0 _ h
    rcases List.mem_cons.1 h with h | h
    · exact absurd h (by decide)
    rcases List.mem_append.1 h with h | h
    · exact hlb2 h
    rcases List.mem_cons.1 h with h | h
    · exact absurd h (by decide)
    exact j0 _ h
theorem headN_line {n : Int} (h0 : 1 ≤ n) (h1 : n ≤ 20) : headN (headOf n) = some n ∧ (10 : UInt8) ∉ headOf n := by
  refine ⟨?_, ?_⟩
  · unfold headN headOf
    rw [splL_hit (by decide), splL_none (itoa_no (by decide))]
    simp only [if_true]
    exact rdN_itoa (by omega)
  · unfold headOf
    intro hm
    rcases List.mem_append.1 hm with h | h
    · exact absurd h (by decide)
    rcases List.mem_cons.1 h with h | h
    · exact absurd h (by decide)
    exact itoa_no (n := n) (b := 10) (by decide) h
theorem latL_lines (n : Int) (x : List DEdge) : latL n x = (headOf n :: x.map lineOfG).flatMap fun p => p ++ [10] := by
  unfold latL
  rw [List.flatMap_cons, hdS_line, List.flatMap_map]
  congr 2
  funext e
  exact edgL_line e
theorem latS_eq {n : Int} {x : List DEdge} (h : validLt (n, x) = true) : (latS (n, x)).data.toList = latL n x := by
  unfold latS; rw [if_pos h, ofL_list]
/-- what the reference returns is what the implementation finds: its own text -/
theorem readLt_iff (s : ByteArray) {h : List UInt8} {P : List (List UInt8)} (hP : linesL s.data.toList = some (h :: P)) : readLt s = if validLt (candN h, P.map candG) && eqS (latS (candN h, P.map candG)) s then some (candN h, P.map candG) else none := by
  unfold readLt
  rw [hP]
  simp only
  have other : (headN h = none ∨ mapO lineG P = none) → ((validLt (candN h, P.map candG) && eqS (latS (candN h, P.map candG)) s) = false) := by
    intro hno
    cases hb : (validLt (candN h, P.map candG) && eqS (latS (candN h, P.map candG)) s) with
    | false => rfl
    | true =>
    exfalso
    rw [Bool.and_eq_true] at hb
    obtain ⟨hv, he⟩ := hb
    obtain ⟨x, hx⟩ : ∃ x, x = P.map candG := ⟨_, rfl⟩
    obtain ⟨n, hn⟩ : ∃ n, n = candN h := ⟨_, rfl⟩
    rw [← hx, ← hn] at hv he
    unfold eqS at he
    rw [beq_iff_eq, ByteArray.toList_eq, ByteArray.toList_eq, latS_eq hv] at he
    have hnf := latN_fit hv
    have h2 : linesL s.data.toList = some (headOf n :: x.map lineOfG) := by
      rw [← he, latL_lines]
      refine linesL_mk fun p hp => ?_
      rcases List.mem_cons.1 hp with h1 | h1
      · rw [h1]; exact (headN_line hnf.1 hnf.2).2
      · obtain ⟨e, he', rfl⟩ := List.mem_map.1 h1
        obtain ⟨a1, a2, a3, a4, a5⟩ := latE_fit hv he'
        exact (lineG_line a1 a2 a3 a4 a5).2
    rw [hP] at h2
    obtain ⟨rfl, rfl⟩ := List.cons.inj (Option.some.inj h2)
    rcases hno with h3 | h3
    · rw [(headN_line hnf.1 hnf.2).1] at h3; cases h3
    · have h4 : mapO lineG (x.map lineOfG) = some (x.map id) := mapO_map fun e he' => by
        obtain ⟨a1, a2, a3, a4, a5⟩ := latE_fit hv he'
        exact (lineG_line a1 a2 a3 a4 a5).1
      rw [h3] at h4; cases h4
  cases h1 : headN h with
  | none => simp only; rw [other (.inl h1)]; rfl
  | some n =>
    cases hm : mapO lineG P with
    | none => simp only; rw [other (.inr hm)]; rfl
    | some x =>
      obtain ⟨a1, a2⟩ := headN_some h1
      obtain ⟨b1, b2⟩ := mapO_candG hm
      simp only
      rw [a1, b1]
      cases hv : validLt (n, x) with
      | false => simp
      | true =>
        have : eqS (latS (n, x)) s = true := by
          unfold eqS
          rw [beq_iff_eq, ByteArray.toList_eq, ByteArray.toList_eq, latS_eq hv, latL_lines, a2, b2]
          exact (linesL_some hP).2.symm
        rw [this]; simp
theorem readLt_no {s : ByteArray} (h : linesL s.data.toList = none) : readLt s = none := by unfold readLt; rw [h]
theorem readLt_nil {s : ByteArray} (h : linesL s.data.toList = some []) : readLt s = none := by unfold readLt; rw [h]
theorem headN_len {h : List UInt8} (hl : (splL 32 h).length ≠ 2) : headN h = none := by
  unfold headN
  split
  · rename_i a c hs; exact absurd (by rw [hs]; rfl) hl
  · rfl
theorem lineG_len {h : List UInt8} (hl : (splL 32 h).length ≠ 4) : lineG h = none := by
  unfold lineG
  split
  · rename_i a b l c hs; exact absurd (by rw [hs]; rfl) hl
  · rfl
theorem readLt_head {s : ByteArray} {h : List UInt8} {P : List (List UInt8)} (hP : linesL s.data.toList = some (h :: P)) (hl : headN h = none) : readLt s = none := by
  unfold readLt; rw [hP]; simp only; rw [hl]
theorem readLt_line {s : ByteArray} {h : List UInt8} {P : List (List UInt8)} (hP : linesL s.data.toList = some (h :: P)) {p : List UInt8} (hp : p ∈ P) (hl : lineG p = none) : readLt s = none := by
  unfold readLt; rw [hP]; simp only
  rw [mapO_none hp hl]
  cases headN h <;> rfl
theorem readLt_bad {s : ByteArray} {h : List UInt8} {P : List (List UInt8)} {n : Int} {x : List DEdge} (hP : linesL s.data.toList = some (h :: P)) (hn : headN h = some n) (hx : mapO lineG P = some x) : readLt s = if validLt (n, x) then some (n, x) else none := by
  unfold readLt; rw [hP]; simp only; rw [hn, hx]
theorem rdLt_some {s : ByteArray} {x : XLattice} (h : readLt s = some x) : rdLt s = x ∧ rdLtB s = true := by unfold rdLt rdLtB; rw [h]; exact ⟨rfl, rfl⟩
theorem rdLt_none {s : ByteArray} (h : readLt s = none) : rdLt s = (0, []) ∧ rdLtB s = false := by unfold rdLt rdLtB; rw [h]; exact ⟨rfl, rfl⟩
theorem goodCandG1 {p : List UInt8} (hp : p.length ≤ 1048576) : goodEdge (candG p) := by
  unfold candG
  split
  · rename_i a b l c hs
    have h1 : l ∈ splL 32 p := by rw [hs]; simp
    have h2 := splL_plen h1
    refine ⟨wfR (rdNv_bd _), wfR (rdNv_bd _), ?_, wfR (rdNv_bd _)⟩
    show l.toArray.size ≤ maxLen
    rw [List.size_toArray]
    unfold maxLen
    omega
  · exact ⟨by decide, by decide, by decide, by decide⟩
theorem goodCandG {n : Int} {P : List (List UInt8)} (hp : ∀ p ∈ P, p.length ≤ 1048576) : goodLattice (n, P.map candG) := by
  intro e he
  obtain ⟨p, hp', rfl⟩ := List.mem_map.1 he
  exact goodCandG1 (hp p hp')
theorem okRdLt {s : ByteArray} : okLattice (rdLt s) := by
  unfold okLattice
  cases h : readLt s with
  | none => rw [(rdLt_none h).1]; simp
  | some x =>
    rw [(rdLt_some h).1]
    unfold readLt at h
    split at h
    · split at h
      · split at h
        · rename_i hv
          obtain rfl := Option.some.inj h
          exact Nat.le_trans (latN_ok hv).2 (by decide)
        · cases h
      · cases h
    · cases h
end Go.Proofs.YtbgjojnjbplblaaGreatDoor
