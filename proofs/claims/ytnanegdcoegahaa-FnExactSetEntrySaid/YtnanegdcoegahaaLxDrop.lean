/- Entries dropped from a lexicon, and the calls that drop them. -/
import Derived.Test.YtnanegdcoegahaaLxCost
import Derived.Test.YtnanegdcoegahaaApp
import Derived.Deep.RegionLaw
import Derived.Lib.SliceRun
namespace Go.Proofs.Ytnanegdcoegahaa
open Go.RowKit

def without (x : XLexicon) (s : ByteArray) : XLexicon := x.filter (fun e => !eqS e.word s)
theorem without_le (x : XLexicon) (s : ByteArray) : (without x s).length ≤ x.length := List.length_filter_le _ _
def dropLx (x : XLexicon) (s : ByteArray) : XLexicon := if validLx x then (match findLx x s with | none => [] | some _ => without x s) else []
def dropCode (x : XLexicon) (s : ByteArray) : Int := codeLx x s
theorem okDrop {x : XLexicon} {s : ByteArray} (h : okLexicon x) : okLexicon (dropLx x s) := by
  unfold okLexicon at *
  unfold dropLx
  have := without_le x s
  split
  · split <;> simp <;> omega
  · simp
theorem take_without {x : XLexicon} {s : ByteArray} {k : Nat} {e : DEntry} (h : x[k]? = some e) : without (x.take (k + 1)) s = without (x.take k) s ++ (if eqS e.word s then [] else [e]) := by
  rw [List.take_add_one, h]
  unfold without
  rw [List.filter_append]
  cases hq : eqS e.word s <;> simp [hq]

theorem infEntry : (Try.prog.info? 73).map (fun i => (i.zero, i.size, i.bytes)) = some (some (.agg #[.string ByteArray.empty, .int .i64 0]), eEntry.sz, 24) := by kernel_rfl

set_option maxHeartbeats 1000000 in
theorem l16Without_any (p : Nat) (v : Value) (x : XLexicon) (s : ByteArray) (w : World) (hp : w.cell? ⟨p, 0, none⟩ = some v) (h : Arr eEntry w v x) (ok : okLexicon x) :
    Calls Try.prog 88 #[.pointer (some ⟨p, 0, none⟩), .string s] w fun e w' => ∃ u, e = .returned u ∧ Own eEntry 73 w.heap.size w' u (without x s) ∧ Below w.heap.size w w' := by
  obtain ⟨b, off, ao, cap, rfl, hnc, hcm, hao, hc⟩ := h
  unfold maxLen at hcm
  unfold okLexicon at ok
  have hpl := World.block_lt_of_cell? w _ hp
  go_enter Try.func88, Try.ntmps88
  go_wp2
  go_loopw [5, 6] (fun u i wr => ∃ k : Nat, k ≤ x.length ∧ i = .int .i64 k ∧ Own eEntry 73 w.heap.size wr u (without (x.take k) s) ∧ Below w.heap.size w wr) (fun _ i _ => x.length - (intOf i).toNat)
  case atStart => exact ⟨0, Nat.zero_le _, rfl, Own.empty _ _ (Nat.le_refl _), below_alloc _ _⟩
  case round =>
    rename_i u i0
    obtain ⟨k, hk, rfl, ho, hb⟩ := hrel
    have q1 := (hb.cell (p := ⟨p, 0, none⟩) hpl).trans hp
    clear hp
    by_cases hlt : k < x.length
    · obtain ⟨hao', hbw⟩ := hao (by omega)
      subst hao'
      obtain ⟨e, he⟩ : ∃ e, x[k]? = some e := ⟨_, List.getElem?_eq_getElem hlt⟩
      obtain ⟨c0, c1⟩ := eEntry_cells (hc.below hb hbw) he
      have hli : (k : Int) < (x.length : Int) := by omega
      have hwl := without_le (x.take k) s
      have hwl2 : (x.take k).length ≤ k := by simp; omega
      have HT := hid (take_without (s := s) he)
      clear he hao
      cases hq : (e.word.toList == s.toList)
      · go_wp2_with (at_builtin; refine wpList_appE rfl _ _ 38 rfl w.heap.size 73 _ 24 infEntry Try.underlying38 rfl _ _ rfl (ho.alloc _) ⟨wr.heap.size, 0, none⟩ 1 1 [e] rfl rfl ?qc2 (by unfold maxLen; simp; omega) (by simp; omega) (by have := hb.size; simp; omega) ?_)
        case qc2 =>
          intro j u hu
          match j, hu with
          | 0, hu => cases hu; simp [Addr.add]
          | 1, hu => cases hu; simp [Addr.add]
          | j + 2, hu => simp [Enc.flat, eEntry] at hu
        intro u' w1 ho1 hb1
        go_wp2
        go_roundw
        case rel =>
          refine ⟨k + 1, by omega, by go_num, ?_, ((hb.alloc hb.size _).trans hb1)⟩
          rw [HT.out, if_neg (by show ¬ (e.word.toList == s.toList) = true; rw [hq]; simp)]
          exact ho1
        case measure => simp [intOf]; omega
      · go_wp2
        go_roundw
        case rel =>
          refine ⟨k + 1, by omega, by go_num, ?_, hb⟩
          rw [HT.out, if_pos (by exact hq), List.append_nil]
          exact ho
        case measure => simp [intOf]; omega
    · have hx : x.take k = x := List.take_of_length_le (by omega)
      rw [hx] at ho
      go_wp2
      go_ret
      exact ⟨_, rfl, ho, hb⟩

set_option maxHeartbeats 1000000 in
theorem cloneEn_any (v : Value) (x : XLexicon) (w : World) (h : Arr eEntry w v x) (ok : okLexicon x) :
    Calls Try.prog 91 #[v] w fun e w' => ∃ u, e = .returned u ∧ Own eEntry 73 w.heap.size w' u x ∧ Below w.heap.size w w' := by
  obtain ⟨b, off, ao, cap, rfl, hnc, hcm, hao, hc⟩ := h
  unfold maxLen at hcm
  unfold okLexicon at ok
  have q22 : ∀ (w : World) (a : Option Addr) (n c n' c' : Nat), (binOp .eql 38 (.slice a n c) (.slice none n' c')).run Try.prog w = .ok (.bool a.isNone) w := fun w a n c n' c' => Lib.run_eql_slice_nil w _ _ a n c n' c' Try.underlying38
  cases ao with
  | none =>
    have hx : x = [] := by
      cases x with
      | nil => rfl
      | cons a t => have := (hao (by simp)).1; simp at this
    subst hx
    go_enter Try.func91, Try.ntmps91
    go_wp2
    go_ret
    exact ⟨_, rfl, Own.nil _ _ _, Below.refl _ _⟩
  | some ad =>
    go_enter Try.func91, Try.ntmps91
    go_wp2_with (at_builtin; refine wpList_appE rfl _ _ 38 rfl w.heap.size 73 _ 24 infEntry Try.underlying38 rfl _ _ rfl (Own.empty _ _ (Nat.le_refl _)) ad x.length cap x rfl rfl ?qc2 (by unfold maxLen; simp; omega) (by simp; omega) (by simp) ?_)
    case qc2 =>
      intro j u hu
      have hlen := (List.getElem?_eq_some_iff.1 hu).1
      rw [Enc.flat_len] at hlen
      have hpos : 0 < x.length := by
        cases x with
        | nil => simp at hlen
        | cons a t => simp
      obtain ⟨h1, h2⟩ := hao hpos
      cases h1
      rw [Addr.add_lit]
      exact flat_cells (hc.below (below_alloc w _) h2) j u hu
    intro u w1 ho hb1
    go_wp2
    go_ret
    exact ⟨_, rfl, by simpa using ho, (below_alloc _ _).trans hb1⟩
theorem grown_trans {w1 w2 w3 : World} {g : Nat} (h1 : w1.grownBy w2 (some g)) (h2 : w2.grownBy w3 (some g)) : w1.grownBy w3 (some g) :=
  ⟨h2.os.trans h1.os, h2.tape.trans h1.tape, h2.output.trans h1.output, Nat.le_trans h1.size h2.size, fun k hk hne => (h2.block k (Nat.lt_of_lt_of_le hk h1.size) hne).trans (h1.block k hk hne)⟩

theorem erase_flat {α : Type} (E : Enc α) (x : List α) (k : Nat) (hk : k < x.length) (zs : List Value) :
    (setFrom (setFrom (E.flat x) (k * E.sz) (E.flat (x.drop (k + 1)))) ((x.length - 1) * E.sz) zs).take ((x.length - 1) * E.sz) = E.flat (x.eraseIdx k) := by
  rw [List.eraseIdx_eq_take_drop_succ, E.flat_append]
  have hl1 : (E.flat (x.take k)).length = k * E.sz := by rw [E.flat_len, List.length_take, Nat.min_eq_left (by omega)]
  have hl2 : (E.flat (x.drop (k + 1))).length = (x.length - 1) * E.sz - k * E.sz := by rw [E.flat_len, List.length_drop, ← Nat.sub_mul]; congr 1; omega
  have hle : k * E.sz ≤ (x.length - 1) * E.sz := Nat.mul_le_mul_right _ (by omega)
  have hle2 : (x.length - 1) * E.sz ≤ x.length * E.sz := Nat.mul_le_mul_right _ (by omega)
  have hsp : E.flat x = E.flat (x.take k) ++ E.flat (x.drop k) := by rw [← E.flat_append, List.take_append_drop]
  refine List.ext_getElem? fun i => ?_
  rw [List.getElem?_take]
  by_cases h : i < (x.length - 1) * E.sz
  · rw [if_pos h, setFrom_get, if_neg (by omega), setFrom_get, hl2, E.flat_len]
    by_cases h1 : i < k * E.sz
    · rw [if_neg (by omega), List.getElem?_append_left (by omega), hsp, List.getElem?_append_left (by omega)]
    · rw [if_pos (by omega), List.getElem?_append_right (by omega), hl1]
  · rw [if_neg h, List.getElem?_eq_none_iff.2 (by rw [List.length_append, hl1, hl2]; omega)]


theorem rLx_new {w w' : World} {B : Nat} {u : Value} {x : XLexicon} (h : Own eEntry 73 B w' u x) (hB : w.heap.size ≤ B) : rLexicon.own w.heap.size w'.heap.size w' (.agg #[u]) x :=
  ⟨u, rfl, (h.mono hB).in_⟩


theorem own_pos {B : Nat} {w : World} {u : Value} {x : XLexicon} {k : Nat} (ho : Own eEntry 73 B w u x) (hk : k < x.length) : ∃ g cap, u = .slice (some ⟨g, 0, none⟩) x.length cap ∧ B ≤ g ∧ g < w.heap.size := by
  rcases ho.shape with ⟨_, h0⟩ | h0
  · rw [h0] at hk; simp at hk
  · exact h0

theorem without_erase {x : XLexicon} (hs : Sorted x) {s : ByteArray} {k : Nat} (h : findLx x s = some k) : without x s = x.eraseIdx k := by
  obtain ⟨e, he, heq⟩ := find_get h
  have hlow := low_of_find hs h
  obtain ⟨hk, hxe⟩ := List.getElem?_eq_some_iff.1 he
  have hsp : x = x.take k ++ e :: x.drop (k + 1) := by
    have h1 : x.drop k = e :: x.drop (k + 1) := by rw [List.drop_eq_getElem_cons hk, hxe]
    rw [← h1, List.take_append_drop]
  rw [List.eraseIdx_eq_take_drop_succ]
  unfold without
  conv => lhs; rw [hsp]
  rw [List.filter_append, List.filter_cons_of_neg (by simp [heq])]
  congr 1
  · rw [List.filter_eq_self]
    intro a ha
    obtain ⟨j, hj⟩ := List.mem_iff_getElem?.1 ha
    have hjk : j < k := by
      have := (List.getElem?_eq_some_iff.1 hj).1
      simp at this; omega
    rw [List.getElem?_take, if_pos hjk] at hj
    have := low_lt (s := s) (by omega) hj
    have h2 := ltB_ne this
    simp [eqS, h2]
  · rw [List.filter_eq_self]
    intro a ha
    obtain ⟨j, hj⟩ := List.mem_iff_getElem?.1 ha
    rw [List.getElem?_drop] at hj
    have h1 := hs k (k + 1 + j) e a (by omega) he hj
    have h2 := ltB_ne h1
    have h3 : e.word.toList = s.toList := by simpa [eqS] using heq
    rw [h3] at h2
    simp only [beq_eq_false_iff_ne] at h2
    simp [eqS, Ne.symm h2]

end Go.Proofs.Ytnanegdcoegahaa
