/- Entries dropped from a lexicon, and the calls that drop them. -/
import Derived.Test.YtmefjlcbkflbmaaLxCost
import Derived.Test.YtmefjlcbkflbmaaApp
import Derived.Deep.RegionLaw
import Derived.Lib.SliceRun
namespace Go.Proofs.Ytmefjlcbkflbmaa
open Go.RowKit

def without (x : XLexicon) (s : ByteArray) : XLexicon := x.filter (fun e => !eqS e.word s)
theorem without_le (x : XLexicon) (s : ByteArray) : (without x s).length ≤ x.length := List.length_filter_le _ _
def dropLx (x : XLexicon) (s : ByteArray) : XLexicon := if validLx x then (match findLx x s with | none => [] | some _ => without x s) else []
def dropCode (x : XLexicon) (s : ByteArray) : Int := codeLx x s
theorem okDrop {x : XLexicon} {s : ByteArray} (h : okLexicon x) : okLexicon (dropLx x s) := by
  unfold okLexicon at *
  unfold dropLx
  have := without_le x s
  split
  · split <;> simp <;> omega
  · simp
theorem take_without {x : XLexicon} {s : ByteArray} {k : Nat} {e : DEntry} (h : x[k]? = some e) : without (x.take (k + 1)) s = without (x.take k) s ++ (if eqS e.word s then [] else [e]) := by
  rw [List.take_add_one, h]
  unfold without
  rw [List.filter_append]
  cases hq : eqS e.word s <;> simp [hq]

theorem infEntry : (Try.prog.info? 50).map (fun i => (i.zero, i.size, i.bytes)) = some (some (.agg #[.string ByteArray.empty, .int .i64 0]), eEntry.sz, 24) := by kernel_rfl

set_option maxHeartbeats 1000000 in
theorem l16Without_any (p : Nat) (v : Value) (x : XLexicon) (s : ByteArray) (w : World) (hp : w.cell? ⟨p, 0, none⟩ = some v) (h : Arr eEntry w v x) (ok : okLexicon x) :
    Calls Try.prog 41 #[.pointer (some ⟨p, 0, none⟩), .string s] w fun e w' => ∃ u, e = .returned u ∧ Own eEntry 50 w.heap.size w' u (without x s) ∧ Below w.heap.size w w' := by
  obtain ⟨b, off, ao, cap, rfl, hnc, hcm, hao, hc⟩ := h
  unfold maxLen at hcm
  unfold okLexicon at ok
  have hpl := World.block_lt_of_cell? w _ hp
  go_enter Try.func41, Try.ntmps41
  go_wp2
  go_loopw [5, 6] (fun u i wr => ∃ k : Nat, k ≤ x.length ∧ i = .int .i64 k ∧ Own eEntry 50 w.heap.size wr u (without (x.take k) s) ∧ Below w.heap.size w wr) (fun _ i _ => x.length - (intOf i).toNat)
  case atStart => exact ⟨0, Nat.zero_le _, rfl, Own.empty _ _ (Nat.le_refl _), below_alloc _ _⟩
  case round =>
    rename_i u i0
    obtain ⟨k, hk, rfl, ho, hb⟩ := hrel
    have q1 := (hb.cell (p := ⟨p, 0, none⟩) hpl).trans hp
    clear hp
    by_cases hlt : k < x.length
    · obtain ⟨hao', hbw⟩ := hao (by omega)
      subst hao'
      obtain ⟨e, he⟩ : ∃ e, x[k]? = some e := ⟨_, List.getElem?_eq_getElem hlt⟩
      obtain ⟨c0, c1⟩ := eEntry_cells (hc.below hb hbw) he
      have hli : (k : Int) < (x.length : Int) := by omega
      have hwl := without_le (x.take k) s
      have hwl2 : (x.take k).length ≤ k := by simp; omega
      have HT := hid (take_without (s := s) he)
      clear he hao
      cases hq : (e.word.toList == s.toList)
      · go_wp2_with (at_builtin; refine wpList_appE rfl _ _ 33 rfl w.heap.size 50 _ 24 infEntry Try.underlying33 rfl _ _ rfl (ho.alloc _) ⟨wr.heap.size, 0, none⟩ 1 1 [e] rfl rfl ?qc2 (by unfold maxLen; simp; omega) (by simp; omega) (by have := hb.size; simp; omega) ?_)
        case qc2 =>
          intro j u hu
          match j, hu with
          | 0, hu => cases hu; simp [Addr.add]
          | 1, hu => cases hu; simp [Addr.add]
          | j + 2, hu => simp [Enc.flat, eEntry] at hu
        intro u' w1 ho1 hb1
        go_wp2
        go_roundw
        case rel =>
          refine ⟨k + 1, by omega, by go_num, ?_, ((hb.alloc hb.size _).trans hb1)⟩
          rw [HT.out, if_neg (by show ¬ (e.word.toList == s.toList) = true; rw [hq]; simp)]
          exact ho1
        case measure => simp [intOf]; omega
      · go_wp2
        go_roundw
        case rel =>
          refine ⟨k + 1, by omega, by go_num, ?_, hb⟩
          rw [HT.out, if_pos (by exact hq), List.append_nil]
          exact ho
        case measure => simp [intOf]; omega
    · have hx : x.take k = x := List.take_of_length_le (by omega)
      rw [hx] at ho
      go_wp2
      go_ret
      exact ⟨_, rfl, ho, hb⟩

set_option maxHeartbeats 1000000 in
theorem cloneEn_any (v : Value) (x : XLexicon) (w : World) (h : Arr eEntry w v x) (ok : okLexicon x) :
    Calls Try.prog 43 #[v] w fun e w' => ∃ u, e = .returned u ∧ Own eEntry 50 w.heap.size w' u x ∧ Below w.heap.size w w' := by
  obtain ⟨b, off, ao, cap, rfl, hnc, hcm, hao, hc⟩ := h
  unfold maxLen at hcm
  unfold okLexicon at ok
  have q22 : ∀ (w : World) (a : Option Addr) (n c n' c' : Nat), (binOp .eql 33 (.slice a n c) (.slice none n' c')).run Try.prog w = .ok (.bool a.isNone) w := fun w a n c n' c' => Lib.run_eql_slice_nil w _ _ a n c n' c' Try.underlying33
  cases ao with
  | none =>
    have hx : x = [] := by
      cases x with
      | nil => rfl
      | cons a t => have := (hao (by simp)).1; simp at this
    subst hx
    go_enter Try.func43, Try.ntmps43
    go_wp2
    go_ret
    exact ⟨_, rfl, Own.nil _ _ _, Below.refl _ _⟩
  | some ad =>
    go_enter Try.func43, Try.ntmps43
    go_wp2_with (at_builtin; refine wpList_appE rfl _ _ 33 rfl w.heap.size 50 _ 24 infEntry Try.underlying33 rfl _ _ rfl (Own.empty _ _ (Nat.le_refl _)) ad x.length cap x rfl rfl ?qc2 (by unfold maxLen; simp; omega) (by simp; omega) (by simp) ?_)
    case qc2 =>
      intro j u hu
      have hlen := (List.getElem?_eq_some_iff.1 hu).1
      rw [Enc.flat_len] at hlen
      have hpos : 0 < x.length := by
        cases x with
        | nil => simp at hlen
        | cons a t => simp
      obtain ⟨h1, h2⟩ := hao hpos
      cases h1
      rw [Addr.add_lit]
      exact flat_cells (hc.below (below_alloc w _) h2) j u hu
    intro u w1 ho hb1
    go_wp2
    go_ret
    exact ⟨_, rfl, by simpa using ho, (below_alloc _ _).trans hb1⟩
theorem grown_trans {w1 w2 w3 : World} {g : Nat} (h1 : w1.grownBy w2 (some g)) (h2 : w2.grownBy w3 (some g)) : w1.grownBy w3 (some g) :=
  ⟨h2.os.trans h1.os, h2.tape.trans h1.tape, h2.output.trans h1.output, Nat.le_trans h1.size h2.size, fun k hk hne => (h2.block k (Nat.lt_of_lt_of_le hk h1.size) hne).trans (h1.block k hk hne)⟩

theorem erase_flat {α : Type} (E : Enc α) (x : List α) (k : Nat) (hk : k < x.length) (zs : List Value) :
    (setFrom (setFrom (E.flat x) (k * E.sz) (E.flat (x.drop (k + 1)))) ((x.length - 1) * E.sz) zs).take ((x.length - 1) * E.sz) = E.flat (x.eraseIdx k) := by
  rw [List.eraseIdx_eq_take_drop_succ, E.flat_append]
  have hl1 : (E.flat (x.take k)).length = k * E.sz := by rw [E.flat_len, List.length_take, Nat.min_eq_left (by omega)]
  have hl2 : (E.flat (x.drop (k + 1))).length = (x.length - 1) * E.sz - k * E.sz := by rw [E.flat_len, List.length_drop, ← Nat.sub_mul]; congr 1; omega
  have hle : k * E.sz ≤ (x.length - 1) * E.sz := Nat.mul_le_mul_right _ (by omega)
  have hle2 : (x.length - 1) * E.sz ≤ x.length * E.sz := Nat.mul_le_mul_right _ (by omega)
  have hsp : E.flat x = E.flat (x.take k) ++ E.flat (x.drop k) := by rw [← E.flat_append, List.take_append_drop]
  refine List.ext_getElem? fun i => ?_
  rw [List.getElem?_take]
  by_cases h : i < (x.length - 1) * E.sz
  · rw [if_pos h, setFrom_get, if_neg (by omega), setFrom_get, hl2, E.flat_len]
    by_cases h1 : i < k * E.sz
    · rw [if_neg (by omega), List.getElem?_append_left (by omega), hsp, List.getElem?_append_left (by omega)]
    · rw [if_pos (by omega), List.getElem?_append_right (by omega), hl1]
  · rw [if_neg h, List.getElem?_eq_none_iff.2 (by rw [List.length_append, hl1, hl2]; omega)]

theorem clearEn (w : World) (ty : TypeId) (b o n c : Nat) (hn : n = 1) (hc : ∀ j, j < 2 → (w.cell? ⟨b, o + j, none⟩).isSome = true) (hf : ∀ j, j < 2 → w.frozen? ⟨b, o + j, none⟩ = false) :
    (Builtin.clear_ #[33] ty #[.slice (some ⟨b, o, none⟩) n c]).run Try.prog w = .ok (.tuple #[]) (w.setCells b o [.string ByteArray.empty, .int .i64 0]) := by
  subst hn
  have hv : ∀ w, (zeroValue 50).run Try.prog w = .ok (.agg #[.string ByteArray.empty, .int .i64 0]) w := by
    intro w
    obtain ⟨i, hi, hz, _, _⟩ := info_parts infEntry
    simp [zeroValue, typeInfo, hi, hz]
  have hzc : (Builtin.zeroCells (Value.agg #[.string ByteArray.empty, .int .i64 0]).cells 1).toList = [.string ByteArray.empty, .int .i64 0] := by
    refine List.ext_getElem (by simp [Builtin.zeroCells, Value.cells]) fun i h1 h2 => ?_
    simp at h2
    match i, h2 with
    | 0, _ => simp [Builtin.zeroCells, Value.cells]
    | 1, _ => simp [Builtin.zeroCells, Value.cells]
  have hst := run_storeCells_cells (P := Try.prog) b o [.string ByteArray.empty, .int .i64 0] 0 w (by simpa using hc) (by simpa using hf) (by intro v hv'; simp at hv'; rcases hv' with rfl | rfl <;> rfl)
  simp only [Nat.add_zero] at hst
  simp [Builtin.clear_, run_underlying Try.underlying33, hv, hzc, hst]

set_option maxHeartbeats 2000000 in
theorem deleteEn_any (g cap n k B : Nat) (x : XLexicon) (w : World) (h : Own eEntry 50 B w (.slice (some ⟨g, 0, none⟩) n cap) x) (hn : n = x.length) (hk : k < n) (ok : okLexicon x) :
    Calls Try.prog 42 #[.slice (some ⟨g, 0, none⟩) n cap, .int .i64 k, .int .i64 ((k : Int) + 1)] w fun e w' => e = .returned (.slice (some ⟨g, 0, none⟩) (n - 1) cap) ∧ Own eEntry 50 B w' (.slice (some ⟨g, 0, none⟩) (n - 1) cap) (x.eraseIdx k) ∧ w.grownBy w' (some g) := by
  have ok' : n ≤ 1048576 := by rw [hn]; exact ok
  obtain ⟨b0, off0, ao0, cap0, hv0, hnc, hcm, _, _⟩ := h.arr
  have hcap : n ≤ cap ∧ cap ≤ 9223372036854775807 := by
    simp only [Value.slice.injEq] at hv0
    obtain ⟨_, _, rfl⟩ := hv0
    exact ⟨by omega, hcm⟩
  clear hv0 hnc hcm
  have hcells : ∀ j u, (eEntry.flat x)[j]? = some u → w.cell? ⟨g, j, none⟩ = some u := by
    intro j u hu
    have hlt := (List.getElem?_eq_some_iff.1 hu).1
    rw [eEntry.flat_len] at hlt
    have h' := h
    unfold Own at h'
    subst hn
    rw [World.ownsRow.cellAt h' j (by simpa using hlt), hu]
  have hflen : (eEntry.flat x).length = n * 2 := by rw [eEntry.flat_len, hn]; rfl
  have hfree := h.free hn
  obtain ⟨news, hnews⟩ : ∃ news, news = eEntry.flat (x.drop (k + 1)) := ⟨_, rfl⟩
  have hlen : news.length = (n - (k + 1)) * 2 := by rw [hnews, Enc.flat_len, List.length_drop, hn]; rfl
  obtain ⟨A, hA, hsrc⟩ : ∃ A : Addr, (if cap = k + 1 then some (⟨g, 0, none⟩ : Addr) else some ⟨g, (k + 1) * 2, none⟩) = some A ∧ Hid (∀ t u, news[t]? = some u → w.drew.cell? (A.add t) = some u) := by
    by_cases hc1 : cap = k + 1
    · refine ⟨⟨g, 0, none⟩, by simp [hc1], fun t u hu => ?_⟩
      have h0 : news.length = 0 := by rw [hlen]; omega
      rw [List.length_eq_zero_iff.1 h0] at hu
      simp at hu
    · refine ⟨⟨g, (k + 1) * 2, none⟩, by simp [hc1], fun t u hu => ?_⟩
      rw [Addr.add_lit]
      refine hcells _ u ?_
      rw [← hu, hnews]
      have hsp : eEntry.flat x = eEntry.flat (x.take (k + 1)) ++ eEntry.flat (x.drop (k + 1)) := by rw [← eEntry.flat_append, List.take_append_drop]
      have hl1 : (eEntry.flat (x.take (k + 1))).length = (k + 1) * 2 := by rw [eEntry.flat_len, List.length_take, Nat.min_eq_left (by omega)]; rfl
      rw [hsp, List.getElem?_append_right (by omega), hl1]
      congr 1
      omega
  have s2 : Hid (∀ u ∈ news, u.oneCell' = true) := by rw [hnews]; exact eEntry.flat_one _
  have s1 : Hid (news.length = (n - (k + 1)) * 2) := hlen
  have s3 : Hid (∀ t, t < news.length → (w.drew.cell? ⟨g, 0 + k * 2 + t, none⟩).isSome = true ∧ w.drew.frozen? ⟨g, 0 + k * 2 + t, none⟩ = false) := by
    intro t ht
    rw [hlen] at ht
    obtain ⟨u, hu⟩ : ∃ u, (eEntry.flat x)[0 + k * 2 + t]? = some u := ⟨_, List.getElem?_eq_getElem (by rw [hflen]; omega)⟩
    exact ⟨by show (w.cell? _).isSome = true; rw [hcells _ u hu]; rfl, hfree _⟩
  obtain ⟨W1, hW1⟩ : ∃ W1, W1 = w.drew.setCells g (0 + k * 2) news := ⟨_, rfl⟩
  have hW : Hid (W1 = w.drew.setCells g (0 + k * 2) news) := hW1
  have O1 : W1.ownsRow B 50 2 (.slice (some ⟨g, 0, none⟩) n cap) n (setFrom (eEntry.flat x) (k * 2) news) ∧ w.grownBy W1 (some g) := by
    subst hn
    have hd : w.drew.ownsRow B 50 2 (.slice (some ⟨g, 0, none⟩) x.length cap) x.length (eEntry.flat x) := h
    have h1 := ownsRow_stores news (k * 2) hd
    rw [hW1, Nat.zero_add, setCells_stores]
    exact ⟨h1.1, ⟨h1.2.os, h1.2.tape, h1.2.output, h1.2.size, h1.2.block⟩⟩
  have hsf : (setFrom (eEntry.flat x) (k * 2) news).length = n * 2 := O1.1.1
  have hcl : ∀ ty, (Builtin.clear_ #[33] ty #[.slice (some ⟨g, (k + (n - (k + 1))) * 2, none⟩) (n - (k + (n - (k + 1)))) (cap - (k + (n - (k + 1))))]).run Try.prog W1 = .ok (.tuple #[]) (W1.setCells g ((k + (n - (k + 1))) * 2) [.string ByteArray.empty, .int .i64 0]) := fun ty =>
    clearEn W1 ty g _ _ _ (by omega) (fun j hj => by rw [World.ownsRow.cellAt O1.1 _ (by omega), List.getElem?_eq_getElem (by omega)]; rfl) (fun j hj => World.ownsRow.frozenAt O1.1 _)
  have hfin : Hid (Own eEntry 50 B (W1.setCells g ((k + (n - (k + 1))) * 2) [.string ByteArray.empty, .int .i64 0]) (.slice (some ⟨g, 0, none⟩) (n - 1) cap) (x.eraseIdx k) ∧ w.grownBy (W1.setCells g ((k + (n - (k + 1))) * 2) [.string ByteArray.empty, .int .i64 0]) (some g)) := by
    have h2 := ownsRow_stores [.string ByteArray.empty, .int .i64 0] ((k + (n - (k + 1))) * 2) O1.1
    rw [setCells_stores]
    refine ⟨?_, grown_trans O1.2 h2.2⟩
    have h3 := ownsRow_cut h2.1 (m := n - 1) (by omega)
    have h4 := erase_flat eEntry x k (by omega) [.string ByteArray.empty, .int .i64 0]
    have e1 : k + (n - (k + 1)) = n - 1 := by omega
    rw [e1, hnews] at h3
    rw [← hn] at h4
    have h4' : (setFrom (setFrom (eEntry.flat x) (k * 2) (eEntry.flat (x.drop (k + 1)))) ((n - 1) * 2) [.string ByteArray.empty, .int .i64 0]).take ((n - 1) * 2) = eEntry.flat (x.eraseIdx k) := h4
    rw [h4'] at h3
    unfold Own
    rw [List.length_eraseIdx_of_lt (by omega), ← hn, e1]
    exact h3
  obtain ⟨i0, hi0, hz0, hz1, hz2⟩ := info_parts infEntry
  have HO := hid h
  have HN := hid hn
  have HNEWS := hid hnews
  clear h hn hW1 hfree hcells hnews hlen hflen O1 hsf
  have hic : k ≤ cap := by omega
  have hjc : k + 1 ≤ cap := by omega
  have hb0 : (0 : Int) ≤ (k : Int) + 1 := by omega
  have hb1 : (k : Int) + 1 ≤ (n : Int) := by omega
  go_enter Try.func42, Try.ntmps42
  go_wp2_with fail
  go_region_law (refine step_append_room rfl (.tmp 22) (.tmp 25) 33 rfl 50 i0 2 Try.underlying33 hi0 hz1 g 0 k cap (by simp [Act.eval, Act.put]) A (n - (k + 1)) (cap - (k + 1)) news (by simp [Act.eval, Act.put]) s1.out hsrc.out s2.out (by omega) s3.out ?_; rw [← hW.out])
  go_wp2
  go_ret
  refine ⟨?_, hfin.out⟩
  rw [show k + (n - (k + 1)) = n - 1 by omega]
  rfl

theorem rLx_new {w w' : World} {B : Nat} {u : Value} {x : XLexicon} (h : Own eEntry 50 B w' u x) (hB : w.heap.size ≤ B) : rLexicon.own w.heap.size w'.heap.size w' (.agg #[u]) x :=
  ⟨u, rfl, (h.mono hB).in_⟩

set_option maxHeartbeats 1000000 in
theorem specDropEntry_any (v : Value) (x : XLexicon) (s : ByteArray) (w : World) {lo hi : Nat} (h : rLexicon.at_ lo hi w v x) (ok : okLexicon x) (g : goodLexicon x) (_ : s.size ≤ 1048576) :
    Calls Try.prog 21 #[v, .string s] w (RetNew rLexicon (dropLx x s) #[.int .i64 (dropCode x s)] w) := by
  obtain ⟨u, rfl, h⟩ := h
  replace h := ArrIn.arr h
  obtain ⟨sa, sc, hu⟩ := h.isSlice
  subst hu
  have q0 : ((w.alloc (.cells #[.slice sa x.length sc] 35)).alloc (.cells #[.slice none 0 0] 35)).cell? ⟨w.heap.size, 0, none⟩ = some (.slice sa x.length sc) := by simp
  have hA := (h.alloc (.cells #[.slice sa x.length sc] 35)).alloc (.cells #[.slice none 0 0] 35)
  have hb0 : Below w.heap.size w ((w.alloc (.cells #[.slice sa x.length sc] 35)).alloc (.cells #[.slice none 0 0] 35)) := ((Below.refl _ _).alloc (Nat.le_refl _) _).alloc (by simp) _
  have hempty := Own.nil (E := eEntry) 50
  cases hv : validLx x
  · go_enter Try.func21, Try.ntmps21
    go_wp2_with (go_at_call 36; refine (l16Ok_any _ _ x _ q0 hA ok g).mono ?_; rintro e w2 ⟨rfl, hb⟩; rw [hv]; obtain ⟨hc, hf⟩ := bcell hb)
    have z2 := hb.size
    simp at z2
    refine bodyPost_ret (v := .tuple #[.agg #[.slice none 0 0], .int .i64 1]) (by simp [results, Try.results21, go_sem, hc]) rfl ⟨.agg #[.slice none 0 0], by simp [dropCode, codeLx, hv], ?_, ?_⟩
    · rw [show dropLx x s = [] by simp [dropLx, hv]]
      exact rLx_new (Own.nil _ _ _) (Nat.le_refl _)
    · exact (hb0.trans (hb.mono (by simp <;> omega))).setCell (by simp) _
  · cases hfd : findLx x s with
    | none =>
      go_enter Try.func21, Try.ntmps21
      go_wp2_with (first | (go_at_call 36; refine (l16Ok_any _ _ x _ q0 hA ok g).mono ?_; rintro e w2 ⟨rfl, hb⟩; rw [hv]; obtain ⟨hc, hf⟩ := bcell hb) | (go_at_call 39; refine (l16Find_any _ _ x s _ (cell_later hb q0) (hA.below hb) ok).mono ?_; rintro e w' ⟨rfl, rfl⟩; rw [hfd]; unfold posOf))
      have z2 := hb.size
      simp at z2
      refine bodyPost_ret (v := .tuple #[.agg #[.slice none 0 0], .int .i64 3]) (by simp [results, Try.results21, go_sem, hc]) rfl ⟨.agg #[.slice none 0 0], by simp [dropCode, codeLx, hv, hfd], ?_, ?_⟩
      · rw [show dropLx x s = [] by simp [dropLx, hv, hfd]]
        exact rLx_new (Own.nil _ _ _) (Nat.le_refl _)
      · exact (hb0.trans (hb.mono (by simp <;> omega))).setCell (by simp) _
    | some k =>
      have hk0 : (0 : Int) ≤ (k : Int) := by omega
      go_enter Try.func21, Try.ntmps21
      go_wp2_with (first | (go_at_call 36; refine (l16Ok_any _ _ x _ q0 hA ok g).mono ?_; rintro e w2 ⟨rfl, hb⟩; rw [hv]; obtain ⟨hc, hf⟩ := bcell hb) | (go_at_call 39; refine (l16Find_any _ _ x s _ (cell_later hb q0) (hA.below hb) ok).mono ?_; rintro e w' ⟨rfl, rfl⟩; rw [hfd]; unfold posOf) | (go_at_call 41; refine (l16Without_any _ _ x s _ (cell_later hb q0) (hA.below hb) ok).mono ?_; rintro e w' ⟨u, rfl, ho, hb2⟩; obtain ⟨ua, uc, hu⟩ := ho.isSlice; subst hu; have z2 := hb.size; simp at z2; clear hc hf; obtain ⟨hc, hf⟩ := bcell (hb.trans (hb2.mono hb.size))))
      have z3 := hb2.size
      refine bodyPost_ret (v := .tuple #[.agg #[.slice ua (without x s).length uc], .int .i64 0]) (by simp [results, Try.results21, go_sem, hc]) rfl ⟨.agg #[.slice ua (without x s).length uc], by simp [dropCode, codeLx, hv, hfd], ?_, ?_⟩
      · rw [show dropLx x s = without x s by simp [dropLx, hv, hfd]]
        exact rLx_new (ho.setBelow (by simp; omega) _) (by omega)
      · exact (hb0.trans ((hb.trans (hb2.mono hb.size)).mono (by simp <;> omega))).setCell (by simp) _

theorem own_pos {B : Nat} {w : World} {u : Value} {x : XLexicon} {k : Nat} (ho : Own eEntry 50 B w u x) (hk : k < x.length) : ∃ g cap, u = .slice (some ⟨g, 0, none⟩) x.length cap ∧ B ≤ g ∧ g < w.heap.size := by
  rcases ho.shape with ⟨_, h0⟩ | h0
  · rw [h0] at hk; simp at hk
  · exact h0

theorem without_erase {x : XLexicon} (hs : Sorted x) {s : ByteArray} {k : Nat} (h : findLx x s = some k) : without x s = x.eraseIdx k := by
  obtain ⟨e, he, heq⟩ := find_get h
  have hlow := low_of_find hs h
  obtain ⟨hk, hxe⟩ := List.getElem?_eq_some_iff.1 he
  have hsp : x = x.take k ++ e :: x.drop (k + 1) := by
    have h1 : x.drop k = e :: x.drop (k + 1) := by rw [List.drop_eq_getElem_cons hk, hxe]
    rw [← h1, List.take_append_drop]
  rw [List.eraseIdx_eq_take_drop_succ]
  unfold without
  conv => lhs; rw [hsp]
  rw [List.filter_append, List.filter_cons_of_neg (by simp [heq])]
  congr 1
  · rw [List.filter_eq_self]
    intro a ha
    obtain ⟨j, hj⟩ := List.mem_iff_getElem?.1 ha
    have hjk : j < k := by
      have := (List.getElem?_eq_some_iff.1 hj).1
      simp at this; omega
    rw [List.getElem?_take, if_pos hjk] at hj
    have := low_lt (s := s) (by omega) hj
    have h2 := ltB_ne this
    simp [eqS, h2]
  · rw [List.filter_eq_self]
    intro a ha
    obtain ⟨j, hj⟩ := List.mem_iff_getElem?.1 ha
    rw [List.getElem?_drop] at hj
    have h1 := hs k (k + 1 + j) e a (by omega) he hj
    have h2 := ltB_ne h1
    have h3 : e.word.toList = s.toList := by simpa [eqS] using heq
    rw [h3] at h2
    simp only [beq_eq_false_iff_ne] at h2
    simp [eqS, Ne.symm h2]

set_option maxHeartbeats 1000000 in
theorem implDropEntry_any (v : Value) (x : XLexicon) (s : ByteArray) (w : World) {lo hi : Nat} (h : rLexicon.at_ lo hi w v x) (ok : okLexicon x) (g : goodLexicon x) (_ : s.size ≤ 1048576) :
    Calls Try.prog 22 #[v, .string s] w (RetNew rLexicon (dropLx x s) #[.int .i64 (dropCode x s)] w) := by
  have hR := h
  obtain ⟨u, rfl, h⟩ := h
  replace h := ArrIn.arr h
  obtain ⟨sa, sc, hu⟩ := h.isSlice
  subst hu
  have q0 : ((w.alloc (.cells #[.slice sa x.length sc] 35)).alloc (.cells #[.slice none 0 0] 35)).cell? ⟨w.heap.size, 0, none⟩ = some (.slice sa x.length sc) := by simp
  have hR0 := rLexicon.at_alloc (rLexicon.at_alloc hR (.cells #[.slice sa x.length sc] 35)) (.cells #[.slice none 0 0] 35)
  have hA := (h.alloc (.cells #[.slice sa x.length sc] 35)).alloc (.cells #[.slice none 0 0] 35)
  have hb0 : Below w.heap.size w ((w.alloc (.cells #[.slice sa x.length sc] 35)).alloc (.cells #[.slice none 0 0] 35)) := ((Below.refl _ _).alloc (Nat.le_refl _) _).alloc (by simp) _
  cases hv : validLx x
  · go_enter Try.func22, Try.ntmps22
    go_wp2_with (go_at_call 18; refine (implValidLexicon_any _ x _ hR0 ok g).mono ?_; rintro e w2 ⟨rfl, hb⟩; rw [hv]; obtain ⟨hc, hf⟩ := bcell hb)
    have z2 := hb.size
    simp at z2
    refine bodyPost_ret (v := .tuple #[.agg #[.slice none 0 0], .int .i64 1]) (by simp [results, Try.results22, go_sem, hc]) rfl ⟨.agg #[.slice none 0 0], by simp [dropCode, codeLx, hv], ?_, ?_⟩
    · rw [show dropLx x s = [] by simp [dropLx, hv]]
      exact rLx_new (Own.nil _ _ _) (Nat.le_refl _)
    · exact (hb0.trans (hb.mono (by simp <;> omega))).setCell (by simp) _
  · have hs := sorted_of_valid hv
    cases hfd : findLx x s with
    | none =>
      have hf' : (findLx x s).isSome = false := by rw [hfd]; rfl
      go_enter Try.func22, Try.ntmps22
      go_wp2_with (first | (go_at_call 18; refine (implValidLexicon_any _ x _ hR0 ok g).mono ?_; rintro e w2 ⟨rfl, hb⟩; rw [hv]; obtain ⟨hc, hf⟩ := bcell hb) | (go_at_call 40; refine (placeOf_any _ x s _ (rLexicon.at_below hR0 hb) ok hs).mono ?_; rintro e w' ⟨rfl, hb2⟩; rw [hf']; have z2 := hb.size; simp at z2; clear hc hf; obtain ⟨hc, hf⟩ := bcell (hb.trans (hb2.mono hb.size))))
      have z3 := hb2.size
      refine bodyPost_ret (v := .tuple #[.agg #[.slice none 0 0], .int .i64 3]) (by simp [results, Try.results22, go_sem, hc]) rfl ⟨.agg #[.slice none 0 0], by simp [dropCode, codeLx, hv, hfd], ?_, ?_⟩
      · rw [show dropLx x s = [] by simp [dropLx, hv, hfd]]
        exact rLx_new (Own.nil _ _ _) (Nat.le_refl _)
      · exact (hb0.trans ((hb.trans (hb2.mono hb.size)).mono (by simp <;> omega))).setCell (by simp) _
    | some k =>
      have hf' : (findLx x s).isSome = true := by rw [hfd]; rfl
      have hk := low_of_find hs hfd
      obtain ⟨e, he, _⟩ := find_get hfd
      have hlt := (List.getElem?_eq_some_iff.1 he).1
      have ok' : x.length ≤ 1048576 := ok
      clear he
      go_enter Try.func22, Try.ntmps22
      go_wp2_with (first | (go_at_call 18; refine (implValidLexicon_any _ x _ hR0 ok g).mono ?_; rintro e w2 ⟨rfl, hb⟩; rw [hv]; obtain ⟨hc, hf⟩ := bcell hb) | (go_at_call 40; refine (placeOf_any _ x s _ (rLexicon.at_below hR0 hb) ok hs).mono ?_; rintro e w' ⟨rfl, hb2⟩; rw [hf', hk]; have z2 := hb.size; simp at z2; clear hc hf; obtain ⟨hc, hf⟩ := bcell (hb.trans (hb2.mono hb.size))) | (go_at_call 43; refine (cloneEn_any _ x _ ((hA.below hb).below hb2) ok).mono ?_; rintro e w3 ⟨u, rfl, ho, hb3⟩; obtain ⟨gb, gc, rfl, hg1, hg2⟩ := own_pos ho hlt) | (go_at_call 42; refine (deleteEn_any _ _ _ k _ x _ ho rfl hlt ok).mono ?_; rintro e w4 ⟨rfl, ho4, hg4⟩; have hb4 := below_grown (B := w'.heap.size) hg4 (by rintro q hq; cases hq; exact hg1) hb3.size; have hbb := (hb.trans (hb2.mono hb.size)).trans ((hb3.trans hb4).mono (hb.trans (hb2.mono hb.size)).size); clear hc hf; obtain ⟨hc, hf⟩ := bcell hbb))
      have z3 := hb2.size
      refine bodyPost_ret (v := .tuple #[.agg #[.slice (some ⟨gb, 0, none⟩) (x.length - 1) gc], .int .i64 0]) (by simp [results, Try.results22, go_sem, hc]) rfl ⟨.agg #[.slice (some ⟨gb, 0, none⟩) (x.length - 1) gc], by simp [dropCode, codeLx, hv, hfd], ?_, ?_⟩
      · rw [show dropLx x s = x.eraseIdx k by rw [← without_erase hs hfd]; simp [dropLx, hv, hfd]]
        exact rLx_new (ho4.setBelow (by simp; omega) _) (by omega)
      · exact (hb0.trans (hbb.mono (by simp <;> omega))).setCell (by simp) _
end Go.Proofs.Ytmefjlcbkflbmaa
