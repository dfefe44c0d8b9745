/- An entry set in a lexicon, and the calls that set it. -/
import Derived.Test.YtnanegdcoegahaaLxDrop
namespace Go.Proofs.Ytnanegdcoegahaa
open Go.RowKit

/-- the elements from k on, where a slicing of an owned slice points -/
theorem sub_addr {α : Type} {E : Enc α} {w : World} {g n cap k : Nat} {xs : List α} (hc : Cells E w g 0 xs) (hn : n = xs.length) (hnc : n ≤ cap) (hk : k ≤ n) :
    ∃ A : Addr, (if cap = k then some (⟨g, 0, none⟩ : Addr) else some ⟨g, k * E.sz, none⟩) = some A ∧ A.block = g ∧ ∀ w' : World, (∀ o, w'.cell? ⟨g, o, none⟩ = w.cell? ⟨g, o, none⟩) → ∀ j u, (E.flat (xs.drop k))[j]? = some u → w'.cell? (A.add j) = some u := by
  by_cases h : cap = k
  · refine ⟨⟨g, 0, none⟩, by simp [h], rfl, fun w' hw j u hu => ?_⟩
    rw [List.drop_of_length_le (by omega)] at hu
    simp [Enc.flat_nil] at hu
  · refine ⟨⟨g, k * E.sz, none⟩, by simp [h], rfl, fun w' hw j u hu => ?_⟩
    rw [Addr.add_lit, hw]
    have h1 := flat_cells hc (k * E.sz + j) u
    rw [Nat.zero_add] at h1
    refine h1 ?_
    have hsp : E.flat xs = E.flat (xs.take k) ++ E.flat (xs.drop k) := by rw [← E.flat_append, List.take_append_drop]
    have hl1 : (E.flat (xs.take k)).length = k * E.sz := by rw [E.flat_len, List.length_take, Nat.min_eq_left (by omega)]
    rw [hsp, List.getElem?_append_right (by omega), hl1]
    rw [← hu]; congr 1; omega

theorem wpList_appN {α : Type} {E : Enc α} {P : Program} {w : World} {ops : Array Oper} {rest : List Oper} {o : Oper} {a : Act} {Q : Exit → Act → World → Prop} (hgd : o.guard = none) (s x : Operand) (t : TypeId)
    (ho : o.op = .call { callee := .builtin .append, args := #[s, x], argTypes := #[t, t] })
    (B : Nat) (e : TypeId) (z : Value) (bytes : Nat) (hi : (P.info? e).map (fun i => (i.zero, i.size, i.bytes)) = some (some z, E.sz, bytes)) (ht : P.underlying t = some (.slice e)) (hzs : z.cells.size = E.sz)
    (g n cap : Nat) (xs : List α) (hs : a.eval s = .slice (some ⟨g, 0, none⟩) n cap) (hown : Own E e B w (.slice (some ⟨g, 0, none⟩) n cap) xs)
    (ad : Addr) (m c : Nat) (ys : List α) (hx : a.eval x = .slice (some ad) m c) (hm : m = ys.length) (hc : ∀ j u, (E.flat ys)[j]? = some u → w.cell? (ad.add j) = some u)
    (h63 : xs.length + ys.length ≤ maxLen) (hbytes : (xs.length + ys.length) * bytes ≤ 140737488355328) (hB : B ≤ w.heap.size)
    (h : ∀ g' cap' w', Own E e B w' (.slice (some ⟨g', 0, none⟩) (xs ++ ys).length cap') (xs ++ ys) → Below B w w' → (xs ++ ys).length ≤ cap' → wpList P ops Q rest (a.put o.dst (.slice (some ⟨g', 0, none⟩) (xs ++ ys).length cap')) w') : wpList P ops Q (o :: rest) a w := by
  obtain ⟨i, hi1, hz, hsz, hby⟩ := info_parts hi
  subst hm
  refine wpList_append_own w hgd s x t ho B e i z E.sz bytes ht hi1 hz hsz hby hzs E.pos (.slice (some ⟨g, 0, none⟩) n cap) xs.length (E.flat xs) hs hown ad ys.length c (E.flat ys) hx (E.flat_len ys) hc (E.flat_one ys) h63 hbytes hB fun v' w' h2 h3 h4 => ?_
  have h5 : Own E e B w' v' (xs ++ ys) := by
    unfold Own
    rw [List.length_append, E.flat_append]
    exact h2
  rcases h5.shape with ⟨h6, _⟩ | ⟨g', cap', rfl, _, _⟩
  · have := (h4.1 h6).1
    cases this
  · refine h g' cap' w' h5 (below_grown h3 (fun k hk => (World.ownsRow.lt hown k hk).1) hB) ?_
    obtain ⟨_, _, _, _, hv, hl, _⟩ := h5.arr
    simp only [Value.slice.injEq] at hv
    obtain ⟨_, _, rfl⟩ := hv
    exact hl

theorem wpList_appM {α : Type} {E : Enc α} {P : Program} {w : World} {ops : Array Oper} {rest : List Oper} {o : Oper} {a : Act} {Q : Exit → Act → World → Prop} (hgd : o.guard = none) (s x : Operand) (t : TypeId)
    (ho : o.op = .call { callee := .builtin .append, args := #[s, x], argTypes := #[t, t] })
    (B : Nat) (e : TypeId) (z : Value) (bytes : Nat) (hi : (P.info? e).map (fun i => (i.zero, i.size, i.bytes)) = some (some z, E.sz, bytes)) (ht : P.underlying t = some (.slice e)) (hzs : z.cells.size = E.sz)
    (g n cap : Nat) (xs : List α) (hs : a.eval s = .slice (some ⟨g, 0, none⟩) n cap) (hown : Own E e B w (.slice (some ⟨g, 0, none⟩) n cap) xs)
    (ad : Addr) (m c : Nat) (ys : List α) (hx : a.eval x = .slice (some ad) m c) (hm : m = ys.length) (hc : ∀ j u, (E.flat ys)[j]? = some u → w.cell? (ad.add j) = some u)
    (N : Nat) (hN : N = xs.length + ys.length) (h63 : N ≤ maxLen) (hbytes : N * bytes ≤ 140737488355328) (hB : B ≤ w.heap.size)
    (h : ∀ g' cap' w', Own E e B w' (.slice (some ⟨g', 0, none⟩) N cap') (xs ++ ys) → Below B w w' → N ≤ cap' → wpList P ops Q rest (a.put o.dst (.slice (some ⟨g', 0, none⟩) N cap')) w') : wpList P ops Q (o :: rest) a w := by
  subst hN
  refine wpList_appN hgd s x t ho B e z bytes hi ht hzs g n cap xs hs hown ad m c ys hx hm hc h63 hbytes hB ?_
  simp only [List.length_append]
  exact h

def insAt (l : XLexicon) (k : Nat) (e : DEntry) : XLexicon := l.take k ++ e :: l.drop k
def putLx (l : XLexicon) (e : DEntry) : XLexicon := insAt l (lowLx l e.word) e

theorem cells_one (e : DEntry) (w : World) : ∀ j u, (eEntry.flat [e])[j]? = some u → (w.alloc (.cells #[.string e.word, .int .i64 e.cost] 73)).cell? ((⟨w.heap.size, 0, none⟩ : Addr).add j) = some u := by
  intro j u hu
  match j, hu with
  | 0, hu => cases hu; simp [Addr.add]
  | 1, hu => cases hu; simp [Addr.add]
  | j + 2, hu => simp [Enc.flat, eEntry] at hu

set_option maxHeartbeats 1000000 in
theorem l16WithoutN_any (p : Nat) (v : Value) (x : XLexicon) (s : ByteArray) (w : World) (hp : w.cell? ⟨p, 0, none⟩ = some v) (h : Arr eEntry w v x) (ok : okLexicon x) :
    Calls Try.prog 88 #[.pointer (some ⟨p, 0, none⟩), .string s] w fun e w' => ∃ g cap, e = .returned (.slice (some ⟨g, 0, none⟩) (without x s).length cap) ∧ Own eEntry 73 w.heap.size w' (.slice (some ⟨g, 0, none⟩) (without x s).length cap) (without x s) ∧ Below w.heap.size w w' := by
  obtain ⟨b, off, ao, cap, rfl, hnc, hcm, hao, hc⟩ := h
  unfold maxLen at hcm
  unfold okLexicon at ok
  have hpl := World.block_lt_of_cell? w _ hp
  go_enter Try.func88, Try.ntmps88
  go_wp2
  go_loopw [5, 6] (fun u i wr => ∃ k g c : Nat, k ≤ x.length ∧ i = .int .i64 k ∧ u = .slice (some ⟨g, 0, none⟩) (without (x.take k) s).length c ∧ Own eEntry 73 w.heap.size wr (.slice (some ⟨g, 0, none⟩) (without (x.take k) s).length c) (without (x.take k) s) ∧ Below w.heap.size w wr) (fun _ i _ => x.length - (intOf i).toNat)
  case atStart => exact ⟨0, w.heap.size, 0, Nat.zero_le _, rfl, rfl, Own.empty _ _ (Nat.le_refl _), below_alloc _ _⟩
  case round =>
    obtain ⟨k, gg, cc, hk, rfl, rfl, ho, hb⟩ := hrel
    have q1 := (hb.cell (p := ⟨p, 0, none⟩) hpl).trans hp
    clear hp
    by_cases hlt : k < x.length
    · obtain ⟨hao', hbw⟩ := hao (by omega)
      subst hao'
      obtain ⟨e, he⟩ : ∃ e, x[k]? = some e := ⟨_, List.getElem?_eq_getElem hlt⟩
      obtain ⟨c0, c1⟩ := eEntry_cells (hc.below hb hbw) he
      have hli : (k : Int) < (x.length : Int) := by omega
      have hwl := without_le (x.take k) s
      have hwl2 : (x.take k).length ≤ k := by simp; omega
      have HT := hid (take_without (s := s) he)
      clear he hao
      cases hq : (e.word.toList == s.toList)
      · have HT2 : without (x.take (k + 1)) s = without (x.take k) s ++ [e] := by rw [HT.out, if_neg (by show ¬ (e.word.toList == s.toList) = true; rw [hq]; simp)]
        have HT3 := hid HT2
        clear HT2 HT
        generalize without (x.take k) s = l1 at *
        go_wp2_with (at_builtin; refine wpList_appN rfl _ _ 38 rfl w.heap.size 73 _ 24 infEntry Try.underlying38 rfl gg _ cc _ rfl (ho.alloc _) ⟨wr.heap.size, 0, none⟩ 1 1 [e] rfl rfl ?qc2 (by unfold maxLen; simp; omega) (by simp; omega) (by have := hb.size; simp; omega) ?_)
        case qc2 => exact cells_one e wr
        intro g' c' w1 ho1 hb1 _
        go_wp2
        go_roundw
        case rel =>
          refine ⟨k + 1, g', c', by omega, by go_num, ?_, ?_, ((hb.alloc hb.size _).trans hb1)⟩
          · rw [HT3.out, List.length_append]; rfl
          · rw [HT3.out, List.length_append]; exact ho1
        case measure => simp [intOf]; omega
      · have HT2 : without (x.take (k + 1)) s = without (x.take k) s := by rw [HT.out, if_pos (by exact hq), List.append_nil]
        have HT3 := hid HT2
        clear HT2 HT
        go_wp2
        go_roundw
        case rel =>
          refine ⟨k + 1, gg, cc, by omega, by go_num, ?_, ?_, hb⟩
          · rw [HT3.out]
          · rw [HT3.out]; exact ho
        case measure => simp [intOf]; omega
    · have hx : x.take k = x := List.take_of_length_le (by omega)
      rw [hx] at ho
      have HX := hid hx
      clear hx
      go_wp2
      go_ret
      exact ⟨gg, cc, by rw [HX.out]; rfl, ho, hb⟩

set_option maxHeartbeats 2000000 in
theorem l16Put_any (g cap n : Nat) (l : XLexicon) (e : DEntry) (w : World) (h : Own eEntry 73 0 w (.slice (some ⟨g, 0, none⟩) n cap) l) (hn : n = l.length) (ok : okLexicon l) (hs : Sorted l) (hne : ∀ a ∈ l, eqS a.word e.word = false) :
    Calls Try.prog 89 #[.slice (some ⟨g, 0, none⟩) n cap, .agg #[.string e.word, .int .i64 e.cost]] w fun en w' => ∃ g' cap', en = .returned (.slice (some ⟨g', 0, none⟩) (putLx l e).length cap') ∧ Own eEntry 73 w.heap.size w' (.slice (some ⟨g', 0, none⟩) (putLx l e).length cap') (putLx l e) ∧ Below w.heap.size w w' := by
  have ok' : l.length ≤ 1048576 := ok
  have hgl := h.lt
  have hcc : Cells eEntry w g 0 l := by
    intro k x hx j u hu
    have hk := (List.getElem?_eq_some_iff.1 hx).1
    have hj : j < eEntry.sz := by rw [← eEntry.len x]; exact (List.getElem?_eq_some_iff.1 hu).1
    subst hn
    have hlt : k * eEntry.sz + j < l.length * eEntry.sz := by
      have : (k + 1) * eEntry.sz ≤ l.length * eEntry.sz := Nat.mul_le_mul_right _ hk
      rw [Nat.add_mul] at this; omega
    have h' := h
    unfold Own at h'
    rw [Nat.zero_add, World.ownsRow.cellAt h' _ hlt, eEntry.flat_get l k x j hx hj, hu]
  have hnc : n ≤ cap := by
    obtain ⟨_, _, _, _, hv, hl, _⟩ := h.arr
    simp only [Value.slice.injEq] at hv
    obtain ⟨_, _, rfl⟩ := hv
    omega
  have HN := hid hn
  have HNE := hid hne
  have okn : n ≤ 1048576 := by omega
  clear h hn hne ok'
  go_enter Try.func89, Try.ntmps89
  go_wp2
  go_loopw [5] (fun i wr => ∃ k : Nat, k ≤ n ∧ i = .int .i64 k ∧ Below w.heap.size w wr ∧ wr.cell? ⟨w.heap.size, 0, none⟩ = some (.string e.word) ∧ wr.cell? ⟨w.heap.size, 1, none⟩ = some (.int .i64 e.cost) ∧ Hid (∀ j a, k ≤ j → l[j]? = some a → leB a.word e.word = false)) (fun i _ => (intOf i).toNat)
  case atStart => exact ⟨n, Nat.le_refl _, rfl, below_alloc _ _, by simp, by simp, fun j a h1 h2 => by have := (List.getElem?_eq_some_iff.1 h2).1; have := HN.out; omega⟩
  case round =>
    obtain ⟨k, hk, rfl, hb, e0, e1, HA⟩ := hrel
    have e0x := ext_cell e0
    by_cases hk0 : 0 < k
    · have hki : (0 : Int) < (k : Int) := by omega
      have hk1 : (0 : Int) ≤ (k : Int) - 1 := by omega
      have hk2 : (k : Int) - 1 < (n : Int) := by omega
      have et : ((k : Int) - 1).toNat = k - 1 := by omega
      obtain ⟨a, ha⟩ : ∃ a, l[k - 1]? = some a := ⟨_, List.getElem?_eq_getElem (by have := HN.out; omega)⟩
      obtain ⟨c0, c1⟩ := eEntry_cells (hcc.below hb hgl.2) ha
      have c0' : wr.cell? ⟨g, (k - 1) * 2, none⟩ = some (.string a.word) := by simpa using c0
      have c0x := ext_cell c0'
      have HAA := hid ha
      clear ha c0 c1 c0'
      cases hle : (Op.bytesLess a.word.toList e.word.toList || a.word.toList == e.word.toList)
      · go_wp2
        refine wp_region_ext (by kernel_rfl) (by kernel_rfl) ?_
        repeat (go_big_quiet_step (fail))
        refine wpQuiet_nil ?_
        intro _ hw'
        obtain ⟨nq, hw''⟩ := hw'
        subst hw''
        go_wp2
        go_roundw
        case rel =>
          refine ⟨k - 1, by omega, by go_num, hb.trans ((ext_below _ _).mono hb.size), ext_cell e0 nq, ext_cell e1 nq, fun j b hj hb' => ?_⟩
          by_cases ej : j = k - 1
          · subst ej
            rw [HAA.out] at hb'; obtain rfl := Option.some.inj hb'
            exact hle
          · exact HA.out j b (by omega) hb'
        case measure => simp [intOf]; omega
      · go_wp2
        refine wp_region_ext (by kernel_rfl) (by kernel_rfl) ?_
        repeat (go_big_quiet_step (fail))
        refine wpQuiet_nil ?_
        intro _ hw'
        obtain ⟨nq, hw''⟩ := hw'
        subst hw''
        have hlow : lowLx l e.word = k := by
          refine low_eq (by have := HN.out; omega) (fun j b hj hb' => ?_) (fun b hb' => ?_)
          · have h1 : ltB a.word e.word = true := by
              have h2 := HNE.out a (List.mem_of_getElem? HAA.out)
              have h3 : (ltB a.word e.word || eqS a.word e.word) = true := hle
              rw [h2, Bool.or_false] at h3; exact h3
            by_cases ej : j = k - 1
            · subst ej
              rw [HAA.out] at hb'; obtain rfl := Option.some.inj hb'
              exact h1
            · exact ltB_trans (hs j (k - 1) b a (by omega) hb' HAA.out) h1
          · have h1 := HA.out k b (Nat.le_refl _) hb'
            unfold leB at h1
            exact (Bool.or_eq_false_iff.1 h1).1
        have HL := hid hlow
        clear hlow
        have HB := hb.trans ((ext_below _ nq).mono hb.size)
        have E0 := ext_cell e0 nq
        have E1 := ext_cell e1 nq
        have hz := cell_lt E0
        generalize ext wr nq = WN at HB E0 E1 hz ⊢
        obtain ⟨L1, hL1⟩ : ∃ L1, L1 = l.take k := ⟨_, rfl⟩
        have hl1 : k = L1.length := by rw [hL1, List.length_take]; have := HN.out; omega
        have hin : Hid (∀ w', Below w.heap.size w w' → ∀ j u, (eEntry.flat L1)[j]? = some u → w'.cell? ((⟨g, 0, none⟩ : Addr).add j) = some u) := by
          intro w' hb' j u hu
          rw [Addr.add_lit]
          refine flat_cells (hcc.below hb' hgl.2) j u ?_
          have hsp : eEntry.flat l = eEntry.flat L1 ++ eEntry.flat (l.drop k) := by rw [hL1, ← eEntry.flat_append, List.take_append_drop]
          rw [hsp, List.getElem?_append_left (List.getElem?_eq_some_iff.1 hu).1]; exact hu
        obtain ⟨A, hA, _, hAc⟩ := sub_addr hcc HN.out hnc hk
        have hA' : (if cap = k then some (⟨g, 0, none⟩ : Addr) else some ⟨g, k * 2, none⟩) = some A := hA
        have HAC := hid hAc
        clear hA hAc hb e0 e1 e0x
        have HL1 := hid hL1
        have Hl1 := hid hl1
        clear hL1 hl1
        have hl2 : n - k = (l.drop k).length := by rw [List.length_drop, ← HN.out]
        have Hl2 := hid hl2
        clear hl2
        have hkc : k ≤ cap := by omega
        go_wp2_with (at_builtin; refine wpList_appM rfl _ _ 38 rfl (w.heap.size + 1) 73 _ 24 infEntry Try.underlying38 rfl WN.heap.size 0 0 [] rfl (Own.empty _ _ (by omega)) ⟨g, 0, none⟩ k cap L1 rfl Hl1.out (hin.out _ (HB.alloc HB.size _)) k (by have := Hl1.out; simp; omega) (by unfold maxLen; omega) (by omega) (by simp; omega) ?_)
        intro g1 cap1 w1 ho1 hb1 hc1
        have F0 := (hb1.cell (p := ⟨w.heap.size, 0, none⟩) (by simp)).trans (cell_alloc E0 (.cells #[] 73))
        have F1 := (hb1.cell (p := ⟨w.heap.size, 1, none⟩) (by simp)).trans (cell_alloc E1 (.cells #[] 73))
        have HB1 := (HB.alloc HB.size (.cells #[] 73)).trans (hb1.mono (by omega))
        have z1 := hb1.size
        simp at z1
        go_wp2_with (at_builtin; refine wpList_appM rfl _ _ 38 rfl (w.heap.size + 1) 73 _ 24 infEntry Try.underlying38 rfl g1 _ cap1 L1 rfl (ho1.alloc _) ⟨w1.heap.size, 0, none⟩ 1 1 [e] rfl rfl (cells_one e w1) (k + 1) (by have := Hl1.out; simp; omega) (by unfold maxLen; omega) (by omega) (by simp; omega) ?_)
        intro g2 cap2 w2 ho2 hb2 hc2
        have HB2 := (HB1.alloc HB1.size (.cells #[.string e.word, .int .i64 e.cost] 73)).trans (hb2.mono (by omega))
        have z2 := hb2.size
        simp at z2
        go_wp2_with (at_builtin; refine wpList_appM rfl _ _ 38 rfl (w.heap.size + 1) 73 _ 24 infEntry Try.underlying38 rfl g2 _ cap2 (L1 ++ [e]) rfl ho2 A (n - k) (cap - k) (l.drop k) rfl Hl2.out (HAC.out w2 (fun o => HB2.cell (p := ⟨g, o, none⟩) hgl.2)) (n + 1) (by have := Hl1.out; have := Hl2.out; simp only [List.length_append, List.length_cons, List.length_nil]; omega) (by unfold maxLen; omega) (by omega) (by omega) ?_)
        intro g3 cap3 w3 ho3 hb3 hc3
        have hput : putLx l e = L1 ++ e :: l.drop k := by rw [putLx, HL.out, insAt, HL1.out]
        have hlen : (putLx l e).length = n + 1 := by rw [hput]; have := Hl1.out; have := Hl2.out; simp only [List.length_append, List.length_cons] ; omega
        have HPUT := hid hput
        have HLEN := hid hlen
        clear hput hlen
        go_wp2
        go_ret
        exact ⟨g3, cap3, by rw [HLEN.out]; rfl, by rw [HLEN.out, HPUT.out]; exact ho3.mono (Nat.le_succ _), HB2.trans (hb3.mono (Nat.le_succ _))⟩
    · have hki : (k : Int) ≤ 0 := by omega
      go_wp2
      refine wp_region_ext (by kernel_rfl) (by kernel_rfl) ?_
      repeat (go_big_quiet_step (fail))
      refine wpQuiet_nil ?_
      intro _ hw'
      obtain ⟨nq, hw''⟩ := hw'
      subst hw''
      have hlow : lowLx l e.word = k := by
        refine low_eq (by have := HN.out; omega) (fun j b hj hb' => by omega) (fun b hb' => ?_)
        have h1 := HA.out k b (Nat.le_refl _) hb'
        unfold leB at h1
        exact (Bool.or_eq_false_iff.1 h1).1
      have HL := hid hlow
      clear hlow
      have HB := hb.trans ((ext_below _ nq).mono hb.size)
      have E0 := ext_cell e0 nq
      have E1 := ext_cell e1 nq
      have hz := cell_lt E0
      generalize ext wr nq = WN at HB E0 E1 hz ⊢
      obtain ⟨L1, hL1⟩ : ∃ L1, L1 = l.take k := ⟨_, rfl⟩
      have hl1 : k = L1.length := by rw [hL1, List.length_take]; have := HN.out; omega
      have hin : Hid (∀ w', Below w.heap.size w w' → ∀ j u, (eEntry.flat L1)[j]? = some u → w'.cell? ((⟨g, 0, none⟩ : Addr).add j) = some u) := by
        intro w' hb' j u hu
        rw [Addr.add_lit]
        refine flat_cells (hcc.below hb' hgl.2) j u ?_
        have hsp : eEntry.flat l = eEntry.flat L1 ++ eEntry.flat (l.drop k) := by rw [hL1, ← eEntry.flat_append, List.take_append_drop]
        rw [hsp, List.getElem?_append_left (List.getElem?_eq_some_iff.1 hu).1]; exact hu
      obtain ⟨A, hA, _, hAc⟩ := sub_addr hcc HN.out hnc hk
      have hA' : (if cap = k then some (⟨g, 0, none⟩ : Addr) else some ⟨g, k * 2, none⟩) = some A := hA
      have HAC := hid hAc
      clear hA hAc hb e0 e1 e0x
      have HL1 := hid hL1
      have Hl1 := hid hl1
      clear hL1 hl1
      have hl2 : n - k = (l.drop k).length := by rw [List.length_drop, ← HN.out]
      have Hl2 := hid hl2
      clear hl2
      have hkc : k ≤ cap := by omega
      go_wp2_with (at_builtin; refine wpList_appM rfl _ _ 38 rfl (w.heap.size + 1) 73 _ 24 infEntry Try.underlying38 rfl WN.heap.size 0 0 [] rfl (Own.empty _ _ (by omega)) ⟨g, 0, none⟩ k cap L1 rfl Hl1.out (hin.out _ (HB.alloc HB.size _)) k (by have := Hl1.out; simp; omega) (by unfold maxLen; omega) (by omega) (by simp; omega) ?_)
      intro g1 cap1 w1 ho1 hb1 hc1
      have F0 := (hb1.cell (p := ⟨w.heap.size, 0, none⟩) (by simp)).trans (cell_alloc E0 (.cells #[] 73))
      have F1 := (hb1.cell (p := ⟨w.heap.size, 1, none⟩) (by simp)).trans (cell_alloc E1 (.cells #[] 73))
      have HB1 := (HB.alloc HB.size (.cells #[] 73)).trans (hb1.mono (by omega))
      have z1 := hb1.size
      simp at z1
      go_wp2_with (at_builtin; refine wpList_appM rfl _ _ 38 rfl (w.heap.size + 1) 73 _ 24 infEntry Try.underlying38 rfl g1 _ cap1 L1 rfl (ho1.alloc _) ⟨w1.heap.size, 0, none⟩ 1 1 [e] rfl rfl (cells_one e w1) (k + 1) (by have := Hl1.out; simp; omega) (by unfold maxLen; omega) (by omega) (by simp; omega) ?_)
      intro g2 cap2 w2 ho2 hb2 hc2
      have HB2 := (HB1.alloc HB1.size (.cells #[.string e.word, .int .i64 e.cost] 73)).trans (hb2.mono (by omega))
      have z2 := hb2.size
      simp at z2
      go_wp2_with (at_builtin; refine wpList_appM rfl _ _ 38 rfl (w.heap.size + 1) 73 _ 24 infEntry Try.underlying38 rfl g2 _ cap2 (L1 ++ [e]) rfl ho2 A (n - k) (cap - k) (l.drop k) rfl Hl2.out (HAC.out w2 (fun o => HB2.cell (p := ⟨g, o, none⟩) hgl.2)) (n + 1) (by have := Hl1.out; have := Hl2.out; simp only [List.length_append, List.length_cons, List.length_nil]; omega) (by unfold maxLen; omega) (by omega) (by omega) ?_)
      intro g3 cap3 w3 ho3 hb3 hc3
      have hput : putLx l e = L1 ++ e :: l.drop k := by rw [putLx, HL.out, insAt, HL1.out]
      have hlen : (putLx l e).length = n + 1 := by rw [hput]; have := Hl1.out; have := Hl2.out; simp only [List.length_append, List.length_cons] ; omega
      have HPUT := hid hput
      have HLEN := hid hlen
      clear hput hlen
      go_wp2
      go_ret
      exact ⟨g3, cap3, by rw [HLEN.out]; rfl, by rw [HLEN.out, HPUT.out]; exact ho3.mono (Nat.le_succ _), HB2.trans (hb3.mono (Nat.le_succ _))⟩

theorem sorted_pair {x : XLexicon} (h : Sorted x) : x.Pairwise (fun a b => ltB a.word b.word = true) := by
  rw [List.pairwise_iff_getElem]
  intro i j hi hj hij
  exact h i j _ _ hij (List.getElem?_eq_getElem hi) (List.getElem?_eq_getElem hj)
theorem pair_sorted {x : XLexicon} (h : x.Pairwise (fun a b => ltB a.word b.word = true)) : Sorted x := by
  rw [List.pairwise_iff_getElem] at h
  intro i j a b hij ha hb
  obtain ⟨hi, rfl⟩ := List.getElem?_eq_some_iff.1 ha
  obtain ⟨hj, rfl⟩ := List.getElem?_eq_some_iff.1 hb
  exact h i j hi hj hij
theorem sorted_without {x : XLexicon} (h : Sorted x) (s : ByteArray) : Sorted (without x s) := pair_sorted ((sorted_pair h).filter _)
theorem without_ne {x : XLexicon} {s : ByteArray} : ∀ a ∈ without x s, eqS a.word s = false := by
  intro a ha
  have := (List.mem_filter.1 ha).2
  simpa using this

def setLx (x : XLexicon) (e : DEntry) : XLexicon := if validLx x && isWordB e.word && inB e.cost 0 1000000 then (if 60 ≤ (without x e.word).length then [] else putLx (without x e.word) e) else []
def setCode (x : XLexicon) (e : DEntry) : Int := if validLx x then (if isWordB e.word then (if inB e.cost 0 1000000 then (if 60 ≤ (without x e.word).length then 5 else 0) else 2) else 7) else 1
theorem putLx_len (l : XLexicon) (e : DEntry) : (putLx l e).length = l.length + 1 := by
  have := low_le l e.word
  simp [putLx, insAt]; omega
theorem okSet {x : XLexicon} {e : DEntry} (_ : okLexicon x) : okLexicon (setLx x e) := by
  unfold okLexicon setLx
  split
  · split
    · simp
    · rw [putLx_len]; omega
  · simp

set_option maxHeartbeats 2000000 in
theorem specSetEntry_any (v : Value) (x : XLexicon) (e : DEntry) (w : World) {lo hi : Nat} (h : rLexicon.at_ lo hi w v x) (ok : okLexicon x) (g : goodLexicon x) (ge : goodEntry e) :
    Calls Try.prog 38 #[v, .agg #[.string e.word, .int .i64 e.cost]] w (RetNew rLexicon (setLx x e) #[.int .i64 (setCode x e)] w) := by
  obtain ⟨u, rfl, h⟩ := h
  replace h := ArrIn.arr h
  obtain ⟨sa, sc, hu⟩ := h.isSlice
  subst hu
  have hws : e.word.size ≤ 9223372036854775807 := ge.1
  obtain ⟨W2, hW2⟩ : ∃ W2, W2 = (w.alloc (.cells #[.slice sa x.length sc] 40)).alloc (.cells #[.string e.word, .int .i64 e.cost] 73) := ⟨_, rfl⟩
  have z2 : W2.heap.size = w.heap.size + 1 + 1 := by rw [hW2]; simp
  obtain ⟨W0, hW0⟩ : ∃ W0, W0 = W2.alloc (.cells #[.slice none 0 0] 40) := ⟨_, rfl⟩
  have q0 : W0.cell? ⟨w.heap.size, 0, none⟩ = some (.slice sa x.length sc) := by rw [hW0, hW2]; exact cell_alloc (by simp) _
  have q1 : W0.cell? ⟨w.heap.size + 1, 0, none⟩ = some (.string e.word) := by rw [hW0, hW2]; exact cell_alloc (by simp) _
  have q2 : W0.cell? ⟨w.heap.size + 1, 1, none⟩ = some (.int .i64 e.cost) := by rw [hW0, hW2]; exact cell_alloc (by simp) _
  have q3 : W0.cell? ⟨w.heap.size + 1 + 1, 0, none⟩ = some (.slice none 0 0) := by rw [hW0, ← z2]; simp
  have hfr : W0.frozen? ⟨w.heap.size + 1 + 1, 0, none⟩ = false := by rw [hW0, ← z2]; simp
  have hA : Arr eEntry W0 (.slice sa x.length sc) x := by rw [hW0, hW2]; exact ((h.alloc _).alloc _).alloc _
  have hb0 : Below w.heap.size w W0 := by rw [hW0, hW2]; exact (((Below.refl _ _).alloc (Nat.le_refl _) _).alloc (by simp) _).alloc (by simp <;> omega) _
  have z0 : W0.heap.size = w.heap.size + 3 := by rw [hW0]; simp [z2]
  cases hv : validLx x
  · go_enter Try.func38, Try.ntmps38
    go_wp2_with fail
    rw [← hW2, ← hW0]
    go_wp2_with (go_at_call 51; refine (l16Ok_any _ _ x _ q0 hA ok g).mono ?_; rintro en w2 ⟨rfl, hb⟩; rw [hv]; have k0 := cell_later hb q0; have k1 := cell_later hb q1; have k2 := cell_later hb q2; have k3 := cell_later hb q3; have kf : w2.frozen? ⟨w.heap.size + 1 + 1, 0, none⟩ = false := ((bcell hb).2 _ 0 (by omega)).trans hfr)
    refine bodyPost_ret (v := .tuple #[.agg #[.slice none 0 0], .int .i64 1]) (by simp [results, Try.results38, go_sem, k3]) rfl ⟨.agg #[.slice none 0 0], by simp [setCode, hv], ?_, ?_⟩
    · rw [show setLx x e = [] by simp [setLx, hv]]
      exact rLx_new (Own.nil _ _ _) (Nat.le_refl _)
    · exact (hb0.trans (hb.mono (by omega))).setCell (by simp <;> omega) _
  · have hs := sorted_of_valid hv
    cases hw : isWordB e.word
    · go_enter Try.func38, Try.ntmps38
      go_wp2_with fail
      rw [← hW2, ← hW0]
      go_wp2_with (first | (go_at_call 51; refine (l16Ok_any _ _ x _ q0 hA ok g).mono ?_; rintro en w2 ⟨rfl, hb⟩; rw [hv]; have k0 := cell_later hb q0; have k1 := cell_later hb q1; have k2 := cell_later hb q2; have k3 := cell_later hb q3; have kf : w2.frozen? ⟨w.heap.size + 1 + 1, 0, none⟩ = false := ((bcell hb).2 _ 0 (by omega)).trans hfr) | (go_at_call 77; refine (specWord_is hws hw _).mono ?_; rintro en w' ⟨rfl, rfl⟩))
      refine bodyPost_ret (v := .tuple #[.agg #[.slice none 0 0], .int .i64 7]) (by simp [results, Try.results38, go_sem, k3]) rfl ⟨.agg #[.slice none 0 0], by simp [setCode, hv, hw], ?_, ?_⟩
      · rw [show setLx x e = [] by simp [setLx, hv, hw]]
        exact rLx_new (Own.nil _ _ _) (Nat.le_refl _)
      · exact (hb0.trans (hb.mono (by omega))).setCell (by simp <;> omega) _
    · cases hi : inB e.cost 0 1000000
      · go_enter Try.func38, Try.ntmps38
        go_wp2_with fail
        rw [← hW2, ← hW0]
        go_wp2_with (first | (go_at_call 51; refine (l16Ok_any _ _ x _ q0 hA ok g).mono ?_; rintro en w2 ⟨rfl, hb⟩; rw [hv]; have k0 := cell_later hb q0; have k1 := cell_later hb q1; have k2 := cell_later hb q2; have k3 := cell_later hb q3; have kf : w2.frozen? ⟨w.heap.size + 1 + 1, 0, none⟩ = false := ((bcell hb).2 _ 0 (by omega)).trans hfr) | (go_at_call 77; refine (specWord_is hws hw _).mono ?_; rintro en w' ⟨rfl, rfl⟩) | (go_at_call 60; refine (inIn_spec e.cost _).mono ?_; rintro en w' ⟨rfl, rfl⟩; rw [hi]))
        refine bodyPost_ret (v := .tuple #[.agg #[.slice none 0 0], .int .i64 2]) (by simp [results, Try.results38, go_sem, k3]) rfl ⟨.agg #[.slice none 0 0], by simp [setCode, hv, hw, hi], ?_, ?_⟩
        · rw [show setLx x e = [] by simp [setLx, hv, hw, hi]]
          exact rLx_new (Own.nil _ _ _) (Nat.le_refl _)
        · exact (hb0.trans (hb.mono (by omega))).setCell (by simp <;> omega) _
      · have okW : okLexicon (without x e.word) := by have := without_le x e.word; unfold okLexicon at *; omega
        by_cases h60 : 60 ≤ (without x e.word).length
        · have h60i : (60 : Int) ≤ ((without x e.word).length : Int) := by omega
          go_enter Try.func38, Try.ntmps38
          go_wp2_with fail
          rw [← hW2, ← hW0]
          go_wp2_with (first | (go_at_call 51; refine (l16Ok_any _ _ x _ q0 hA ok g).mono ?_; rintro en w2 ⟨rfl, hb⟩; rw [hv]; have k0 := cell_later hb q0; have k1 := cell_later hb q1; have k2 := cell_later hb q2; have k3 := cell_later hb q3; have kf : w2.frozen? ⟨w.heap.size + 1 + 1, 0, none⟩ = false := ((bcell hb).2 _ 0 (by omega)).trans hfr) | (go_at_call 77; refine (specWord_is hws hw _).mono ?_; rintro en w' ⟨rfl, rfl⟩) | (go_at_call 60; refine (inIn_spec e.cost _).mono ?_; rintro en w' ⟨rfl, rfl⟩; rw [hi]) | (go_at_call 88; refine (l16WithoutN_any _ _ x e.word _ k0 (hA.below hb) ok).mono ?_; rintro en w3 ⟨g1, c1, rfl, ho, hb3⟩; have HB := hb.trans (hb3.mono hb.size); have j1 := cell_later hb3 k1; have j2 := cell_later hb3 k2; have j3 := cell_later hb3 k3; have jf : w3.frozen? ⟨w.heap.size + 1 + 1, 0, none⟩ = false := ((bcell HB).2 _ 0 (by omega)).trans hfr; have z3 := HB.size))
          refine bodyPost_ret (v := .tuple #[.agg #[.slice none 0 0], .int .i64 5]) (by simp [results, Try.results38, go_sem, j3]) rfl ⟨.agg #[.slice none 0 0], by simp [setCode, hv, hw, hi, h60], ?_, ?_⟩
          · rw [show setLx x e = [] by simp [setLx, hv, hw, hi, h60]]
            exact rLx_new (Own.nil _ _ _) (Nat.le_refl _)
          · exact (hb0.trans (HB.mono (by omega))).setCell (by simp <;> omega) _
        · have h60i : ((without x e.word).length : Int) < 60 := by omega
          go_enter Try.func38, Try.ntmps38
          go_wp2_with fail
          rw [← hW2, ← hW0]
          go_wp2_with (first | (go_at_call 51; refine (l16Ok_any _ _ x _ q0 hA ok g).mono ?_; rintro en w2 ⟨rfl, hb⟩; rw [hv]; have k0 := cell_later hb q0; have k1 := cell_later hb q1; have k2 := cell_later hb q2; have k3 := cell_later hb q3; have kf : w2.frozen? ⟨w.heap.size + 1 + 1, 0, none⟩ = false := ((bcell hb).2 _ 0 (by omega)).trans hfr) | (go_at_call 77; refine (specWord_is hws hw _).mono ?_; rintro en w' ⟨rfl, rfl⟩) | (go_at_call 60; refine (inIn_spec e.cost _).mono ?_; rintro en w' ⟨rfl, rfl⟩; rw [hi]) | (go_at_call 88; refine (l16WithoutN_any _ _ x e.word _ k0 (hA.below hb) ok).mono ?_; rintro en w3 ⟨g1, c1, rfl, ho, hb3⟩; have HB := hb.trans (hb3.mono hb.size); have j1 := cell_later hb3 k1; have j2 := cell_later hb3 k2; have j3 := cell_later hb3 k3; have jf : w3.frozen? ⟨w.heap.size + 1 + 1, 0, none⟩ = false := ((bcell HB).2 _ 0 (by omega)).trans hfr; have z3 := HB.size) | (go_at_call 89; refine (l16Put_any g1 c1 _ _ e _ (ho.mono (Nat.zero_le _)) rfl okW (sorted_without hs e.word) without_ne).mono ?_; rintro en w4 ⟨g4, c4, rfl, ho4, hb4⟩; have HB4 := HB.trans (hb4.mono HB.size); have i3 := cell_later hb4 j3; have jf4 : w4.frozen? ⟨w.heap.size + 1 + 1, 0, none⟩ = false := ((bcell HB4).2 _ 0 (by omega)).trans hfr; have z4 := HB4.size))
          refine bodyPost_ret (v := .tuple #[.agg #[.slice (some ⟨g4, 0, none⟩) (putLx (without x e.word) e).length c4], .int .i64 0]) (by simp [results, Try.results38, go_sem, i3]) rfl ⟨.agg #[.slice (some ⟨g4, 0, none⟩) (putLx (without x e.word) e).length c4], by simp [setCode, hv, hw, hi, h60], ?_, ?_⟩
          · rw [show setLx x e = putLx (without x e.word) e by simp [setLx, hv, hw, hi, h60]]
            exact rLx_new (ho4.setBelow (by simp; omega) _) (by omega)
          · exact (hb0.trans (HB4.mono (by omega))).setCell (by simp <;> omega) _
end Go.Proofs.Ytnanegdcoegahaa
