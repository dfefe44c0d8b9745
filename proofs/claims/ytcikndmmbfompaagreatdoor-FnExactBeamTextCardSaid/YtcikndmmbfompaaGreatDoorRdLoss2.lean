/- Every reading of a beam is the text of a path. Plain lemmas, no program. -/
import Derived.Test.YtcikndmmbfompaaGreatDoorRdRaw
import Derived.Test.YtcikndmmbfompaaGreatDoorLtText2
import Derived.Test.YtcikndmmbfompaaGreatDoorRdWord
import Derived.Test.YtcikndmmbfompaaGreatDoorRdImp
import Derived.Test.YtcikndmmbfompaaGreatDoorRdWord2
import Derived.Test.YtcikndmmbfompaaGreatDoorFwRead
namespace Go.Proofs.YtcikndmmbfompaaGreatDoor

theorem ba_eq {a b : ByteArray} (h : a.toList = b.toList) : a = b := by
  rw [ByteArray.toList_eq, ByteArray.toList_eq] at h
  cases a; cases b
  congr
  exact Array.toList_inj.1 h
theorem piece_at {s p l : ByteArray} (h : (p ++ l).toList <+: s.toList) (hl : l.size = 1) : eqS (pieceAt s p.size) l = true := by
  unfold eqS pieceAt
  rw [beq_iff_eq]
  obtain ⟨t, ht⟩ := h
  have h1 : (p ++ l).toList = p.toList ++ l.toList := by rw [ByteArray.toList_eq, ByteArray.toList_eq, ByteArray.toList_eq, ByteArray.data_append, Array.toList_append]
  rw [h1] at ht
  have h2 : (s.extract p.size (p.size + 1)).toList = (s.toList.drop p.size).take 1 := by
    rw [ByteArray.toList_eq, ByteArray.toList_eq, ByteArray.data_extract, Array.toList_extract, List.extract_eq_take_drop]
    congr 1; omega
  rw [h2, ← ht, List.append_assoc, List.drop_append_of_le_length (by rw [toList_len]; exact Nat.le_refl _), List.drop_of_length_le (by rw [toList_len]; exact Nat.le_refl _), List.nil_append, List.take_append_of_le_length (by rw [toList_len, hl]; exact Nat.le_refl _), List.take_of_length_le (by rw [toList_len, hl]; exact Nat.le_refl _)]
theorem stC_le (s : ByteArray) (k : Nat) (C N : Nat → Int) (e : DEdge) (v : Nat) : stC s k C N e v ≤ N v := by
  unfold stC
  split
  · exact Int.min_le_left _ _
  · exact Int.le_refl _
theorem foldC_le (s : ByteArray) (k : Nat) (C : Nat → Int) : ∀ (x : List DEdge) (N : Nat → Int) (v : Nat), (x.foldl (stC s k C) N) v ≤ N v
  | [], _, _ => Int.le_refl _
  | e :: x, N, v => Int.le_trans (foldC_le s k C x _ v) (stC_le s k C N e v)
theorem foldC_at (s : ByteArray) (k : Nat) (C : Nat → Int) : ∀ (x : List DEdge) (N : Nat → Int) {e : DEdge}, e ∈ x → eqS (pieceAt s k) e.label = true → (x.foldl (stC s k C) N) («to» e) ≤ C (fr e) + e.cost
  | a :: x, N, e, he, hm => by
    rcases List.mem_cons.1 he with h | h
    · subst h
      refine Int.le_trans (foldC_le s k C x _ _) ?_
      rw [stC_here hm]
      exact Int.min_le_right _ _
    · exact foldC_at s k C x _ h hm
/-- every reading of a beam is the text of a path, with its cost -/
theorem path_states {n : Nat} {x : List DEdge} (hg : Good n x) (hr : Rises x) (hn : n ≤ 20) (hlab : ∀ e ∈ x, e.label.size = 1) (m : Nat) (beg : ByteArray → Bool) (I : List DReading) (hI : ∀ r ∈ I, r.text.size = 0 ∧ r.cost = 0) :
    ∀ (v : Nat) (r : DReading), r ∈ statesR m beg I x v → 0 ≤ r.cost ∧ r.cost ≤ 1000000 * (v : Int) ∧ ∀ s : ByteArray, r.text.toList <+: s.toList → rowC s x r.text.size v ≤ r.cost := by
  intro v
  induction v using Nat.strongRecOn with
  | ind v ih =>
    intro r h
    rcases Nat.eq_zero_or_pos v with h0 | h0
    · subst h0
      rw [states_zero hg hr] at h
      obtain ⟨h1, h2⟩ := hI r h
      rw [h1, h2]
      exact ⟨by omega, by omega, fun s _ => by show (if (0 : Nat) = 0 then (0 : Int) else NW) ≤ 0; simp⟩
    · rw [states_pos hg hr _ _ _ h0] at h
      obtain ⟨e, he, h1⟩ := List.mem_flatMap.1 (topR_mem h)
      obtain ⟨he1, he2⟩ := List.mem_filter.1 he
      obtain ⟨q, hq, rfl, _⟩ := extsR_mem h1
      have h3 := hg.lt he1
      obtain ⟨_, _, _, c0, c1⟩ := hg e he1
      simp at he2
      obtain ⟨i0, i1, i2⟩ := ih (fr e) (by omega) q hq
      have hw : IntKind.i64.wrap (q.cost + e.cost) = q.cost + e.cost := IntWalk.i64_in _ (by omega)
      have hl := hlab e he1
      have hsz : (extR q e).text.size = q.text.size + 1 := by rw [extR_size, hl]
      have hc : (extR q e).cost = q.cost + e.cost := hw
      rw [hc]
      refine ⟨by omega, by omega, fun s hs => ?_⟩
      rw [hsz]
      show (x.foldl (stC s q.text.size (rowC s x q.text.size)) (fun _ => NW)) v ≤ _
      have hp : (q.text ++ e.label).toList <+: s.toList := hs
      have h4 := foldC_at s q.text.size (rowC s x q.text.size) x (fun _ => NW) he1 (piece_at hp hl)
      rw [he2] at h4
      have hq2 : q.text.toList <+: s.toList := by
        have h5 : q.text.toList <+: (q.text ++ e.label).toList := by
          have : (q.text ++ e.label).toList = q.text.toList ++ e.label.toList := by rw [ByteArray.toList_eq, ByteArray.toList_eq, ByteArray.toList_eq, ByteArray.data_append, Array.toList_append]
          rw [this]; exact List.prefix_append _ _
        exact h5.trans hp
      have := i2 s hq2
      omega
end Go.Proofs.YtcikndmmbfompaaGreatDoor
namespace Go.Proofs.YtcikndmmbfompaaGreatDoor

theorem minL_mem : ∀ {L : List DFound} {b : DFound}, minL L = some b → b ∈ L := by
  have key : ∀ (L : List DFound) (o : Option DFound) (b : DFound), L.foldl minS o = some b → b ∈ L ∨ o = some b := by
    intro L
    induction L with
    | nil => intro o b h; exact .inr h
    | cons a L ih =>
      intro o b h
      rcases ih _ _ h with h1 | h1
      · exact .inl (List.mem_cons_of_mem _ h1)
      · unfold minS at h1
        cases o with
        | none => simp at h1; exact .inl (by rw [h1]; exact List.mem_cons_self)
        | some c =>
          simp only [Option.some.injEq] at h1
          split at h1
          · exact .inl (by rw [h1]; exact List.mem_cons_self)
          · exact .inr (by rw [h1])
  intro L b h
  rcases key L none b h with h1 | h1
  · exact h1
  · cases h1
theorem fnd_of {y : XLexicon} {RS : List DReading} {f : DFound} (h : f ∈ fndL y RS) : ∃ r ∈ RS, ∃ e ∈ y, r.text = e.word ∧ f = ⟨r.text, r.cost, e.cost⟩ := by
  obtain ⟨r, hr, h1⟩ := List.mem_filterMap.1 h
  unfold fndE at h1
  cases hf : findLx y r.text with
  | none => rw [hf] at h1; cases h1
  | some k =>
    rw [hf] at h1
    obtain ⟨e, he, hq⟩ := find_get hf
    simp only [he, Option.map_some, Option.some.injEq] at h1
    unfold eqS at hq
    rw [beq_iff_eq] at hq
    exact ⟨r, hr, e, List.mem_of_getElem? he, (ba_eq hq).symm, h1.symm⟩
theorem ent_cost {y : XLexicon} (hv : validLx y = true) {e : DEntry} (he : e ∈ y) : 0 ≤ e.cost ∧ e.cost ≤ 1000000 := by
  obtain ⟨k, hk⟩ := List.mem_iff_getElem?.1 he
  have h1 : inB e.cost 0 1000000 = true := by
    cases hb : inB e.cost 0 1000000 with
    | true => rfl
    | false => rw [validLx_at hk (by simp [entOk, hb])] at hv; cases hv
  exact inB_true.1 h1
theorem findAll_perm (x : XLattice) (y : XLexicon) : (findAll x y).Perm (foundL x y) ∧ Up ltF (findAll x y) := by
  have key : ∀ (L A : List DFound), Up ltF A → (L.foldl (insE ltF) A).Perm (A ++ L) ∧ Up ltF (L.foldl (insE ltF) A) := by
    intro L
    induction L with
    | nil => intro A hA; simp only [List.foldl_nil, List.append_nil]; exact ⟨List.Perm.refl _, hA⟩
    | cons a L ih =>
      intro A hA
      obtain ⟨h1, h2⟩ := ih (insE ltF A a) (insE_up swoF hA a)
      refine ⟨h1.trans ?_, h2⟩
      exact ((insE_perm ltF A a).append_right L).trans (by simpa using List.perm_middle.symm)
  exact key (foundL x y) [] List.Pairwise.nil
def lossB (x : XLattice) (y : XLexicon) (k : Int) : Int := match bwO x y k, findAll x y with
  | some f, b :: _ => (f.path + f.own_) - (b.path + b.own_)
  | _, _ => -1
theorem loss_none {x : XLattice} {y : XLexicon} {k : Int} (h : bwO x y k = none) : lossB x y k = -1 := by unfold lossB; rw [h]
theorem textR_bd {N : Nat} {x : List DEdge} (hv : validLt ((N : Int), x) = true) (s : ByteArray) (h : textR ((N : Int), x) s < NW) : 0 ≤ textR ((N : Int), x) s ∧ textR ((N : Int), x) s ≤ 20000000 := by
  obtain ⟨b1, b2, b3⟩ := valid_bd hv
  have := okC_row (valid_good hv) s s.size (N - 1)
  have e : textR ((N : Int), x) s = rowC s x s.size (N - 1) := by unfold textR; simp
  rw [e] at h ⊢
  rcases this with h1 | h1
  · rw [h1] at h; exact absurd h (Int.lt_irrefl _)
  · omega
theorem loss_some {N m : Nat} {x : List DEdge} {y : XLexicon} (hv : validLt ((N : Int), x) = true) (hvy : validLx y = true) {f : DFound} (h : bwO ((N : Int), x) y m = some f) :
    ∃ b t, findAll ((N : Int), x) y = b :: t ∧ lossB ((N : Int), x) y m = (f.path + f.own_) - (b.path + b.own_) ∧ b.path + b.own_ ≤ f.path + f.own_ ∧ 0 ≤ f.path ∧ f.path ≤ 20000000 ∧ 0 ≤ f.own_ ∧ f.own_ ≤ 1000000 ∧ 0 ≤ b.path ∧ b.path ≤ 20000000 ∧ 0 ≤ b.own_ ∧ b.own_ ≤ 1000000 := by
  obtain ⟨b1, b2, b3⟩ := valid_bd hv
  have hf := minL_mem (show minL (fndL y (stB ((N : Int), x) y m (N - 1))) = some f from by rw [← h]; unfold bwO; simp)
  obtain ⟨r, hr, e, he, hw, rfl⟩ := fnd_of hf
  obtain ⟨c0, c1, c2⟩ := path_states (valid_good hv) (valid_rises hv) (by omega) (fun e he => by obtain ⟨k, hk⟩ := List.mem_iff_getElem?.1 he; exact valid_lab hv hk) m (begLx y) (beg0 y) (by intro q hq; unfold beg0 at hq; split at hq <;> simp at hq; subst hq; exact ⟨rfl, rfl⟩) (N - 1) r hr
  obtain ⟨d0, d1⟩ := ent_cost hvy he
  have hrow := c2 r.text (List.prefix_refl _)
  have ht : textR ((N : Int), x) e.word ≤ r.cost := by unfold textR; simp only [Int.toNat_natCast]; rw [← hw]; exact hrow
  have hNW : textR ((N : Int), x) e.word < NW := by rw [NW_eq]; omega
  have hin : (⟨e.word, textR ((N : Int), x) e.word, e.cost⟩ : DFound) ∈ foundL ((N : Int), x) y := List.mem_filterMap.2 ⟨e, he, by unfold found1; rw [if_pos hNW]⟩
  obtain ⟨hp, hu⟩ := findAll_perm ((N : Int), x) y
  have hin2 := hp.mem_iff.2 hin
  obtain ⟨t0, t1⟩ := textR_bd hv e.word hNW
  cases hF : findAll ((N : Int), x) y with
  | nil => rw [hF] at hin2; cases hin2
  | cons b t =>
    have hb : b ∈ foundL ((N : Int), x) y := hp.mem_iff.1 (by rw [hF]; exact List.mem_cons_self)
    obtain ⟨eb, heb, hb1⟩ := List.mem_filterMap.1 hb
    unfold found1 at hb1
    have hbt : textR ((N : Int), x) eb.word < NW := by
      by_cases hlt : textR ((N : Int), x) eb.word < NW
      · exact hlt
      · rw [if_neg hlt] at hb1; cases hb1
    rw [if_pos hbt] at hb1
    simp only [Option.some.injEq] at hb1
    subst hb1
    obtain ⟨g0, g1⟩ := ent_cost hvy heb
    obtain ⟨k0, k1⟩ := textR_bd hv eb.word hbt
    have hle : textR ((N : Int), x) eb.word + eb.cost ≤ textR ((N : Int), x) e.word + e.cost := by
      rw [hF] at hin2 hu
      rcases List.mem_cons.1 hin2 with h1 | h1
      · have hp := congrArg DFound.path h1
        have ho := congrArg DFound.own_ h1
        simp only at hp ho
        omega
      · have h2 := (List.pairwise_cons.1 hu).1 _ h1
        rw [ltF_bef] at h2
        unfold befR at h2
        have w1 : sumF ⟨e.word, textR ((N : Int), x) e.word, e.cost⟩ = textR ((N : Int), x) e.word + e.cost := IntWalk.i64_in _ (by show -9223372036854775808 ≤ textR ((N : Int), x) e.word + e.cost ∧ textR ((N : Int), x) e.word + e.cost ≤ 9223372036854775807; omega)
        have w2 : sumF ⟨eb.word, textR ((N : Int), x) eb.word, eb.cost⟩ = textR ((N : Int), x) eb.word + eb.cost := IntWalk.i64_in _ (by show -9223372036854775808 ≤ textR ((N : Int), x) eb.word + eb.cost ∧ textR ((N : Int), x) eb.word + eb.cost ≤ 9223372036854775807; omega)
        rw [w1, w2] at h2
        split at h2
        · omega
        · simp at h2; exact h2
    refine ⟨_, t, rfl, ?_, ?_, c0, ?_, d0, d1, k0, k1, g0, g1⟩
    · unfold lossB; rw [h, hF]
    · simp only; omega
    · simp only; omega
theorem loss_ge {N m : Nat} {x : List DEdge} {y : XLexicon} (hv : validLt ((N : Int), x) = true) (hvy : validLx y = true) {f : DFound} (h : bwO ((N : Int), x) y m = some f) : 0 ≤ lossB ((N : Int), x) y m := by
  obtain ⟨b, t, _, h2, h3, _⟩ := loss_some hv hvy h
  omega
def lsN (x : XLattice) (y : XLexicon) (k : Int) : Int := if codeB x y k = 0 then (if lossB x y k < 0 then 0 else lossB x y k) else 0
def lsC (x : XLattice) (y : XLexicon) (k : Int) : Int := if codeB x y k = 0 then (if lossB x y k < 0 then 3 else 0) else codeB x y k
def lwO (x : XLattice) (y : XLexicon) : Option Nat := (List.range 30).find? fun i => lossB x y ((i + 1 : Nat) : Int) == 0
def lwN (x : XLattice) (y : XLexicon) : Int := if validLt x && validLx y then (match lwO x y with | some i => ((i + 1 : Nat) : Int) | none => 0) else 0
def lwC (x : XLattice) (y : XLexicon) : Int := if validLt x && validLx y then (match lwO x y with | some _ => 0 | none => 3) else 1
end Go.Proofs.YtcikndmmbfompaaGreatDoor
namespace Go.Proofs.YtcikndmmbfompaaGreatDoor
open Go.RowKit Go.Sort
attribute [local go_sem ↓] Go.wp_at_zero Go.wp_at_succ

theorem sumF_eq {f : DFound} (h0 : 0 ≤ f.path) (h1 : f.path ≤ 20000000) (h2 : 0 ≤ f.own_) (h3 : f.own_ ≤ 1000000) : sumF f = f.path + f.own_ := IntWalk.i64_in _ (by show -9223372036854775808 ≤ f.path + f.own_ ∧ f.path + f.own_ ≤ 9223372036854775807; omega)
theorem lwO_all {x : XLattice} {y : XLexicon} (h : ∀ j, j < 30 → lossB x y ((j + 1 : Nat) : Int) ≠ 0) : lwO x y = none := by
  unfold lwO
  rw [List.find?_eq_none]
  intro i hi
  have := h i (by simpa using hi)
  simpa using this
theorem lwO_at {x : XLattice} {y : XLexicon} {k : Nat} (hk : k < 30) (h : ∀ j, j < k → lossB x y ((j + 1 : Nat) : Int) ≠ 0) (h0 : lossB x y ((k + 1 : Nat) : Int) = 0) : lwO x y = some k := by
  unfold lwO
  rw [List.find?_eq_some_iff_append]
  refine ⟨by simpa using h0, List.range k, (List.range (30 - (k + 1))).map (k + 1 + ·), ?_, fun a ha => by have := h a (by simpa using ha); simpa using this⟩
  have e : 30 = k + (30 - k) := by omega
  rw [e, List.range_add, show k + (30 - k) - (k + 1) = 30 - k - 1 by omega]
  congr 1
  obtain ⟨d, hd⟩ : ∃ d, 30 - k = d + 1 := ⟨30 - k - 1, by omega⟩
  rw [hd, List.range_succ_eq_map, List.map_cons, List.map_map]
  simp only [Nat.add_zero, Nat.add_sub_cancel]
  congr 1
  refine List.map_congr_left fun a _ => ?_
  simp only [Function.comp]; omega
set_option maxHeartbeats 4000000 in
set_option maxRecDepth 100000 in
theorem l17Loss_any (p1 p2 : Nat) (v1 v2 : Value) (N m : Nat) (x : List DEdge) (y : XLexicon) (w : World) (hp0 : w.cell? ⟨p1, 0, none⟩ = some (.int .i64 N)) (hp1 : w.cell? ⟨p1, 1, none⟩ = some v1) (hq0 : w.cell? ⟨p2, 0, none⟩ = some v2) (h : Arr eEdge w v1 x) (hY : Arr eEntry w v2 y) (oky : okLexicon y) (gy : goodLexicon y) (hv : validLt ((N : Int), x) = true) (hvy : validLx y = true) (hm1 : 1 ≤ m) (hm : m ≤ 30) :
    Calls Tryz.prog 17 #[.pointer (some ⟨p1, 0, none⟩), .pointer (some ⟨p2, 0, none⟩), .int .i64 m] w (Ret (.int .i64 (lossB ((N : Int), x) y m)) w) := by
  obtain ⟨o, ho⟩ : ∃ o, bwO ((N : Int), x) y m = o := ⟨_, rfl⟩
  have CW := l17Word_any p1 p2 v1 v2 N m x y w hp0 hp1 hq0 h hY oky gy hv hm1 hm o ho
  cases o with
  | none =>
    have HZ := hid (loss_none ho)
    simp only [Option.getD_none, Option.isSome_none] at CW
    clear ho
    go_enter Tryz.func17, Tryz.ntmps17
    go_wp2_with (go_at_call 15; refine CW.mono ?_; rintro e w2 ⟨rfl, hb⟩; unfold vF)
    go_ret
    exact ret_int HZ.out.symm (base1 hb)
  | some f =>
    obtain ⟨b, t, hF, hL, _, f0, f1, f2, f3, g0, g1, g2, g3⟩ := loss_some hv hvy ho
    have HL := hid hL
    have hsf := sumF_eq f0 f1 f2 f3
    have hsb := sumF_eq g0 g1 g2 g3
    obtain ⟨sf, hsf2⟩ : ∃ sf, sf = sumF f := ⟨_, rfl⟩
    obtain ⟨sb, hsb2⟩ : ∃ sb, sb = sumF b := ⟨_, rfl⟩
    have HS := hid (And.intro (hsf2.trans hsf) (hsb2.trans hsb))
    have q0 : 0 ≤ sf := by omega
    have q1 : sf ≤ 21000000 := by omega
    have q2 : 0 ≤ sb := by omega
    have q3 : sb ≤ 21000000 := by omega
    have CS1 := fun w' => l16Sum_any f w'
    have CS2 := fun w' => l16Sum_any b w'
    rw [← hsf2] at CS1
    rw [← hsb2] at CS2
    have CA := fun w' (hb : Below w.heap.size w w') => l16All_any p1 p2 N v1 x v2 y w' (cell_later hb hp0) (cell_later hb hp1) (h.below hb) hv (cell_later hb hq0) (hY.below hb) hvy
    rw [hF] at CA
    simp only [Option.getD_some, Option.isSome_some] at CW
    have HT : Hid ((b :: t).length = t.length + 1) := hid rfl
    have hll := findAll_len ((N : Int), x) y
    have hly := valid_len hvy
    rw [hF] at hll
    simp only [List.length_cons] at hll
    clear ho hF hL hsf hsb hsf2 hsb2
    go_enter Tryz.func17, Tryz.ntmps17
    go_wp2_with fail
    refine CW.mono ?_
    rintro e w2 ⟨rfl, hb⟩
    unfold vF
    go_wp2_with fail
    refine (CS1 _).mono ?_
    rintro e w3 ⟨rfl, hb3⟩
    have hb4 : Below w.heap.size w w3 := baseB1 hb hb3
    go_wp2_with fail
    refine (CA w3 hb4).mono ?_
    rintro e w4 ⟨u, rfl, ho4, hb5⟩
    have hb6 := hb4.trans (hb5.mono hb4.size)
    obtain ⟨g, cap, rfl, hBg, hg⟩ := ho4.shape.resolve_left (fun h => by have := h.2; cases this)
    obtain ⟨c0, c1, c2⟩ := eFound_cells (own_cells ho4 rfl).1 (k := 0) (x := b) rfl
    simp only [Nat.zero_mul, Nat.zero_add] at c0 c1 c2
    have hl1 : (0 : Int) < ((b :: t).length : Int) := by simp only [List.length_cons]; omega
    have hl2 : 0 < (b :: t).length := by simp
    generalize (b :: t).length = ln at hl1 hl2 ⊢
    go_wp2_with fail
    refine (CS2 _).mono ?_
    rintro e w7 ⟨rfl, hb7⟩
    go_wp2_with fail
    go_ret
    exact ret_int (by rw [HL.out, HS.out.1, HS.out.2]) (hb6.trans (hb7.mono hb6.size))
set_option maxHeartbeats 4000000 in
set_option maxRecDepth 100000 in
theorem implBeamLoss_any (v1 : Value) (x : XLattice) (v2 : Value) (y : XLexicon) (k : Int) (w : World) {lo1 hi1 lo2 hi2 : Nat} (h1 : rLattice.at_ lo1 hi1 w v1 x) (h2 : rLexicon.at_ lo2 hi2 w v2 y) (ok1 : okLattice x) (ok2 : okLexicon y) (g1 : goodLattice x) (g2 : goodLexicon y) :
    Calls Tryz.prog 22 #[v1, v2, .int .i64 k] w (Ret (.tuple #[.int .i64 (lsN x y k), .int .i64 (lsC x y k)]) w) := by
  obtain ⟨u1, rfl, h1⟩ := h1
  obtain ⟨u2, rfl, h2⟩ := h2
  replace h1 := ArrIn.arr h1
  replace h2 := ArrIn.arr h2
  obtain ⟨n, x⟩ := x
  obtain ⟨a1, k1, hu⟩ := h1.isSlice
  subst hu
  obtain ⟨a2, k2, hu⟩ := h2.isSlice
  subst hu
  simp only at h1
  obtain ⟨W, hW⟩ : ∃ u, u = ((w.alloc (.cells #[.int .i64 n, .slice a1 x.length k1] 33)).alloc (.cells #[.slice a2 y.length k2] 37)) := ⟨_, rfl⟩
  have hbW : Below w.heap.size w W := by rw [hW]; exact belowA2 _ _ _
  have q1 : Box W (w.heap.size) #[.int .i64 n, .slice a1 x.length k1] 33 := by
    have hq := Box.new w #[.int .i64 n, .slice a1 x.length k1] 33
    rw [hW]
    exact (hq.alloc _)
  have q2 : Box W (w.heap.size + 1) #[.slice a2 y.length k2] 37 := by
    have hq := Box.new (w.alloc (.cells #[.int .i64 n, .slice a1 x.length k1] 33)) #[.slice a2 y.length k2] 37
    simp at hq
    rw [hW]
    exact hq
  obtain ⟨p1, hp1⟩ : ∃ p, p = w.heap.size := ⟨_, rfl⟩
  rw [← hp1] at q1
  have hge1 : w.heap.size ≤ p1 := by omega
  obtain ⟨p2, hp2⟩ : ∃ p, p = w.heap.size + 1 := ⟨_, rfl⟩
  rw [← hp2] at q2
  have hge2 : w.heap.size ≤ p2 := by omega
  have hlW : w.heap.size ≤ W.heap.size := hbW.size
  have hlp1 : p1 < W.heap.size := q1.lt
  have hlp2 : p2 < W.heap.size := q2.lt
  have hne12 : p1 ≠ p2 := by omega
  have HP1 := hid hp1
  have HP2 := hid hp2
  have HW := hid hW
  clear hW hp1 hp2
  have hA := h1.below hbW
  have hB := h2.below hbW
  have m10 := q1.cell (j := 0) rfl
  have m11 := q1.cell (j := 1) rfl
  have m20 := q2.cell (j := 0) rfl
  have finish : ∀ (w' : World) (a c : Int), Hid (lsN (n, x) y k = a ∧ lsC (n, x) y k = c) → Below w.heap.size w w' → Ret (.tuple #[.int .i64 (lsN (n, x) y k), .int .i64 (lsC (n, x) y k)]) w (.returned (.tuple #[.int .i64 a, .int .i64 c])) w' := by
    intro w' a c hz hb
    rw [hz.out.1, hz.out.2]
    exact ⟨rfl, hb⟩
  have CW := implBeamWord_any (.agg #[.int .i64 n, .slice a1 x.length k1]) (n, x) (.agg #[.slice a2 y.length k2]) y k W (show rLattice.at_ 0 W.heap.size W _ (n, x) from ⟨_, rfl, hA.in_⟩) (show rLexicon.at_ 0 W.heap.size W _ y from ⟨_, rfl, hB.in_⟩) ok1 ok2 g1 g2
  rcases Decidable.em (¬ bwC (n, x) y k = 0) with hcb | hcb
  · have HZ : Hid (lsN (n, x) y k = 0 ∧ lsC (n, x) y k = bwC (n, x) y k) := by
      show _ ∧ _
      unfold bwC at hcb ⊢
      unfold lsN lsC
      by_cases h0 : codeB (n, x) y k = 0
      · rw [if_pos h0] at hcb ⊢
        rw [if_pos h0, if_pos h0]
        cases ho : bwO (n, x) y k with
        | some f => rw [ho] at hcb; simp at hcb
        | none => rw [loss_none ho]; simp
      · rw [if_neg h0, if_neg h0, if_neg h0]; exact ⟨rfl, rfl⟩
    obtain ⟨cb, hcbd⟩ : ∃ cb, cb = bwC (n, x) y k := ⟨_, rfl⟩
    rw [← hcbd] at CW HZ hcb
    have hcd : (cb == 0) = false := by simpa using hcb
    generalize bwW (n, x) y k = ff at CW
    clear hcbd
    go_enter Tryz.func22, Tryz.ntmps22
    go_wp2_with fail
    rw [← HP2.out, ← HP1.out, ← HW.out]
    refine CW.mono ?_
    rintro e w3 ⟨rfl, hb⟩
    go_wp2_with fail
    go_ret2
    exact finish _ _ _ HZ (hbW.trans ((base1 hb).mono hlW))
  · replace hcb := Decidable.not_not.1 hcb
    rw [hcb] at CW
    have h0 : codeB (n, x) y k = 0 := by
      by_cases h0 : codeB (n, x) y k = 0
      · exact h0
      · unfold bwC at hcb; rw [if_neg h0] at hcb; exact hcb
    obtain ⟨f, hbo⟩ : ∃ f, bwO (n, x) y k = some f := by
      unfold bwC at hcb
      rw [if_pos h0] at hcb
      cases ho : bwO (n, x) y k with
      | some f => exact ⟨f, rfl⟩
      | none => rw [ho] at hcb; simp at hcb
    have hbw : bwW (n, x) y k = f := by unfold bwW; rw [if_pos h0, hbo]; rfl
    rw [hbw] at CW
    obtain ⟨hv, hvy, kk1, kk2⟩ := codeB_0 h0
    obtain ⟨b1, b2, b3⟩ := valid_bd hv
    obtain ⟨N, rfl⟩ : ∃ N : Nat, n = N := ⟨n.toNat, by omega⟩
    obtain ⟨m, rfl⟩ : ∃ m : Nat, k = m := ⟨k.toNat, by omega⟩
    obtain ⟨b, t, hF, hL, hle, f0, f1, f2, f3, g0, g1', g2', g3⟩ := loss_some hv hvy hbo
    have HZ : Hid (lsN ((N : Int), x) y (m : Int) = f.path + f.own_ - b.path - b.own_ ∧ lsC ((N : Int), x) y (m : Int) = 0) := by
      show _ ∧ _
      unfold lsN lsC
      rw [if_pos h0, if_pos h0, if_neg (by omega), if_neg (by omega), hL]
      exact ⟨by omega, rfl⟩
    have CA := fun w' (hb : Below W.heap.size W w') => readable_any N _ x _ y w' (hA.below hb) hv (hB.below hb) hvy
    rw [hF] at CA
    have hll := findAll_len ((N : Int), x) y
    have hly := valid_len hvy
    rw [hF] at hll
    simp only [List.length_cons] at hll
    clear hcb h0 hbo hbw hF hL
    go_enter Tryz.func22, Tryz.ntmps22
    go_wp2_with fail
    rw [← HP2.out, ← HP1.out, ← HW.out]
    refine CW.mono ?_
    rintro e w3 ⟨rfl, hb⟩
    obtain ⟨w5, hw5⟩ : ∃ w5, w5 = w3.alloc (.cells #[.string f.word, .int .i64 f.path, .int .i64 f.own_] 48) := ⟨_, rfl⟩
    have hb35 : Below w3.heap.size w3 w5 := by rw [hw5]; exact below_alloc _ _
    obtain ⟨pf, hpf⟩ : ∃ pf, pf = w3.heap.size := ⟨_, rfl⟩
    have bF : Box w5 pf #[.string f.word, .int .i64 f.path, .int .i64 f.own_] 48 := by rw [hw5, hpf]; exact Box.new _ _ _
    have hb5 : Below W.heap.size W w5 := hb.trans (hb35.mono hb.size)
    have s10 := cell_later hb5 m10
    have s11 := cell_later hb5 m11
    have s20 := cell_later hb5 m20
    have e10 := cell_alloc (cell_later hb m10) (.cells #[.string f.word, .int .i64 f.path, .int .i64 f.own_] 48)
    have e11 := cell_alloc (cell_later hb m11) (.cells #[.string f.word, .int .i64 f.path, .int .i64 f.own_] 48)
    have e20 := cell_alloc (cell_later hb m20) (.cells #[.string f.word, .int .i64 f.path, .int .i64 f.own_] 48)
    have HW5 := hid hw5
    have HPF := hid hpf
    clear hw5 hpf
    go_wp2_with fail
    rw [← HW5.out]
    try rw [← HPF.out]
    refine (CA w5 hb5).mono ?_
    rintro e w6 ⟨u, rfl, ho, hb6⟩
    have hb7 := hb5.trans (hb6.mono hb5.size)
    obtain ⟨g, cap, rfl, hBg, hg⟩ := ho.shape.resolve_left (fun h => by have := h.2; cases this)
    obtain ⟨c0, c1, c2⟩ := eFound_cells (own_cells ho rfl).1 (k := 0) (x := b) rfl
    simp only [Nat.zero_mul, Nat.zero_add] at c0 c1 c2
    have z1 := (bF.later hb6).cell (j := 1) rfl
    have z2 := (bF.later hb6).cell (j := 2) rfl
    have zz1 := cell_alloc z1 (.cells #[.string b.word, .int .i64 b.path, .int .i64 b.own_] 48)
    have zz2 := cell_alloc z2 (.cells #[.string b.word, .int .i64 b.path, .int .i64 b.own_] 48)
    have hl1 : (0 : Int) < ((b :: t).length : Int) := by simp only [List.length_cons]; omega
    have hl2 : 0 < (b :: t).length := by simp
    generalize (b :: t).length = ln at hl1 hl2 ⊢
    clear m10 m11 m20 e10 e11 e20 s10 s11 s20
    go_wp2_with fail
    go_ret2
    exact finish _ _ _ HZ (hbW.trans ((base1 hb7).mono hlW))
end Go.Proofs.YtcikndmmbfompaaGreatDoor
