/- By how much the word of a beam costs more than the best one. Plain lemmas, no program. -/
import Derived.Test.YtnhmailnnggmjabGreatRdWord
import Derived.Test.YtnhmailnnggmjabGreatRdLossP
import Derived.Test.YtnhmailnnggmjabGreatRdImp
namespace Go.Proofs.YtnhmailnnggmjabGreat

theorem minL_mem : ∀ {L : List DFound} {b : DFound}, minL L = some b → b ∈ L := by
  have key : ∀ (L : List DFound) (o : Option DFound) (b : DFound), L.foldl minS o = some b → b ∈ L ∨ o = some b := by
    intro L
    induction L with
    | nil => intro o b h; exact .inr h
    | cons a L ih =>
      intro o b h
      rcases ih _ _ h with h1 | h1
      · exact .inl (List.mem_cons_of_mem _ h1)
      · unfold minS at h1
        cases o with
        | none => simp at h1; exact .inl (by rw [h1]; exact List.mem_cons_self)
        | some c =>
          simp only [Option.some.injEq] at h1
          split at h1
          · exact .inl (by rw [h1]; exact List.mem_cons_self)
          · exact .inr (by rw [h1])
  intro L b h
  rcases key L none b h with h1 | h1
  · exact h1
  · cases h1
theorem fnd_of {y : XLexicon} {RS : List DReading} {f : DFound} (h : f ∈ fndL y RS) : ∃ r ∈ RS, ∃ e ∈ y, r.text = e.word ∧ f = ⟨r.text, r.cost, e.cost⟩ := by
  obtain ⟨r, hr, h1⟩ := List.mem_filterMap.1 h
  unfold fndE at h1
  cases hf : findLx y r.text with
  | none => rw [hf] at h1; cases h1
  | some k =>
    rw [hf] at h1
    obtain ⟨e, he, hq⟩ := find_get hf
    simp only [he, Option.map_some, Option.some.injEq] at h1
    unfold eqS at hq
    rw [beq_iff_eq] at hq
    exact ⟨r, hr, e, List.mem_of_getElem? he, (ba_eq hq).symm, h1.symm⟩
theorem ent_cost {y : XLexicon} (hv : validLx y = true) {e : DEntry} (he : e ∈ y) : 0 ≤ e.cost ∧ e.cost ≤ 1000000 := by
  obtain ⟨k, hk⟩ := List.mem_iff_getElem?.1 he
  have h1 : inB e.cost 0 1000000 = true := by
    cases hb : inB e.cost 0 1000000 with
    | true => rfl
    | false => rw [validLx_at hk (by simp [entOk, hb])] at hv; cases hv
  exact inB_true.1 h1
theorem findAll_perm (x : XLattice) (y : XLexicon) : (findAll x y).Perm (foundL x y) ∧ Up ltF (findAll x y) := by
  have key : ∀ (L A : List DFound), Up ltF A → (L.foldl (insE ltF) A).Perm (A ++ L) ∧ Up ltF (L.foldl (insE ltF) A) := by
    intro L
    induction L with
    | nil => intro A hA; simp only [List.foldl_nil, List.append_nil]; exact ⟨List.Perm.refl _, hA⟩
    | cons a L ih =>
      intro A hA
      obtain ⟨h1, h2⟩ := ih (insE ltF A a) (insE_up swoF hA a)
      refine ⟨h1.trans ?_, h2⟩
      exact ((insE_perm ltF A a).append_right L).trans (by simpa using List.perm_middle.symm)
  exact key (foundL x y) [] List.Pairwise.nil
def lossB (x : XLattice) (y : XLexicon) (k : Int) : Int := match bwO x y k, findAll x y with
  | some f, b :: _ => (f.path + f.own_) - (b.path + b.own_)
  | _, _ => -1
theorem loss_none {x : XLattice} {y : XLexicon} {k : Int} (h : bwO x y k = none) : lossB x y k = -1 := by unfold lossB; rw [h]
theorem textR_bd {N : Nat} {x : List DEdge} (hv : validLt ((N : Int), x) = true) (s : ByteArray) (h : textR ((N : Int), x) s < NW) : 0 ≤ textR ((N : Int), x) s ∧ textR ((N : Int), x) s ≤ 20000000 := by
  obtain ⟨b1, b2, b3⟩ := valid_bd hv
  have := okC_row (valid_good hv) s s.size (N - 1)
  have e : textR ((N : Int), x) s = rowC s x s.size (N - 1) := by unfold textR; simp
  rw [e] at h ⊢
  rcases this with h1 | h1
  · rw [h1] at h; exact absurd h (Int.lt_irrefl _)
  · omega
theorem loss_some {N m : Nat} {x : List DEdge} {y : XLexicon} (hv : validLt ((N : Int), x) = true) (hvy : validLx y = true) {f : DFound} (h : bwO ((N : Int), x) y m = some f) :
    ∃ b t, findAll ((N : Int), x) y = b :: t ∧ lossB ((N : Int), x) y m = (f.path + f.own_) - (b.path + b.own_) ∧ b.path + b.own_ ≤ f.path + f.own_ ∧ 0 ≤ f.path ∧ f.path ≤ 20000000 ∧ 0 ≤ f.own_ ∧ f.own_ ≤ 1000000 ∧ 0 ≤ b.path ∧ b.path ≤ 20000000 ∧ 0 ≤ b.own_ ∧ b.own_ ≤ 1000000 := by
  obtain ⟨b1, b2, b3⟩ := valid_bd hv
  have hf := minL_mem (show minL (fndL y (stB ((N : Int), x) y m (N - 1))) = some f from by rw [← h]; unfold bwO; simp)
  obtain ⟨r, hr, e, he, hw, rfl⟩ := fnd_of hf
  obtain ⟨c0, c1, c2⟩ := path_states (valid_good hv) (valid_rises hv) (by omega) (fun e he => by obtain ⟨k, hk⟩ := List.mem_iff_getElem?.1 he; exact valid_lab hv hk) m (begLx y) (beg0 y) (by intro q hq; unfold beg0 at hq; split at hq <;> simp at hq; subst hq; exact ⟨rfl, rfl⟩) (N - 1) r hr
  obtain ⟨d0, d1⟩ := ent_cost hvy he
  have hrow := c2 r.text (List.prefix_refl _)
  have ht : textR ((N : Int), x) e.word ≤ r.cost := by unfold textR; simp only [Int.toNat_natCast]; rw [← hw]; exact hrow
  have hNW : textR ((N : Int), x) e.word < NW := by rw [NW_eq]; omega
  have hin : (⟨e.word, textR ((N : Int), x) e.word, e.cost⟩ : DFound) ∈ foundL ((N : Int), x) y := List.mem_filterMap.2 ⟨e, he, by unfold found1; rw [if_pos hNW]⟩
  obtain ⟨hp, hu⟩ := findAll_perm ((N : Int), x) y
  have hin2 := hp.mem_iff.2 hin
  obtain ⟨t0, t1⟩ := textR_bd hv e.word hNW
  cases hF : findAll ((N : Int), x) y with
  | nil => rw [hF] at hin2; cases hin2
  | cons b t =>
    have hb : b ∈ foundL ((N : Int), x) y := hp.mem_iff.1 (by rw [hF]; exact List.mem_cons_self)
    obtain ⟨eb, heb, hb1⟩ := List.mem_filterMap.1 hb
    unfold found1 at hb1
    have hbt : textR ((N : Int), x) eb.word < NW := by
      by_cases hlt : textR ((N : Int), x) eb.word < NW
      · exact hlt
      · rw [if_neg hlt] at hb1; cases hb1
    rw [if_pos hbt] at hb1
    simp only [Option.some.injEq] at hb1
    subst hb1
    obtain ⟨g0, g1⟩ := ent_cost hvy heb
    obtain ⟨k0, k1⟩ := textR_bd hv eb.word hbt
    have hle : textR ((N : Int), x) eb.word + eb.cost ≤ textR ((N : Int), x) e.word + e.cost := by
      rw [hF] at hin2 hu
      rcases List.mem_cons.1 hin2 with h1 | h1
      · have hp := congrArg DFound.path h1
        have ho := congrArg DFound.own_ h1
        simp only at hp ho
        omega
      · have h2 := (List.pairwise_cons.1 hu).1 _ h1
        rw [ltF_bef] at h2
        unfold befR at h2
        have w1 : sumF ⟨e.word, textR ((N : Int), x) e.word, e.cost⟩ = textR ((N : Int), x) e.word + e.cost := IntWalk.i64_in _ (by show -9223372036854775808 ≤ textR ((N : Int), x) e.word + e.cost ∧ textR ((N : Int), x) e.word + e.cost ≤ 9223372036854775807; omega)
        have w2 : sumF ⟨eb.word, textR ((N : Int), x) eb.word, eb.cost⟩ = textR ((N : Int), x) eb.word + eb.cost := IntWalk.i64_in _ (by show -9223372036854775808 ≤ textR ((N : Int), x) eb.word + eb.cost ∧ textR ((N : Int), x) eb.word + eb.cost ≤ 9223372036854775807; omega)
        rw [w1, w2] at h2
        split at h2
        · omega
        · simp at h2; exact h2
    refine ⟨_, t, rfl, ?_, ?_, c0, ?_, d0, d1, k0, k1, g0, g1⟩
    · unfold lossB; rw [h, hF]
    · simp only; omega
    · simp only; omega
theorem loss_ge {N m : Nat} {x : List DEdge} {y : XLexicon} (hv : validLt ((N : Int), x) = true) (hvy : validLx y = true) {f : DFound} (h : bwO ((N : Int), x) y m = some f) : 0 ≤ lossB ((N : Int), x) y m := by
  obtain ⟨b, t, _, h2, h3, _⟩ := loss_some hv hvy h
  omega
def lsN (x : XLattice) (y : XLexicon) (k : Int) : Int := if codeB x y k = 0 then (if lossB x y k < 0 then 0 else lossB x y k) else 0
def lsC (x : XLattice) (y : XLexicon) (k : Int) : Int := if codeB x y k = 0 then (if lossB x y k < 0 then 3 else 0) else codeB x y k
def lwO (x : XLattice) (y : XLexicon) : Option Nat := (List.range 30).find? fun i => lossB x y ((i + 1 : Nat) : Int) == 0
def lwN (x : XLattice) (y : XLexicon) : Int := if validLt x && validLx y then (match lwO x y with | some i => ((i + 1 : Nat) : Int) | none => 0) else 0
def lwC (x : XLattice) (y : XLexicon) : Int := if validLt x && validLx y then (match lwO x y with | some _ => 0 | none => 3) else 1
end Go.Proofs.YtnhmailnnggmjabGreat
