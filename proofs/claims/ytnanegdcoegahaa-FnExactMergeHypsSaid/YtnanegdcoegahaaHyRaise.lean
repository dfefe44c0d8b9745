/- Hypotheses with greater costs: what the calls return. -/
import Derived.Test.YtnanegdcoegahaaHyFns
import Derived.Deep.AppendLies
import Derived.Deep.DrawnRows
namespace Go.Proofs.Ytnanegdcoegahaa
open Go.RowKit
attribute [local go_sem ↓] Go.wp_at_zero Go.wp_at_succ

theorem infHyp : (Try.prog.info? 130).map (fun i => (i.zero, i.size, i.bytes)) = some (some (.agg #[.string ByteArray.empty, .int .i64 0]), eHyp.sz, 24) := by kernel_rfl

def raiseE (d : Int) (e : DHyp) : DHyp := ⟨e.label, e.cost + d⟩
def raiseOk (x : List DHyp) (d : Int) : Bool := x.all fun e => decide (e.cost + d ≤ 1000000)
def raiseHy (x : List DHyp) (d : Int) : List DHyp := if validHy x && inB d 0 1000000 && raiseOk x d then x.map (raiseE d) else []
def raiseC (x : List DHyp) (d : Int) : Int := if validHy x then (if inB d 0 1000000 && raiseOk x d then 0 else 2) else 1
theorem okRaise {x : List DHyp} {d : Int} (h : okHypS x) : okHypS (raiseHy x d) := by
  unfold okHypS at *
  unfold raiseHy
  split
  · simpa using h
  · simp
theorem cmpI_add (a b d : Int) : cmpI (a + d) (b + d) = cmpI a b := by
  unfold cmpI
  by_cases h1 : a < b
  · rw [if_pos h1, if_pos (by omega)]
  · rw [if_neg h1, if_neg (by omega)]
    by_cases h2 : b < a
    · rw [if_pos h2, if_pos (by omega)]
    · rw [if_neg h2, if_neg (by omega)]
theorem ordH_raise (a b : DHyp) (d : Int) : ordH (raiseE d a) (raiseE d b) = ordH a b := by
  unfold ordH raiseE
  simp only
  rw [cmpI_add]
  by_cases h : a.cost = b.cost
  · rw [if_neg (by simp [h]), if_neg (by simp [h])]
  · rw [if_pos (by omega), if_pos h]
theorem newAt_raise (x : List DHyp) (k : Nat) (e : DHyp) (d : Int) : newAt (x.map (raiseE d)) k (raiseE d e) = newAt x k e := by
  unfold newAt
  rw [← List.map_take, List.all_map]
  rfl
theorem ordAt_raise (x : List DHyp) (k : Nat) (e : DHyp) (d : Int) : ordAtH (x.map (raiseE d)) k (raiseE d e) = ordAtH x k e := by
  unfold ordAtH
  cases k with
  | zero => rfl
  | succ k =>
    rw [List.getElem?_map]
    cases h : x[k + 1 - 1]? with
    | none => simp
    | some p => simp [ordH_raise]
theorem valid_raise {x : List DHyp} (hv : validHy x = true) {d : Int} (hd : 0 ≤ d) : validHy (x.map (raiseE d)) = raiseOk x d := by
  have hl : x.length ≤ 8 := by simp [validHy] at hv; exact hv.2
  cases ho : raiseOk x d with
  | true =>
    rw [allHy_all]
    · simpa using hl
    · intro k e' hk he'
      rw [List.getElem?_map] at he'
      obtain ⟨e, he, rfl⟩ := Option.map_eq_some_iff.1 he'
      have h1 : hyOk x k e = true := by
        cases h : hyOk x k e with
        | true => rfl
        | false => rw [allHy_at he h] at hv; cases hv
      have h2 : decide (e.cost + d ≤ 1000000) = true := by
        rw [raiseOk, List.all_eq_true] at ho
        exact ho e (List.mem_of_getElem? he)
      simp only [hyOk, Bool.and_eq_true] at h1 ⊢
      rw [newAt_raise, ordAt_raise]
      have hb := inB_true.1 h1.1.1.2
      refine ⟨⟨⟨h1.1.1.1, inB_true.2 ⟨?_, by simpa [raiseE] using h2⟩⟩, h1.1.2⟩, h1.2⟩
      show 0 ≤ e.cost + d
      omega
  | false =>
    rw [raiseOk, List.all_eq_false] at ho
    obtain ⟨e, he, hf⟩ := ho
    obtain ⟨k, hk⟩ := List.mem_iff_getElem?.1 he
    refine allHy_at (k := k) (e := raiseE d e) (by rw [List.getElem?_map, hk]; rfl) ?_
    have : inB (e.cost + d) 0 1000000 = false := inB_false.2 (.inr (by simpa using hf))
    simp [hyOk, raiseE, this]
theorem raise_at {x : List DHyp} {d : Int} {k : Nat} {e : DHyp} (h : x[k]? = some e) (hf : 1000000 < e.cost + d) : raiseOk x d = false := by
  rw [raiseOk, List.all_eq_false]
  exact ⟨e, List.mem_of_getElem? h, by simp; omega⟩
theorem raise_all {x : List DHyp} {d : Int} (h : ∀ j a, j < x.length → x[j]? = some a → a.cost + d ≤ 1000000) : raiseOk x d = true := by
  rw [raiseOk, List.all_eq_true]
  intro a ha
  obtain ⟨j, hj⟩ := List.mem_iff_getElem?.1 ha
  simpa using h j a (List.getElem?_eq_some_iff.1 hj).1 hj
theorem take_raise {x : List DHyp} {d : Int} {k : Nat} {e : DHyp} (h : x[k]? = some e) : (x.take (k + 1)).map (raiseE d) = (x.take k).map (raiseE d) ++ [raiseE d e] := by
  rw [List.take_add_one, h]; simp
theorem wf_small {n : Int} (h0 : -9000000000000000000 ≤ n) (h1 : n ≤ 9000000000000000000) : (Lit.int .i64 n).wf = true := by
  have e1 : IntKind.i64.min = -9223372036854775808 := by decide
  have e2 : IntKind.i64.max = 9223372036854775807 := by decide
  rw [Lit.wf, Bool.and_eq_true, decide_eq_true_iff, decide_eq_true_iff, e1, e2]
  omega

end Go.Proofs.Ytnanegdcoegahaa
