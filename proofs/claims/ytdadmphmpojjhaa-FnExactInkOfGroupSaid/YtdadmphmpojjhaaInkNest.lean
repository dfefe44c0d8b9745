/- Ink that a call puts together, stroke by stroke. Plain lemmas. -/
import Derived.Test.YtdadmphmpojjhaaInkG2
import Derived.Test.YtdadmphmpojjhaaAppO
namespace Go.Proofs.Ytdadmphmpojjhaa
open Go.RowKit

abbrev NestG (lo hi : Nat) (u : Value) (vs : List SV) (X : XInk) (w : World) : Prop := NestSt ePoint 59 57 lo hi u vs X w
theorem nestG_emp {lo hi : Nat} (w : World) : NestG lo hi (.slice none 0 0) [] [] w :=
  ⟨⟨Own.nil _ _ _, fun g hg => by simp [Value.ownBlock] at hg⟩, rfl, fun i s x hs => by simp at hs, fun i j s t g hs => by simp at hs⟩
theorem nestG_chg {lo hi a b : Nat} {u : Value} {vs : List SV} {Y : XInk} {w w' : World} (h : NestG lo hi u vs Y w) (hc : Chg a b w w') (hd : b ≤ lo ∨ hi ≤ a) : NestG lo hi u vs Y w' :=
  ⟨h.outer.chg hc hd, h.len, fun i s x hs hx => (h.inner i s x hs hx).chg hc hd, h.apart⟩
theorem nestG_below {lo hi : Nat} {u : Value} {vs : List SV} {Y : XInk} {w w' : World} (h : NestG lo hi u vs Y w) (hb : Below w.heap.size w w') : NestG lo hi u vs Y w' :=
  nestG_chg h (Chg.of_below (a := 0) (b := 0) hb) (.inl (Nat.zero_le _))
theorem nestG_mono {lo hi lo' hi' : Nat} {u : Value} {vs : List SV} {Y : XInk} {w : World} (h : NestG lo hi u vs Y w) (hl : lo' ≤ lo) (hh : hi ≤ hi') : NestG lo' hi' u vs Y w :=
  ⟨h.outer.mono hl hh, h.len, fun i s x hs hx => (h.inner i s x hs hx).mono hl hh, h.apart⟩
theorem nestG_now {lo : Nat} {u : Value} {vs : List SV} {Y : XInk} {w w' : World} (h : NestG lo w.heap.size u vs Y w) (hb : Below w.heap.size w w') : NestG lo w'.heap.size u vs Y w' :=
  nestG_mono (nestG_below h hb) (Nat.le_refl _) hb.size
theorem nestG_outer {lo hi : Nat} {u : Value} {vs : List SV} {Y : XInk} {w w' : World} (h : NestG lo hi u vs Y w) (hb : Below w.heap.size w w') : Own eS1 57 lo w' u vs := (nestG_below h hb).outer.1
def NewG (lo : Nat) (w : World) (s : SV) (r : XStroke) : Prop := OwnIn ePoint 59 lo w.heap.size w s.val r
theorem NewG.below {lo : Nat} {w w' : World} {s : SV} {r : XStroke} (h : NewG lo w s r) (hb : Below w.heap.size w w') : NewG lo w' s r :=
  (OwnIn.chg h (Chg.of_below (a := 0) (b := 0) hb) (.inl (Nat.zero_le _))).mono (Nat.le_refl _) hb.size
theorem newG_of {lo : Nat} {w1 w2 : World} {u : Value} {r : XStroke} (ho : Own ePoint 59 w1.heap.size w2 u r) (hle : lo ≤ w1.heap.size) : ∃ s : SV, u = s.val ∧ NewG lo w2 s r := by
  obtain ⟨a, c, hu⟩ := ho.isSlice
  exact ⟨⟨a, r.length, c⟩, hu, by rw [hu] at ho; exact ho.in_.mono hle (Nat.le_refl _)⟩
theorem nestG_push {lo : Nat} {u u' : Value} {vs : List SV} {X : XInk} {w w1 w2 : World} {s : SV} {r : XStroke} (h : NestG lo w.heap.size u vs X w) (hlo : lo ≤ w.heap.size) (hb : Below w.heap.size w w1)
    (hr : NewG w.heap.size w1 s r) (ho : Own eS1 57 lo w2 u' (vs ++ [s])) (hg : w1.grownBy w2 u.ownBlock) : NestG lo w2.heap.size u' (vs ++ [s]) (X ++ [r]) w2 := by
  have hl := h.len
  have hout := (nestG_below h hb).outer
  have hty := own_typed hout.1 hg
  have hsz : w.heap.size ≤ w2.heap.size := Nat.le_trans hb.size hg.size
  refine ⟨ho.in_, by simp [hl], fun i a x ha hx => ?_, fun i j a b q ha hbb hq1 hq2 => ?_⟩
  · by_cases hi : i < vs.length
    · rw [List.getElem?_append_left hi] at ha
      rw [List.getElem?_append_left (by omega)] at hx
      exact (((nestG_below h hb).inner i a x ha hx).typed hty (by rfl)).mono (Nat.le_refl _) hsz
    · have e : i = vs.length := by have := (List.getElem?_eq_some_iff.1 ha).1; simp at this; omega
      subst e
      simp at ha
      subst ha
      rw [hl] at hx
      simp at hx
      subst hx
      exact (OwnIn.typed hr hty (by rfl)).mono hlo hg.size
  · have key : ∀ (j : Nat) (b : SV) (q : Nat), vs[j]? = some b → b.blk = some q → s.blk = some q → False := fun j b q hj h1 h2 => by
      have hj2 : j < X.length := by rw [← hl]; exact (List.getElem?_eq_some_iff.1 hj).1
      have h3 := (h.inner j b _ hj (List.getElem?_eq_getElem hj2)).2 q h1
      have h4 := (World.ownsRow.lt hr.1 q h2).1
      omega
    have split : ∀ (i : Nat) (a : SV), (vs ++ [s])[i]? = some a → (i < vs.length ∧ vs[i]? = some a) ∨ (i = vs.length ∧ a = s) := fun i a ha => by
      by_cases hi : i < vs.length
      · rw [List.getElem?_append_left hi] at ha; exact .inl ⟨hi, ha⟩
      · have e : i = vs.length := by have := (List.getElem?_eq_some_iff.1 ha).1; simp at this; omega
        subst e
        simp at ha
        exact .inr ⟨rfl, ha.symm⟩
    rcases split i a ha with ⟨h1, h2⟩ | ⟨h1, rfl⟩
    · rcases split j b hbb with ⟨h3, h4⟩ | ⟨h3, rfl⟩
      · exact h.apart i j a b q h2 h4 hq1 hq2
      · exact (key i a q h2 hq1 hq2).elim
    · rcases split j b hbb with ⟨h3, h4⟩ | ⟨h3, _⟩
      · exact (key j b q h4 hq2 hq1).elim
      · rw [h1, h3]
def FinG (q : Nat) (U : World) (X : XInk) (w : World) : Prop := ∃ uo vs, Box w q #[uo] 30 ∧ NestG (q + 1) w.heap.size uo vs X w ∧ Below q U w
theorem FinG.below {q : Nat} {U : World} {X : XInk} {w w' : World} (h : FinG q U X w) (hb : Below w.heap.size w w') : FinG q U X w' := by
  obtain ⟨uo, vs, h1, h2, h3⟩ := h
  exact ⟨uo, vs, h1.later hb, nestG_now h2 hb, h3.trans (hb.mono (Nat.le_of_lt h1.lt))⟩
theorem infStrokeG : (Try.prog.info? 57).map (fun i => (i.zero, i.size, i.bytes)) = some (some (.agg #[.slice none 0 0]), eS1.sz, 24) := by kernel_rfl
theorem grownBoxG {w w' : World} {q : Nat} {cs : Array Value} {T : TypeId} {r : Option Nat} (h : Box w q cs T) (hg : w.grownBy w' r) (hne : r ≠ some q) : Box w' q cs T := (hg.block q h.lt (fun e => hne e.symm)).trans h
/-- the strokes that are chosen among the first k -/
def inkTo (X : XInk) (S : List Int) (k : Nat) : XInk := (selN S k).map fun k => (X[k]?).getD []
theorem inkTo_t {X : XInk} {S : List Int} {k : Nat} {x : XStroke} (hx : X[k]? = some x) (h : (k : Int) ∈ S) : inkTo X S k ++ [x] = inkTo X S (k + 1) := by
  unfold inkTo selN
  rw [List.range_succ, List.filter_append, List.map_append]
  simp [h, hx]
theorem inkTo_f {X : XInk} {S : List Int} {k : Nat} (h : ¬ (k : Int) ∈ S) : inkTo X S k = inkTo X S (k + 1) := by
  unfold inkTo selN
  rw [List.range_succ, List.filter_append, List.map_append]
  simp [h]
theorem inkTo_len (X : XInk) (S : List Int) (k : Nat) : (inkTo X S k).length ≤ k := by
  unfold inkTo selN
  rw [List.length_map]
  exact Nat.le_trans (List.length_filter_le _ _) (by simp)
end Go.Proofs.Ytdadmphmpojjhaa
