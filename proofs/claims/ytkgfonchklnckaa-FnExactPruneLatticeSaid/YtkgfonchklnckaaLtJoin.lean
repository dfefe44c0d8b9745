/- Two lattices joined, and the reference's call that joins them. -/
import Derived.Test.YtkgfonchklnckaaLtPath
import Derived.Test.YtkgfonchklnckaaApp3
import Derived.Test.YtkgfonchklnckaaReg2
import Derived.Deep.AppendLies
namespace Go.Proofs.Ytkgfonchklnckaa
open Go.RowKit
attribute [local go_sem ↓] Go.wp_at_zero Go.wp_at_succ

def shiftE (d : Int) (e : DEdge) : DEdge := ⟨e.frm + d, e.to_ + d, e.label, e.cost⟩
def fullJ (a b : XLattice) : Bool := decide (20 < a.1 + b.1 - 1) || decide (200 < a.2.length + b.2.length)
def joinLt (a b : XLattice) : XLattice := if validLt a && validLt b && !fullJ a b then (a.1 + b.1 - 1, a.2 ++ b.2.map (shiftE (a.1 - 1))) else (0, [])
def joinC (a b : XLattice) : Int := if validLt a && validLt b then (if fullJ a b then 5 else 0) else 1
theorem okJoin {a b : XLattice} (_ : okLattice a) (_ : okLattice b) : okLattice (joinLt a b) := by
  unfold joinLt okLattice
  split
  · rename_i h
    simp [fullJ] at h
    simp; omega
  · simp
theorem infEdge : (Try.prog.info? 49).map (fun i => (i.zero, i.size, i.bytes)) = some (some (.agg #[.int .i64 0, .int .i64 0, .string ByteArray.empty, .int .i64 0]), eEdge.sz, 40) := by kernel_rfl
theorem rLt_new {w w' : World} {B : Nat} {u : Value} {n : Int} {x : List DEdge} (h : Own eEdge 49 B w' u x) (hB : w.heap.size ≤ B) : rLattice.own w.heap.size w'.heap.size w' (.agg #[.int .i64 n, u]) (n, x) :=
  ⟨u, rfl, (h.mono hB).in_⟩
theorem map_take_succ {α β : Type} (f : α → β) {x : List α} {k : Nat} {e : α} (h : x[k]? = some e) : (x.take (k + 1)).map f = (x.take k).map f ++ [f e] := by
  rw [List.take_add_one, h]; simp

set_option maxHeartbeats 4000000 in
theorem specJoinLattices_any (v1 : Value) (x : XLattice) (v2 : Value) (y : XLattice) (w : World) {lo1 hi1 lo2 hi2 : Nat} (h1 : rLattice.at_ lo1 hi1 w v1 x) (h2 : rLattice.at_ lo2 hi2 w v2 y) (ok1 : okLattice x) (ok2 : okLattice y) (g1 : goodLattice x) (g2 : goodLattice y) :
    Calls Try.prog 24 #[v1, v2] w (RetNew rLattice (joinLt x y) #[.int .i64 (joinC x y)] w) := by
  obtain ⟨u1, rfl, h1⟩ := h1
  obtain ⟨u2, rfl, h2⟩ := h2
  replace h1 := ArrIn.arr h1
  replace h2 := ArrIn.arr h2
  obtain ⟨n1, x⟩ := x
  obtain ⟨n2, y⟩ := y
  obtain ⟨a1, k1, hu⟩ := h1.isSlice
  subst hu
  obtain ⟨a2, k2, hu⟩ := h2.isSlice
  subst hu
  simp only at h1 h2
  have ok1' : x.length ≤ 1048576 := ok1
  have ok2' : y.length ≤ 1048576 := ok2
  obtain ⟨W, hW⟩ : ∃ W, W = ((w.alloc (.cells #[.int .i64 n1, .slice a1 x.length k1] 29)).alloc (.cells #[.int .i64 n2, .slice a2 y.length k2] 29)).alloc (.cells #[.int .i64 0, .slice none 0 0] 29) := ⟨_, rfl⟩
  have hbW : Below w.heap.size w W := by rw [hW]; exact (below_alloc _ _).trans (((below_alloc _ _).trans ((below_alloc _ _).mono (by simp))).mono (by simp))
  have q1 : Box W w.heap.size #[.int .i64 n1, .slice a1 x.length k1] 29 := by rw [hW]; exact ((Box.new w _ _).later (below_alloc _ _)).later (below_alloc _ _)
  have q2 : Box W (w.heap.size + 1) #[.int .i64 n2, .slice a2 y.length k2] 29 := by
    rw [hW]
    have := Box.new (w.alloc (.cells #[.int .i64 n1, .slice a1 x.length k1] 29)) #[.int .i64 n2, .slice a2 y.length k2] 29
    simp at this
    exact this.later (below_alloc _ _)
  have q3 : Box W (w.heap.size + 2) #[.int .i64 0, .slice none 0 0] 29 := by
    rw [hW]
    have := Box.new ((w.alloc (.cells #[.int .i64 n1, .slice a1 x.length k1] 29)).alloc (.cells #[.int .i64 n2, .slice a2 y.length k2] 29)) #[.int .i64 0, .slice none 0 0] 29
    simp at this
    exact this
  have hA := h1.below hbW
  have hB := h2.below hbW
  have hlt : w.heap.size ≤ W.heap.size := hbW.size
  obtain ⟨p1, hp1⟩ : ∃ p, p = w.heap.size := ⟨_, rfl⟩
  obtain ⟨p2, hp2⟩ : ∃ p, p = w.heap.size + 1 := ⟨_, rfl⟩
  obtain ⟨p3, hp3⟩ : ∃ p, p = w.heap.size + 1 + 1 := ⟨_, rfl⟩
  rw [← hp1] at q1
  rw [← hp2] at q2
  rw [← hp3] at q3
  have hge3 : w.heap.size ≤ p3 := by omega
  have HP1 := hid hp1
  have HP2 := hid hp2
  have HP3 := hid hp3
  clear hp1 hp2 hp3
  have HW := hid hW
  clear hW h1 h2
  have finish : ∀ (w' : World) (n : Int) (sa : Option Addr) (m sc : Nat) (z : List DEdge) (c : Int), Hid (joinLt (n1, x) (n2, y) = (n, z) ∧ joinC (n1, x) (n2, y) = c) → Own eEdge 49 w.heap.size w' (.slice sa m sc) z → Below w.heap.size w w' → RetNew rLattice (joinLt (n1, x) (n2, y)) #[.int .i64 (joinC (n1, x) (n2, y))] w (.returned (.tuple #[.agg #[.int .i64 n, .slice sa m sc], .int .i64 c])) w' := by
    intro w' n sa m sc z c hz ho hb
    rw [hz.out.1, hz.out.2]
    exact ⟨_, rfl, rLt_new ho (Nat.le_refl _), hb⟩
  cases hv1 : validLt (n1, x)
  · have HZ : Hid (joinLt (n1, x) (n2, y) = (0, []) ∧ joinC (n1, x) (n2, y) = 1) := by show _ ∧ _; simp [joinLt, joinC, hv1]
    go_enter Try.func24, Try.ntmps24
    go_wp2_with fail
    rw [← HP3.out, ← HP2.out, ← HP1.out, ← HW.out]
    refine (l15Ok_any _ n1 _ x _ (q1.cell (j := 0) rfl) (q1.cell (j := 1) rfl) hA ok1 g1).mono ?_
    rintro e w2 ⟨rfl, hb⟩
    rw [hv1]
    have q3' := q3.later hb
    have b0 := q3'.cell (j := 0) rfl
    have b1 := q3'.cell (j := 1) rfl
    have bf := q3'.free
    go_wp2_with fail
    refine bodyPost_ret (v := .tuple #[.agg #[.int .i64 0, .slice none 0 0], .int .i64 1]) (by simp [results, Try.results24, go_sem, b0, b1]) rfl (finish _ _ _ _ _ _ _ HZ (Own.nil _ _ _) ?_)
    exact ((hbW.trans (hb.mono hlt)).setCell hge3 _).setCell hge3 _
  cases hv2 : validLt (n2, y)
  · have HZ : Hid (joinLt (n1, x) (n2, y) = (0, []) ∧ joinC (n1, x) (n2, y) = 1) := by show _ ∧ _; simp [joinLt, joinC, hv1, hv2]
    go_enter Try.func24, Try.ntmps24
    go_wp2_with fail
    rw [← HP3.out, ← HP2.out, ← HP1.out, ← HW.out]
    refine (l15Ok_any _ n1 _ x _ (q1.cell (j := 0) rfl) (q1.cell (j := 1) rfl) hA ok1 g1).mono ?_
    rintro e w2 ⟨rfl, hb⟩
    rw [hv1]
    go_wp2_with fail
    refine (l15Ok_any _ n2 _ y _ ((q2.later hb).cell (j := 0) rfl) ((q2.later hb).cell (j := 1) rfl) (hB.below hb) ok2 g2).mono ?_
    rintro e w3 ⟨rfl, hb2⟩
    rw [hv2]
    replace hb := hb.trans (hb2.mono hb.size)
    clear hb2
    have hbw := hbW.trans (hb.mono hlt)
    have r1 := q1.later hb
    have r2 := q2.later hb
    have r3 := q3.later hb
    have a10 := r1.cell (j := 0) rfl
    have a11 := r1.cell (j := 1) rfl
    have a20 := r2.cell (j := 0) rfl
    have a21 := r2.cell (j := 1) rfl
    have b0 := r3.cell (j := 0) rfl
    have b1 := r3.cell (j := 1) rfl
    have bf := r3.free
    go_wp2_with fail
    refine bodyPost_ret (v := .tuple #[.agg #[.int .i64 0, .slice none 0 0], .int .i64 1]) (by simp [results, Try.results24, go_sem, b0, b1]) rfl (finish _ _ _ _ _ _ _ HZ (Own.nil _ _ _) ?_)
    exact (hbw.setCell hge3 _).setCell hge3 _
  obtain ⟨c1, c2, c3⟩ := valid_bd hv1
  obtain ⟨d1, d2, d3⟩ := valid_bd hv2
  have hsum : n1 + n2 ≤ 40 := by omega
  by_cases hf1 : 20 < n1 + n2 - 1
  · have HZ : Hid (joinLt (n1, x) (n2, y) = (0, []) ∧ joinC (n1, x) (n2, y) = 5) := by show _ ∧ _; simp [joinLt, joinC, hv1, hv2, fullJ, hf1]
    have g5 : decide (20 < n1 + n2 - 1) = true := by simpa using hf1
    go_enter Try.func24, Try.ntmps24
    go_wp2_with fail
    rw [← HP3.out, ← HP2.out, ← HP1.out, ← HW.out]
    refine (l15Ok_any _ n1 _ x _ (q1.cell (j := 0) rfl) (q1.cell (j := 1) rfl) hA ok1 g1).mono ?_
    rintro e w2 ⟨rfl, hb⟩
    rw [hv1]
    go_wp2_with fail
    refine (l15Ok_any _ n2 _ y _ ((q2.later hb).cell (j := 0) rfl) ((q2.later hb).cell (j := 1) rfl) (hB.below hb) ok2 g2).mono ?_
    rintro e w3 ⟨rfl, hb2⟩
    rw [hv2]
    replace hb := hb.trans (hb2.mono hb.size)
    clear hb2
    have hbw := hbW.trans (hb.mono hlt)
    have r1 := q1.later hb
    have r2 := q2.later hb
    have r3 := q3.later hb
    have a10 := r1.cell (j := 0) rfl
    have a11 := r1.cell (j := 1) rfl
    have a20 := r2.cell (j := 0) rfl
    have a21 := r2.cell (j := 1) rfl
    have b0 := r3.cell (j := 0) rfl
    have b1 := r3.cell (j := 1) rfl
    have bf := r3.free
    go_wp2_with fail
    refine bodyPost_ret (v := .tuple #[.agg #[.int .i64 0, .slice none 0 0], .int .i64 5]) (by simp [results, Try.results24, go_sem, b0, b1]) rfl (finish _ _ _ _ _ _ _ HZ (Own.nil _ _ _) ?_)
    exact (hbw.setCell hge3 _).setCell hge3 _
  have g5 : decide (20 < n1 + n2 - 1) = false := by simpa using hf1
  by_cases hf2 : 200 < x.length + y.length
  · have HZ : Hid (joinLt (n1, x) (n2, y) = (0, []) ∧ joinC (n1, x) (n2, y) = 5) := by show _ ∧ _; simp [joinLt, joinC, hv1, hv2, fullJ, hf2]
    have g6 : decide ((200 : Int) < (x.length : Int) + (y.length : Int)) = true := by simp; omega
    go_enter Try.func24, Try.ntmps24
    go_wp2_with fail
    rw [← HP3.out, ← HP2.out, ← HP1.out, ← HW.out]
    refine (l15Ok_any _ n1 _ x _ (q1.cell (j := 0) rfl) (q1.cell (j := 1) rfl) hA ok1 g1).mono ?_
    rintro e w2 ⟨rfl, hb⟩
    rw [hv1]
    go_wp2_with fail
    refine (l15Ok_any _ n2 _ y _ ((q2.later hb).cell (j := 0) rfl) ((q2.later hb).cell (j := 1) rfl) (hB.below hb) ok2 g2).mono ?_
    rintro e w3 ⟨rfl, hb2⟩
    rw [hv2]
    replace hb := hb.trans (hb2.mono hb.size)
    clear hb2
    have hbw := hbW.trans (hb.mono hlt)
    have r1 := q1.later hb
    have r2 := q2.later hb
    have r3 := q3.later hb
    have a10 := r1.cell (j := 0) rfl
    have a11 := r1.cell (j := 1) rfl
    have a20 := r2.cell (j := 0) rfl
    have a21 := r2.cell (j := 1) rfl
    have b0 := r3.cell (j := 0) rfl
    have b1 := r3.cell (j := 1) rfl
    have bf := r3.free
    go_wp2_with fail
    refine bodyPost_ret (v := .tuple #[.agg #[.int .i64 0, .slice none 0 0], .int .i64 5]) (by simp [results, Try.results24, go_sem, b0, b1]) rfl (finish _ _ _ _ _ _ _ HZ (Own.nil _ _ _) ?_)
    exact (hbw.setCell hge3 _).setCell hge3 _
  have g6 : decide ((200 : Int) < (x.length : Int) + (y.length : Int)) = false := by simp; omega
  have HZ : Hid (joinLt (n1, x) (n2, y) = (n1 + n2 - 1, x ++ y.map (shiftE (n1 - 1))) ∧ joinC (n1, x) (n2, y) = 0) := by show _ ∧ _; simp [joinLt, joinC, hv1, hv2, fullJ, hf1, hf2]
  go_enter Try.func24, Try.ntmps24
  go_wp2_with fail
  rw [← HP3.out, ← HP2.out, ← HP1.out, ← HW.out]
  refine (l15Ok_any _ n1 _ x _ (q1.cell (j := 0) rfl) (q1.cell (j := 1) rfl) hA ok1 g1).mono ?_
  rintro e w2 ⟨rfl, hb⟩
  rw [hv1]
  go_wp2_with fail
  refine (l15Ok_any _ n2 _ y _ ((q2.later hb).cell (j := 0) rfl) ((q2.later hb).cell (j := 1) rfl) (hB.below hb) ok2 g2).mono ?_
  rintro e w3 ⟨rfl, hb2⟩
  rw [hv2]
  replace hb := hb.trans (hb2.mono hb.size)
  clear hb2
  have hbw := hbW.trans (hb.mono hlt)
  have r1 := q1.later hb
  have r2 := q2.later hb
  have r3 := q3.later hb
  have a10 := r1.cell (j := 0) rfl
  have a11 := r1.cell (j := 1) rfl
  have a20 := r2.cell (j := 0) rfl
  have a21 := r2.cell (j := 1) rfl
  have b0 := r3.cell (j := 0) rfl
  have b1 := r3.cell (j := 1) rfl
  have bf := r3.free
  have hA3 := hA.below hb
  have hB3 := hB.below hb
  have hl1 := r1.lt
  have hl2 := r2.lt
  have hl3 := r3.lt
  clear q1 q2 q3 hA hB b0 b1 bf
  obtain ⟨H, hH⟩ : ∃ H, H = w3.heap.size := ⟨_, rfl⟩
  rw [← hH] at hl1 hl2 hl3
  have HH := hid hH
  clear hH
  go_wp2_with fail
  have hsl1 : x.length ≤ 200 := by omega
  have wr1 : IntKind.i64.wrap (n1 + n2) = n1 + n2 := IntWalk.i64_in _ (by omega)
  have wr2 : IntKind.i64.wrap (n1 + n2 - 1) = n1 + n2 - 1 := IntWalk.i64_in _ (by omega)
  have hHs : H ≤ w3.heap.size := by rw [HH.out]; exact Nat.le_refl _
  refine wp_region_rel2 12 (fun i v w' => match i with
      | 0 => v = .pointer (some ⟨p1, 0, none⟩)
      | 1 => v = .int .i64 n1
      | 2 => v = .pointer (some ⟨p2, 0, none⟩)
      | 3 => v = .int .i64 n2
      | 4 => v = .int .i64 (n1 + n2)
      | 5 => v = .int .i64 (n1 + n2 - 1)
      | 6 => ∃ g, v = .slice (some ⟨g, 0, none⟩) 0 0 ∧ H ≤ g ∧ w'.heap[g]? = some (.cells #[] 49 (0, 0))
      | 7 => v = .pointer (some ⟨p1, 1, none⟩)
      | 8 => v = .slice a1 x.length k1
      | 9 => ∃ sb sd, v = .slice sb x.length sd ∧ Own eEdge 49 H w' (.slice sb x.length sd) x
      | 10 => ∃ sb sd, v = .agg #[.int .i64 (n1 + n2 - 1), .slice sb x.length sd] ∧ Own eEdge 49 H w' (.slice sb x.length sd) x
      | 11 => ∃ p, v = .pointer (some ⟨p, 0, none⟩) ∧ H ≤ p ∧ w'.heap[p]? = some (.cells #[.int .i64 0, .slice none 0 0] 29 (0, 0))
      | _ => True)
    (fun i v w' => match i with
      | 0 => v = .pointer (some ⟨p1, 0, none⟩)
      | 1 => v = .int .i64 n1
      | 2 => v = .pointer (some ⟨p2, 0, none⟩)
      | 3 => v = .int .i64 n2
      | 4 => v = .int .i64 (n1 + n2)
      | 5 => v = .int .i64 (n1 + n2 - 1)
      | 7 => v = .pointer (some ⟨p1, 1, none⟩)
      | 8 => v = .slice a1 x.length k1
      | 11 => ∃ p sb sd, v = .pointer (some ⟨p, 0, none⟩) ∧ H ≤ p ∧ Box w' p #[.int .i64 (n1 + n2 - 1), .slice sb x.length sd] 29 ∧ Own eEdge 49 H w' (.slice sb x.length sd) x
      | _ => True) (by kernel_rfl) (by kernel_rfl) (by kernel_rfl) (by kernel_rfl) ?_ ?_ ?_ ?_ (by decide) ?_
  · intro i v w w' h hb
    match i, h with
    | 0, h => exact h
    | 1, h => exact h
    | 2, h => exact h
    | 3, h => exact h
    | 4, h => exact h
    | 5, h => exact h
    | 6, ⟨g, hv, hl, hc⟩ => exact ⟨g, hv, hl, (hb.block g (Array.getElem?_eq_some_iff.1 hc).1).trans hc⟩
    | 7, h => exact h
    | 8, h => exact h
    | 9, ⟨sb, sd, hv, ho⟩ => exact ⟨sb, sd, hv, ho.below hb⟩
    | 10, ⟨sb, sd, hv, ho⟩ => exact ⟨sb, sd, hv, ho.below hb⟩
    | 11, ⟨p, hv, hl, hc⟩ => exact ⟨p, hv, hl, (hb.block p (Array.getElem?_eq_some_iff.1 hc).1).trans hc⟩
    | (m + 12), h => exact h
  · intro i v w w' h hb
    match i, h with
    | 0, h => exact h
    | 1, h => exact h
    | 2, h => exact h
    | 3, h => exact h
    | 4, h => exact h
    | 5, h => exact h
    | 6, h => exact h
    | 7, h => exact h
    | 8, h => exact h
    | 9, h => exact h
    | 10, h => exact h
    | 11, ⟨p, sb, sd, hv, hl, hc, ho⟩ => exact ⟨p, sb, sd, hv, hl, hc.later hb, ho.below hb⟩
    | (m + 12), h => exact h
  · refine ⟨?_, ?_, ?_, ?_, ?_, ?_, ?_, ?_, ?_, ?_, ?_, ?_, ?_, trivial⟩
    · refine .inr ⟨fun _ => ?_, stage_no (by kernel_rfl)⟩
      intro ρ w' hbw ht hcs hfn hgl hdep
      refine ⟨fun _ => ?_, fun h => by cases h⟩
      have s2 : ρ (.tmp 2) = .pointer (some ⟨p1, 0, none⟩) := ht 2 rfl
      clear ht hdep
      go_simp
      exact ⟨Below.refl _ _, rfl⟩
    · refine .inr ⟨fun _ => ?_, stage_no (by kernel_rfl)⟩
      intro ρ w' hbw ht hcs hfn hgl hdep
      refine ⟨fun _ => ?_, fun h => by cases h⟩
      have s34 : ρ (.tmp 34) = .pointer (some ⟨p1, 0, none⟩) := hdep ⟨0, .data⟩ (by simp) rfl 34 rfl
      have c0 := cell_later hbw a10
      clear ht hdep
      go_simp
      exact ⟨Below.refl _ _, rfl⟩
    · refine .inr ⟨fun _ => ?_, stage_no (by kernel_rfl)⟩
      intro ρ w' hbw ht hcs hfn hgl hdep
      refine ⟨fun _ => ?_, fun h => by cases h⟩
      have s3 : ρ (.tmp 3) = .pointer (some ⟨p2, 0, none⟩) := ht 3 rfl
      clear ht hdep
      go_simp
      exact ⟨Below.refl _ _, rfl⟩
    · refine .inr ⟨fun _ => ?_, stage_no (by kernel_rfl)⟩
      intro ρ w' hbw ht hcs hfn hgl hdep
      refine ⟨fun _ => ?_, fun h => by cases h⟩
      have s36 : ρ (.tmp 36) = .pointer (some ⟨p2, 0, none⟩) := hdep ⟨2, .data⟩ (by simp) rfl 36 rfl
      have c0 := cell_later hbw a20
      clear ht hdep
      go_simp
      exact ⟨Below.refl _ _, rfl⟩
    · refine .inr ⟨fun _ => ?_, stage_no (by kernel_rfl)⟩
      intro ρ w' hbw ht hcs hfn hgl hdep
      refine ⟨fun _ => ?_, fun h => by cases h⟩
      have s35 : ρ (.tmp 35) = .int .i64 n1 := hdep ⟨1, .data⟩ (by simp) rfl 35 rfl
      have s37 : ρ (.tmp 37) = .int .i64 n2 := hdep ⟨3, .data⟩ (by simp) rfl 37 rfl
      clear ht hdep
      go_simp
      exact ⟨Below.refl _ _, by first | rfl | rw [wr1]⟩
    · refine .inr ⟨fun _ => ?_, stage_no (by kernel_rfl)⟩
      intro ρ w' hbw ht hcs hfn hgl hdep
      refine ⟨fun _ => ?_, fun h => by cases h⟩
      have s38 : ρ (.tmp 38) = .int .i64 (n1 + n2) := hdep ⟨4, .data⟩ (by simp) rfl 38 rfl
      clear ht hdep
      go_simp
      exact ⟨Below.refl _ _, by first | rfl | rw [wr2]⟩
    · refine .inr ⟨fun _ => ?_, stage_no (by kernel_rfl)⟩
      intro ρ w' hbw ht hcs hfn hgl hdep
      refine ⟨fun _ => ?_, fun h => by cases h⟩
      clear ht hdep
      go_simp
      exact ⟨below_alloc _ _, _, rfl, Nat.le_trans hHs hbw.size, heap_alloc_new _ _⟩
    · refine .inr ⟨fun _ => ?_, stage_no (by kernel_rfl)⟩
      intro ρ w' hbw ht hcs hfn hgl hdep
      refine ⟨fun _ => ?_, fun h => by cases h⟩
      have s2 : ρ (.tmp 2) = .pointer (some ⟨p1, 0, none⟩) := ht 2 rfl
      clear ht hdep
      go_simp
      exact ⟨Below.refl _ _, rfl⟩
    · refine .inr ⟨fun _ => ?_, stage_no (by kernel_rfl)⟩
      intro ρ w' hbw ht hcs hfn hgl hdep
      refine ⟨fun _ => ?_, fun h => by cases h⟩
      have s41 : ρ (.tmp 41) = .pointer (some ⟨p1, 1, none⟩) := hdep ⟨7, .data⟩ (by simp) rfl 41 rfl
      have c0 := cell_later hbw a11
      clear ht hdep
      go_simp
      exact ⟨Below.refl _ _, rfl⟩
    · refine .inr ⟨fun _ => ?_, stage_no (by kernel_rfl)⟩
      intro ρ w' hbw ht hcs hfn hgl hdep
      refine ⟨fun _ => ?_, fun h => by cases h⟩
      obtain ⟨gg, s40, gl, gc⟩ := hdep ⟨6, .data⟩ (by simp) rfl 40 rfl
      have s42 : ρ (.tmp 42) = .slice a1 x.length k1 := hdep ⟨8, .data⟩ (by simp) rfl 42 rfl
      clear ht hdep
      obtain ⟨v', wA, hr, hoA, hbA⟩ := run_append_zero (P := Try.prog) 27 27 H 49 _ 40 infEdge Try.underlying27 rfl gg gc gl _ x (hA3.below hbw) (by unfold maxLen; omega) (by omega)
      obtain ⟨sb, sd, rfl⟩ := hoA.isSlice
      have hr' : (execOp ρ { dst := some 43, op := Op.call { callee := Callee.builtin Builtin.append, args := #[Operand.tmp 40, Operand.tmp 42], argTypes := #[27, 27] }, type := 27, pos := "l15_lattice.go:325", after := #[{ on := 6, ground := Ground.data }, { on := 8, ground := Ground.data }], guard := none }).run Try.prog w' = .ok (.value (.slice sb x.length sd)) wA := by
        unfold execOp
        simp only [resolve, invoke, builtin, Sem.run_bind, Sem.run_pure, Result.andThen_ok, List.map_toArray, List.map_cons, List.map_nil, s40, s42, hr]
      rw [hr']
      exact ⟨hbA, sb, sd, rfl, hoA⟩
    · refine .inr ⟨fun _ => ?_, stage_no (by kernel_rfl)⟩
      intro ρ w' hbw ht hcs hfn hgl hdep
      refine ⟨fun _ => ?_, fun h => by cases h⟩
      have s39 : ρ (.tmp 39) = .int .i64 (n1 + n2 - 1) := hdep ⟨5, .data⟩ (by simp) rfl 39 rfl
      obtain ⟨sb, sd, s43, ho⟩ := hdep ⟨9, .data⟩ (by simp) rfl 43 rfl
      clear ht hdep
      go_simp
      exact ⟨Below.refl _ _, sb, sd, rfl, ho⟩
    · refine .inr ⟨fun _ => ?_, stage_no (by kernel_rfl)⟩
      intro ρ w' hbw ht hcs hfn hgl hdep
      refine ⟨fun _ => ?_, fun h => by cases h⟩
      clear ht hdep
      go_simp
      exact ⟨below_alloc _ _, _, rfl, Nat.le_trans hHs hbw.size, heap_alloc_new _ _⟩
    · exact .inl rfl
  · intro o ho
    obtain rfl := Option.some.inj ho
    refine ⟨rfl, fun ρ w' hbw ht hcs hdep => ?_⟩
    obtain ⟨pp, s6, hpl, hpc⟩ := hdep ⟨11, .data⟩ (by simp) rfl 6 rfl
    obtain ⟨sb, sd, s44, ho⟩ := hdep ⟨10, .data⟩ (by simp) rfl 44 rfl
    clear hdep ht
    have hbox : Box w' pp #[.int .i64 0, .slice none 0 0] 29 := hpc
    have hcell0 := hbox.cell (j := 0) rfl
    have hcell1 := hbox.cell (j := 1) rfl
    have hfree := hbox.free
    refine ⟨(w'.setCell ⟨pp, 0, none⟩ (.int .i64 (n1 + n2 - 1))).setCell ⟨pp, 1, none⟩ (.slice sb x.length sd), ?_, ?_, trivial, ?_⟩
    · clear ho
      go_simp
    · exact (hbw.setCell (by rw [HH.out] at hpl; exact hpl) _).setCell (by rw [HH.out] at hpl; exact hpl) _
    · intro j v hj hv hrho
      match j, hj, hv, hrho with
      | 0, _, h, _ => exact h
      | 1, _, h, _ => exact h
      | 2, _, h, _ => exact h
      | 3, _, h, _ => exact h
      | 4, _, h, _ => exact h
      | 5, _, h, _ => exact h
      | 6, _, _, _ => exact trivial
      | 7, _, h, _ => exact h
      | 8, _, h, _ => exact h
      | 9, _, _, _ => exact trivial
      | 10, _, _, _ => exact trivial
      | 11, _, _, hr =>
        refine ⟨pp, sb, sd, (hr 6 rfl).trans s6, hpl, (hbox.set 0 _).set 1 _, ?_⟩
        exact (ho.box_set hbox (by decide)).box_set (hbox.set 0 _) (by decide)
      | (m + 12), _, _, _ => exact trivial
  · intro xx w4 hb4 hx
    have hx0 : xx 0 = .pointer (some ⟨p1, 0, none⟩) := hx 0 (by simp)
    have hx1 : xx 1 = .int .i64 n1 := hx 1 (by simp)
    have hx2 : xx 2 = .pointer (some ⟨p2, 0, none⟩) := hx 2 (by simp)
    have hx3 : xx 3 = .int .i64 n2 := hx 3 (by simp)
    have hx4 : xx 4 = .int .i64 (n1 + n2) := hx 4 (by simp)
    have hx5 : xx 5 = .int .i64 (n1 + n2 - 1) := hx 5 (by simp)
    have hx7 : xx 7 = .pointer (some ⟨p1, 1, none⟩) := hx 7 (by simp)
    have hx8 : xx 8 = .slice a1 x.length k1 := hx 8 (by simp)
    obtain ⟨pp, sb, sd, hx11, hpl, hbox, ho⟩ := hx 11 (by simp)
    clear hx
    simp only [putAll, Act.put, List.setIfInBounds_toArray, List.set_cons_succ, List.set_cons_zero, Nat.zero_add, Nat.reduceAdd, hx0, hx1, hx2, hx3, hx4, hx5, hx7, hx8, hx11]
    generalize xx 6 = kk6 at *
    generalize xx 9 = kk9 at *
    generalize xx 10 = kk10 at *
    clear hx0 hx1 hx2 hx3 hx4 hx5 hx7 hx8 hx11
    have hb4' : Below H w3 w4 := by rw [HH.out]; exact hb4
    obtain ⟨b2, off2, ao2, cap2, he2, hnc2, hcm2, hao2, hc2⟩ := hB3
    simp only [Value.slice.injEq] at he2
    obtain ⟨rfl, -, rfl⟩ := he2
    unfold maxLen at hcm2
    have HV2 := hid hv2
    have hbwH : Below w.heap.size w w3 := hbw
    have hwH : w.heap.size ≤ H := by rw [HH.out]; exact hbw.size
    have t10 := below_cell hb4' hl1 a10
    have t20 := below_cell hb4' hl2 a20
    have t21 := below_cell hb4' hl2 a21
    go_wp2
    clear t10 t20 t21
    go_loopw [7] (fun i wr => ∃ (j : Nat) (sb : Option Addr) (sd : Nat), j ≤ y.length ∧ i = .int .i64 j ∧ Box wr pp #[.int .i64 (n1 + n2 - 1), .slice sb (x.length + j) sd] 29 ∧ Own eEdge 49 H wr (.slice sb (x.length + j) sd) (x ++ (y.take j).map (shiftE (n1 - 1))) ∧ Below H w3 wr) (fun i _ => y.length - (intOf i).toNat)
    case atStart => exact ⟨0, sb, sd, Nat.zero_le _, rfl, hbox, by simpa using ho, hb4'⟩
    case round =>
      clear hbox ho
      obtain ⟨j, sb, sd, hj, rfl, hbox, ho, hb⟩ := hrel
      have t10 := below_cell hb hl1 a10
      have t20 := below_cell hb hl2 a20
      have t21 := below_cell hb hl2 a21
      have u0 := hbox.cell (j := 0) rfl
      have u1 := hbox.cell (j := 1) rfl
      have hHr : H ≤ wr.heap.size := Nat.le_trans hHs hb.size
      by_cases hlt : j < y.length
      · obtain ⟨rfl, hbw2⟩ := hao2 (by omega)
        obtain ⟨e, he⟩ : ∃ e, y[j]? = some e := ⟨_, List.getElem?_eq_getElem hlt⟩
        obtain ⟨e0, e1, e2, e3⟩ := eEdge_cells (hc2.below hb (by rw [HH.out]; exact hbw2)) he
        have hli : (j : Int) < (y.length : Int) := by omega
        obtain ⟨f0, f1, f2, _, _⟩ := valid_fit HV2.out he
        have HT := hid (map_take_succ (shiftE (n1 - 1)) he)
        have hlx : (x ++ (y.take j).map (shiftE (n1 - 1))).length = x.length + j := by simp; omega
        have HLX := hid hlx
        have hlk : x.length + j ≤ 1000 := by omega
        obtain ⟨fr, to, la, co⟩ := e
        simp only at e0 e1 e2 e3 f0 f1 f2
        obtain ⟨XS, hXS⟩ : ∃ XS, XS = x ++ (y.take j).map (shiftE (n1 - 1)) := ⟨_, rfl⟩
        have HXS : Hid (x ++ (y.take (j + 1)).map (shiftE (n1 - 1)) = XS ++ [⟨fr + (n1 - 1), to + (n1 - 1), la, co⟩]) := by
          rw [HT.out, hXS, ← List.append_assoc]; exact hid rfl
        rw [← hXS] at ho HLX
        clear he hXS hlx
        have s1 := cell_alloc t10 (.cells #[.int .i64 fr, .int .i64 to, .string la, .int .i64 co] 49)
        have s2 := cell_alloc t10 (.cells #[.int .i64 (fr + (n1 - 1)), .int .i64 to, .string la, .int .i64 co] 49)
        have s3 := cell_alloc u1 (.cells #[.int .i64 (fr + (n1 - 1)), .int .i64 (to + (n1 - 1)), .string la, .int .i64 co] 49)
        go_wp2_with (at_builtin; (refine wpList_appA rfl _ _ 27 rfl H 49 _ 40 infEdge Try.underlying27 rfl _ XS rfl ((ho.alloc _).alloc _) _ [⟨fr + (n1 - 1), to + (n1 - 1), la, co⟩] rfl (by exact arr_block1 (E := eEdge) (n := 1) [⟨fr + (n1 - 1), to + (n1 - 1), la, co⟩] #[.int .i64 (fr + (n1 - 1)), .int .i64 (to + (n1 - 1)), .string la, .int .i64 co] rfl rfl (maxLen_ge (Nat.le_of_ble_eq_true rfl)) (by simp)) (by rw [HLX.out]; unfold maxLen; simp <;> omega) (by rw [HLX.out]; simp <;> omega) (by simp <;> omega) ?_; intro v' wA hoA hbA htA; have hbq := ((hbox.alloc _).alloc _).typed htA rfl; have hq1 := hbq.cell (j := 1) rfl; have hqf := hbq.free; obtain ⟨va, vc, hva⟩ := hoA.isSlice; subst hva))
        have hbB := ((hb.alloc hHr _).alloc (by simp <;> omega) _).trans hbA
        have hlA : (XS ++ [(⟨fr + (n1 - 1), to + (n1 - 1), la, co⟩ : DEdge)]).length = XS.length + 1 := by simp
        have hlB : XS.length + 1 = x.length + (j + 1) := by rw [HLX.out]; omega
        rw [hlA, hlB] at hoA
        rw [hlB]
        go_roundw
        case rel => exact ⟨j + 1, va, vc, by omega, by go_num, hbq.set 1 _, by rw [HXS.out]; exact hoA.box_set hbq (by decide), hbB.setCell hpl _⟩
        case measure => simp [intOf]; omega
      · obtain rfl : j = y.length := by omega
        have r3' := r3.below hb hl3
        have b0 := r3'.cell (j := 0) rfl
        have b1 := r3'.cell (j := 1) rfl
        have bf := r3'.free
        rw [List.take_length] at ho
        have hfin := (ho.box_set r3' (u := .int .i64 (n1 + n2 - 1)) (j := 0) (by decide)).box_set (r3'.set 0 (.int .i64 (n1 + n2 - 1))) (u := .slice sb (x.length + y.length) sd) (j := 1) (by decide)
        clear r3 hb4 hb4'
        go_wp2
        refine bodyPost_ret (v := .tuple #[.agg #[.int .i64 (n1 + n2 - 1), .slice sb (x.length + y.length) sd], .int .i64 0]) (by simp [results, Try.results24, go_sem, b0, b1]) rfl (finish _ _ _ _ _ _ _ HZ (hfin.mono hwH) ?_)
        exact ((hbwH.trans (hb.mono hwH)).setCell hge3 _).setCell hge3 _
end Go.Proofs.Ytkgfonchklnckaa
