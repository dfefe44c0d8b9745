/- The word that a beam finds: both calls. -/
import Derived.Test.YtcikndmmbfompaaGreatDoorRdSpc
import Derived.Test.YtcikndmmbfompaaGreatDoorFwCmp
import Derived.BigRegion
namespace Go.Proofs.YtcikndmmbfompaaGreatDoor
open Go.RowKit Go.Sort
attribute [local go_sem ↓] Go.wp_at_zero Go.wp_at_succ

def fndE (y : XLexicon) (r : DReading) : Option DFound := match findLx y r.text with
  | none => none
  | some k => (y[k]?).map fun e => ⟨r.text, r.cost, e.cost⟩
def fndL (y : XLexicon) (L : List DReading) : List DFound := L.filterMap (fndE y)
def minS (o : Option DFound) (f : DFound) : Option DFound := match o with
  | none => some f
  | some b => some (if ltF f b then f else b)
def minL (L : List DFound) : Option DFound := L.foldl minS none
theorem fndL_take {y : XLexicon} {L : List DReading} {i : Nat} {r : DReading} (h : L[i]? = some r) : fndL y (L.take (i + 1)) = fndL y (L.take i) ++ (fndE y r).toList := by
  unfold fndL
  rw [List.take_add_one, h, List.filterMap_append]
  cases hf : fndE y r <;> simp [hf]
theorem fndL_len (y : XLexicon) (L : List DReading) : (fndL y L).length ≤ L.length := List.length_filterMap_le _ _
theorem minL_snoc (L : List DFound) (f : DFound) : minL (L ++ [f]) = minS (minL L) f := by unfold minL; rw [List.foldl_append]; rfl
theorem minL_take {X : List DFound} {i : Nat} {f : DFound} (h : X[i]? = some f) : minL (X.take (i + 1)) = minS (minL (X.take i)) f := by rw [List.take_add_one, h]; exact minL_snoc _ _
theorem minL_nil : minL [] = none := rfl
theorem minL_one (f : DFound) : minL [f] = some f := rfl
theorem minL_some {X : List DFound} (h : 0 < X.length) : ∃ b, minL X = some b := by
  obtain ⟨f, hf⟩ : ∃ f, X[X.length - 1]? = some f := ⟨_, List.getElem?_eq_getElem (by omega)⟩
  have := minL_take hf
  rw [show X.length - 1 + 1 = X.length by omega, List.take_length] at this
  rw [this]
  unfold minS
  split <;> exact ⟨_, rfl⟩
theorem boxOther {w : World} {q p o : Nat} {cs : Array Value} {T : TypeId} {u : Value} (h : Box w q cs T) (hne : q ≠ p) : Box (w.setCell ⟨p, o, none⟩ u) q cs T := by
  unfold Box at *
  rw [Below.heap_setCell _ _ _ _ hne]; exact h
def vF (f : DFound) : Value := .agg #[.string f.word, .int .i64 f.path, .int .i64 f.own_]
def bwO (x : XLattice) (y : XLexicon) (k : Int) : Option DFound := minL (fndL y (stB x y k.toNat (x.1 - 1).toNat))
def bwW (x : XLattice) (y : XLexicon) (k : Int) : DFound := if codeB x y k = 0 then (bwO x y k).getD fz else fz
def bwC (x : XLattice) (y : XLexicon) (k : Int) : Int := if codeB x y k = 0 then (if (bwO x y k).isSome then 0 else 3) else codeB x y k

set_option maxHeartbeats 4000000 in
set_option maxRecDepth 100000 in
theorem minFound_any (g cap n B : Nat) (X : List DFound) (b : DFound) (w : World) (h : Own eFound 48 B w (.slice (some ⟨g, 0, none⟩) n cap) X) (hn : n = X.length) (hl : X.length ≤ 1048576) (hb : minL X = some b) :
    Calls Tryz.prog 43 #[.slice (some ⟨g, 0, none⟩) n cap, .func (.func 44) #[] #[]] w (Ret (.agg #[.string b.word, .int .i64 b.path, .int .i64 b.own_]) w) := by
  have hc := (own_cells h hn).1
  have hg := h.lt.2
  have hnb : n ≤ 1048576 := by omega
  have h0 : 0 < n := by
    cases X with
    | nil => rw [minL_nil] at hb; cases hb
    | cons a t => rw [hn]; simp
  obtain ⟨f, hf⟩ : ∃ f, X[0]? = some f := ⟨_, List.getElem?_eq_getElem (by omega)⟩
  have hf1 : minL (X.take 1) = some f := by have := minL_take hf; rw [this]; rfl
  obtain ⟨a0, a1, a2⟩ := eFound_cells hc hf
  simp only [Nat.zero_mul, Nat.zero_add] at a0 a1 a2
  have HF := hid hf1
  have HN := hid hn
  have HB := hid hb
  have h1 : ¬ ((n : Int) < 1) := by omega
  have h1i : (0 : Int) < (n : Int) := by omega
  have b0 := cell_alloc a0 (.cells #[.string ⟨#[]⟩, .int .i64 0, .int .i64 0] 48)
  have b1 := cell_alloc a1 (.cells #[.string ⟨#[]⟩, .int .i64 0, .int .i64 0] 48)
  have b2 := cell_alloc a2 (.cells #[.string ⟨#[]⟩, .int .i64 0, .int .i64 0] 48)
  obtain ⟨W, hW⟩ : ∃ W, W = (w.alloc (.cells #[.string ⟨#[]⟩, .int .i64 0, .int .i64 0] 48)).alloc (.cells #[.string f.word, .int .i64 f.path, .int .i64 f.own_] 48) := ⟨_, rfl⟩
  have hbW : Below w.heap.size w W := by rw [hW]; exact belowA2 _ _ _
  have q4 : Box W w.heap.size #[.string ⟨#[]⟩, .int .i64 0, .int .i64 0] 48 := by rw [hW]; exact (Box.new w _ _).later (below_alloc _ _)
  have q5 : Box W (w.heap.size + 1) #[.string f.word, .int .i64 f.path, .int .i64 f.own_] 48 := by
    rw [hW]
    have := Box.new (w.alloc (.cells #[.string ⟨#[]⟩, .int .i64 0, .int .i64 0] 48)) #[.string f.word, .int .i64 f.path, .int .i64 f.own_] 48
    simp at this
    exact this
  obtain ⟨p4, hp4⟩ : ∃ p, p = w.heap.size := ⟨_, rfl⟩
  obtain ⟨p5, hp5⟩ : ∃ p, p = w.heap.size + 1 := ⟨_, rfl⟩
  rw [← hp4] at q4
  rw [← hp5] at q5
  have hge4 : w.heap.size ≤ p4 := by omega
  have hge5 : w.heap.size ≤ p5 := by omega
  have hne : p4 ≠ p5 := by omega
  have HP4 := hid hp4
  have HP5 := hid hp5
  have HW := hid hW
  clear hp4 hp5 hW hf hf1 hn hb h
  go_enter Tryz.func43, Tryz.ntmps43
  go_wp2_with fail
  rw [← HP5.out, ← HP4.out, ← HW.out]
  clear a0 a1 a2 b0 b1 b2
  go_loopw [6] (fun i wr => ∃ (j : Nat) (m : DFound), 1 ≤ j ∧ j ≤ n ∧ i = .int .i64 j ∧ Hid (minL (X.take j) = some m) ∧ Box wr p4 #[.string ⟨#[]⟩, .int .i64 0, .int .i64 0] 48 ∧ Box wr p5 #[.string m.word, .int .i64 m.path, .int .i64 m.own_] 48 ∧ Below w.heap.size w wr) (fun i _ => n - (intOf i).toNat)
  case atStart => exact ⟨1, f, Nat.le_refl _, h0, rfl, HF, q4, q5, hbW⟩
  case round =>
    clear q4 q5
    obtain ⟨j, m, hj1, hj, rfl, HM, q4, q5, hb⟩ := hrel
    have m0 := q5.cell (j := 0) rfl
    have m1 := q5.cell (j := 1) rfl
    have m2 := q5.cell (j := 2) rfl
    by_cases hlt : j < n
    · have hji : (j : Int) < (n : Int) := by omega
      obtain ⟨a, ha⟩ : ∃ a, X[j]? = some a := ⟨_, List.getElem?_eq_getElem (by have := HN.out; omega)⟩
      obtain ⟨c0, c1, c2⟩ := eFound_cells (hc.below hb hg) ha
      simp only [Nat.zero_add] at c0 c1 c2
      have HA : Hid (minL (X.take (j + 1)) = some (if ltF a m then a else m)) := hid (by rw [minL_take ha, HM.out]; rfl)
      have HC := fun w' => compareFound_any a m w'
      have xm0 := ext_cell m0
      have xm1 := ext_cell m1
      have xm2 := ext_cell m2
      have xc0 := ext_cell c0
      have xc1 := ext_cell c1
      have xc2 := ext_cell c2
      clear ha
      cases hl : ltF a m
      · rw [hl] at HA
        have ho : ¬ (ordF a m < 0) := by unfold ltF at hl; simpa using hl
        generalize ordF a m = od at ho HC
        have hd : decide (od < 0) = false := by simpa using ho
        clear hl
        go_wp2
        refine wp_region_ext (by kernel_rfl) (by kernel_rfl) ?_
        repeat (go_big_quiet_step ((go_at_call 44; exact ret_ext (HC _))))
        refine wpQuiet_nil ?_
        intro _ hw'
        obtain ⟨nq, hw''⟩ := hw'
        subst hw''
        have r4 := q4.later (ext_below wr nq)
        have r5 := q5.later (ext_below wr nq)
        have hb2 := hb.trans ((ext_below wr nq).mono hb.size)
        generalize ext wr nq = WN at *
        clear m0 m1 m2 c0 c1 c2 xm0 xm1 xm2 xc0 xc1 xc2
        go_wp2
        go_roundw
        case rel => exact ⟨j + 1, m, by omega, by omega, by go_num, HA, r4, r5, hb2⟩
        case measure => simp [intOf]; omega
      · rw [hl] at HA
        have ho : ordF a m < 0 := by unfold ltF at hl; simpa using hl
        generalize ordF a m = od at ho HC
        have hd : decide (od < 0) = true := by simpa using ho
        clear hl
        go_wp2
        refine wp_region_ext (by kernel_rfl) (by kernel_rfl) ?_
        repeat (go_big_quiet_step ((go_at_call 44; exact ret_ext (HC _))))
        refine wpQuiet_nil ?_
        intro _ hw'
        obtain ⟨nq, hw''⟩ := hw'
        subst hw''
        have r4 := q4.later (ext_below wr nq)
        have r5 := q5.later (ext_below wr nq)
        have hb2 := hb.trans ((ext_below wr nq).mono hb.size)
        have d0 := xc0 nq
        have d1 := xc1 nq
        have d2 := xc2 nq
        have fr := r5.free
        have g0 := r5.cell (j := 0) rfl
        have g1 := r5.cell (j := 1) rfl
        have g2 := r5.cell (j := 2) rfl
        generalize ext wr nq = WN at *
        clear m0 m1 m2 c0 c1 c2 xm0 xm1 xm2 xc0 xc1 xc2
        go_wp2
        go_roundw
        case rel =>
          refine ⟨j + 1, a, by omega, by omega, by go_num, HA, ?_, ?_, ((hb2.setCell hge5 _).setCell hge5 _).setCell hge5 _⟩
          · exact boxOther (boxOther (boxOther r4 hne) hne) hne
          · exact ((r5.set 0 (.string a.word)).set 1 (.int .i64 a.path)).set 2 (.int .i64 a.own_)
        case measure => simp [intOf]; omega
    · obtain rfl : j = n := by omega
      have HE : Hid (m = b) := hid (by have h1 := HM.out; rw [HN.out, List.take_length, HB.out] at h1; exact (Option.some.inj h1).symm)
      have hji : ¬ ((j : Int) < (j : Int)) := by omega
      have r0 := q4.cell (j := 0) rfl
      have r1 := q4.cell (j := 1) rfl
      have r2 := q4.cell (j := 2) rfl
      have rf := q4.free
      go_wp2
      refine bodyPost_ret (v := .agg #[.string m.word, .int .i64 m.path, .int .i64 m.own_]) (by simp [results, Tryz.results43, go_sem, r0, r1, r2]) rfl ?_
      rw [HE.out]
      exact ⟨rfl, ((hb.setCell hge4 _).setCell hge4 _).setCell hge4 _⟩

set_option maxHeartbeats 8000000 in
set_option maxRecDepth 100000 in
theorem l17Word_any (p1 p2 : Nat) (v1 v2 : Value) (N m : Nat) (x : List DEdge) (y : XLexicon) (w : World) (hp0 : w.cell? ⟨p1, 0, none⟩ = some (.int .i64 N)) (hp1 : w.cell? ⟨p1, 1, none⟩ = some v1) (hq0 : w.cell? ⟨p2, 0, none⟩ = some v2) (h : Arr eEdge w v1 x) (hY : Arr eEntry w v2 y) (oky : okLexicon y) (gy : goodLexicon y) (hv : validLt ((N : Int), x) = true) (hm1 : 1 ≤ m) (hm : m ≤ 30) (o : Option DFound) (ho : bwO ((N : Int), x) y m = o) :
    Calls Tryz.prog 15 #[.pointer (some ⟨p1, 0, none⟩), .pointer (some ⟨p2, 0, none⟩), .int .i64 m] w (Ret (.tuple #[vF (o.getD fz), .bool o.isSome]) w) := by
  obtain ⟨b1, b2, b3⟩ := valid_bd hv
  have hNi : (N : Int) ≤ 20 := by omega
  have hN0 : 0 < N := by omega
  have hNw : IntKind.i64.wrap ((N : Int) - 1) = (N : Int) - 1 := IntWalk.i64_in _ (by omega)
  have hNt : ((N : Int) - 1).toNat = N - 1 := by omega
  have hN1 : 0 ≤ (N : Int) - 1 := by omega
  have hN2 : (N : Int) - 1 < (N : Int) := by omega
  have hlen := stB_ok (y := y) (m := m) hv hm1 (N - 1)
  obtain ⟨RS, hRS⟩ : ∃ RS, RS = stB ((N : Int), x) y m (N - 1) := ⟨_, rfl⟩
  have HO : Hid (minL (fndL y RS) = o) := hid (by rw [hRS, ← ho]; unfold bwO; simp only [Int.toNat_natCast, hNt])
  have HRS : Hid (statesR m (begLx y) (beg0 y) x (N - 1) = RS) := hid hRS.symm
  rw [← hRS] at hlen
  clear hRS ho
  obtain ⟨by_, offy, ay, capy, hv2, hncy, hcmy, haoy, hcy⟩ := id hY
  unfold maxLen at hcmy
  obtain ⟨W, hW⟩ : ∃ W, W = w.alloc (.cells #[.string ⟨#[]⟩, .int .i64 0, .int .i64 0] 48) := ⟨_, rfl⟩
  have hbW : Below w.heap.size w W := by rw [hW]; exact below_alloc _ _
  have q6 : Box W w.heap.size #[.string ⟨#[]⟩, .int .i64 0, .int .i64 0] 48 := by rw [hW]; exact Box.new w _ _
  obtain ⟨p6, hp6⟩ : ∃ p, p = w.heap.size := ⟨_, rfl⟩
  rw [← hp6] at q6
  have hge6 : w.heap.size ≤ p6 := by omega
  have c0 := cell_later hbW hp0
  have c1 := cell_later hbW hp1
  have c2 := cell_later hbW hq0
  have hA := h.below hbW
  have hB := hY.below hbW
  have hcW : 0 < y.length → Cells eEntry W by_ offy y := fun hl => hcy.below hbW (haoy hl).2
  have hbyW : 0 < y.length → by_ < W.heap.size := fun hl => Nat.lt_of_lt_of_le (haoy hl).2 hbW.size
  have hayW : 0 < y.length → ay = some ⟨by_, offy, none⟩ := fun hl => (haoy hl).1
  have CM := fun w' (hb : Below W.heap.size W w') => l16States_any p1 p2 v1 v2 N m x y w' (cell_later hb c0) (cell_later hb c1) (cell_later hb c2) (hA.below hb) (hB.below hb) oky gy hv hm1 (by omega)
  have CF := fun (s : ByteArray) w' (hb : Below W.heap.size W w') => l16Find_any p2 v2 y s w' (cell_later hb c2) (hB.below hb) oky
  have HP6 := hid hp6
  have HW := hid hW
  have hlW : w.heap.size ≤ W.heap.size := hbW.size
  clear hp6 hW h hY hp0 hp1 hq0 hcy haoy hv
  go_enter Tryz.func15, Tryz.ntmps15
  go_wp2_with fail
  rw [← HP6.out, ← HW.out]
  refine wp_region_rel (fun i v w' => match i with
    | 0 => v = .pointer (some ⟨p1, 0, none⟩)
    | 1 => v = .pointer (some ⟨p2, 0, none⟩)
    | 2 => v = .int .i64 m
    | 3 => ∃ g vs, v = .slice (some ⟨g, 0, none⟩) N N ∧ RowsR g N w' vs (statesR m (begLx y) (beg0 y) x) ∧ W.heap.size ≤ g
    | 4 => v = .pointer (some ⟨p1, 0, none⟩)
    | 5 => v = .pointer (some ⟨p1, 0, none⟩)
    | 6 => v = .pointer (some ⟨p1, 0, none⟩)
    | 7 => v = .int .i64 N
    | 8 => v = .int .i64 ((N : Int) - 1)
    | 9 => ∃ g vs, v = .pointer (some ⟨g, N - 1, none⟩) ∧ RowsR g N w' vs (statesR m (begLx y) (beg0 y) x) ∧ W.heap.size ≤ g
    | _ => NewR W.heap.size w' v RS) (by kernel_rfl) (by kernel_rfl) (by kernel_rfl) (by kernel_rfl) ?_ ?_ ?_
  · intro i v w w' h hb
    match i, h with
    | 0, h => exact h
    | 1, h => exact h
    | 2, h => exact h
    | 3, ⟨g, vs, h1, h2, h3⟩ => exact ⟨g, vs, h1, h2.below hb, h3⟩
    | 4, h => exact h
    | 5, h => exact h
    | 6, h => exact h
    | 7, h => exact h
    | 8, h => exact h
    | 9, ⟨g, vs, h1, h2, h3⟩ => exact ⟨g, vs, h1, h2.below hb, h3⟩
    | (k + 10), h => exact NewR.below h hb
  · refine ⟨?_, ?_, ?_, ?_, ?_, ?_, ?_, ?_, ?_, ?_, ?_, ?_, trivial⟩
    · intro ρ w' hbw ht hcs hfn hgl hdep
      refine ⟨fun _ => ?_, fun h => by cases h⟩
      have s0 : ρ (.tmp 0) = .pointer (some ⟨p1, 0, none⟩) := ht 0 rfl
      clear ht hdep
      go_simp
      exact ⟨Below.refl _ _, rfl⟩
    · intro ρ w' hbw ht hcs hfn hgl hdep
      refine ⟨fun _ => ?_, fun h => by cases h⟩
      have s1 : ρ (.tmp 1) = .pointer (some ⟨p2, 0, none⟩) := ht 1 rfl
      clear ht hdep
      go_simp
      exact ⟨Below.refl _ _, rfl⟩
    · intro ρ w' hbw ht hcs hfn hgl hdep
      refine ⟨fun _ => ?_, fun h => by cases h⟩
      have s2 : ρ (.tmp 2) = .int .i64 m := ht 2 rfl
      clear ht hdep
      go_simp
      exact ⟨Below.refl _ _, rfl⟩
    · intro ρ w' hbw ht hcs hfn hgl hdep
      refine ⟨fun _ => ?_, fun h => by cases h⟩
      have s14 : ρ (.tmp 14) = .pointer (some ⟨p1, 0, none⟩) := hdep ⟨0, .data⟩ (by simp) rfl 14 rfl
      have s15 : ρ (.tmp 15) = .pointer (some ⟨p2, 0, none⟩) := hdep ⟨1, .data⟩ (by simp) rfl 15 rfl
      have s16 : ρ (.tmp 16) = .int .i64 m := hdep ⟨2, .data⟩ (by simp) rfl 16 rfl
      clear ht hdep
      go_simp
      exact (CM w' hbw).mono fun e w'' ⟨g, vs, he, hr, hg, hb⟩ => ⟨_, he, hb, g, rfl, ⟨vs, hr⟩, Nat.le_trans hbw.size hg⟩
    · intro ρ w' hbw ht hcs hfn hgl hdep
      refine ⟨fun _ => ?_, fun h => by cases h⟩
      have s0 : ρ (.tmp 0) = .pointer (some ⟨p1, 0, none⟩) := ht 0 rfl
      clear ht hdep
      go_simp
      exact ⟨Below.refl _ _, rfl⟩
    · intro ρ w' hbw ht hcs hfn hgl hdep
      refine ⟨fun _ => ?_, fun h => by cases h⟩
      have s18 : ρ (.tmp 18) = .pointer (some ⟨p1, 0, none⟩) := hdep ⟨4, .data⟩ (by simp) rfl 18 rfl
      clear ht hdep
      go_simp
      exact ⟨Below.refl _ _, rfl⟩
    · intro ρ w' hbw ht hcs hfn hgl hdep
      refine ⟨fun _ => ?_, fun h => by cases h⟩
      have s19 : ρ (.tmp 19) = .pointer (some ⟨p1, 0, none⟩) := hdep ⟨5, .data⟩ (by simp) rfl 19 rfl
      clear ht hdep
      go_simp
      exact ⟨Below.refl _ _, rfl⟩
    · intro ρ w' hbw ht hcs hfn hgl hdep
      refine ⟨fun _ => ?_, fun h => by cases h⟩
      have s20 : ρ (.tmp 20) = .pointer (some ⟨p1, 0, none⟩) := hdep ⟨6, .data⟩ (by simp) rfl 20 rfl
      have d0 := cell_later hbw c0
      clear ht hdep
      go_simp
      exact ⟨Below.refl _ _, rfl⟩
    · intro ρ w' hbw ht hcs hfn hgl hdep
      refine ⟨fun _ => ?_, fun h => by cases h⟩
      have s21 : ρ (.tmp 21) = .int .i64 N := hdep ⟨7, .data⟩ (by simp) rfl 21 rfl
      clear ht hdep
      go_simp
      exact ⟨Below.refl _ _, rfl⟩
    · intro ρ w' hbw ht hcs hfn hgl hdep
      refine ⟨fun _ => ?_, fun h => by cases h⟩
      obtain ⟨g, vs, s17, hr, hg⟩ := hdep ⟨3, .data⟩ (by simp) rfl 17 rfl
      have s22 : ρ (.tmp 22) = .int .i64 ((N : Int) - 1) := hdep ⟨8, .data⟩ (by simp) rfl 22 rfl
      clear ht hdep
      go_simp
      exact ⟨Below.refl _ _, g, rfl, ⟨vs, hr⟩, hg⟩
    · intro ρ w' hbw ht hcs hfn hgl hdep
      refine ⟨fun _ => ?_, fun h => by cases h⟩
      obtain ⟨g, vs, s23, hr, hg⟩ := hdep ⟨9, .data⟩ (by simp) rfl 23 rfl
      obtain ⟨s, _, _, d0, d1⟩ := hr.get (v := N - 1) (by omega)
      rw [HRS.out] at d0 d1
      clear ht hdep
      go_simp
      exact ⟨Below.refl _ _, s.a, s.c, rfl, d1.mono (by omega) (Nat.le_refl _)⟩
    · intro ρ w' hbw ht hcs hfn hgl hdep
      refine ⟨fun _ => ?_, fun h => by cases h⟩
      have d24 := hdep ⟨10, .data⟩ (by simp) rfl 24 rfl
      clear ht hdep
      go_simp
      exact ⟨Below.refl _ _, d24⟩
  · intro xx W2 hb2 hx
    obtain ⟨sa, sc, hx11, hAr⟩ := hx 11 (by simp)
    rw [hx11] at hAr
    clear hx
    simp only [putAll, Act.put, List.setIfInBounds_toArray, List.set_cons_succ, List.set_cons_zero, Nat.zero_add, Nat.reduceAdd, hx11]
    generalize xx 0 = k0
    generalize xx 1 = k1
    generalize xx 2 = k2
    generalize xx 3 = k3
    generalize xx 4 = k4
    generalize xx 5 = k5
    generalize xx 6 = k6
    generalize xx 7 = k7
    generalize xx 8 = k8
    generalize xx 9 = k9
    generalize xx 10 = k10
    clear hx11
    replace q6 := q6.later hb2
    obtain ⟨H, hH⟩ : ∃ H, H = W2.heap.size := ⟨_, rfl⟩
    have hl2 : W.heap.size ≤ W2.heap.size := hb2.size
    obtain ⟨br, offr, ar, capr, hvr, hncr, hcmr, haor, hcr⟩ := ArrIn.arr hAr
    simp only [Value.slice.injEq] at hvr
    obtain ⟨rfl, _, rfl⟩ := hvr
    obtain ⟨p9, hp9⟩ : ∃ p, p = W2.heap.size := ⟨_, rfl⟩
    obtain ⟨W3, hW3⟩ : ∃ W3, W3 = W2.alloc (.cells #[.string ⟨#[]⟩, .int .i64 0, .int .i64 0] 48) := ⟨_, rfl⟩
    have hb3 : Below W2.heap.size W2 W3 := by rw [hW3]; exact below_alloc _ _
    have q9 : Box W3 p9 #[.string ⟨#[]⟩, .int .i64 0, .int .i64 0] 48 := by rw [hW3, hp9]; exact Box.new W2 _ _
    have r6 := q6.later hb3
    have hb32 : Below W.heap.size W W3 := hb2.trans (hb3.mono hl2)
    have hge9 : W.heap.size ≤ p9 := by omega
    have hne : p6 ≠ p9 := by have := q6.lt; omega
    have hcr3 : 0 < RS.length → Cells eReading W3 br offr RS ∧ br < p9 := fun hl => by
      have h1 := (haor hl).2
      exact ⟨hcr.below hb3 h1, by omega⟩
    have har3 : 0 < RS.length → sa = some ⟨br, offr, none⟩ := fun hl => (haor hl).1
    have HP9 := hid hp9
    have HW3 := hid hW3
    clear hp9 hW3 hH q6 haor hcr hAr
    go_wp2_with fail
    rw [← HP9.out, ← HW3.out]
    go_loopw [10, 11] (fun fd i wr => ∃ (j : Nat) (o1 : Option DFound), j ≤ RS.length ∧ i = .int .i64 j ∧ fd = .bool o1.isSome ∧ Hid (minL (fndL y (RS.take j)) = o1) ∧ Box wr p6 #[.string ⟨#[]⟩, .int .i64 0, .int .i64 0] 48 ∧ Box wr p9 #[.string (o1.getD fz).word, .int .i64 (o1.getD fz).path, .int .i64 (o1.getD fz).own_] 48 ∧ Below p9 W3 wr) (fun _ i _ => RS.length - (intOf i).toNat)
    case atStart => exact ⟨0, none, Nat.zero_le _, rfl, rfl, hid rfl, r6, q9, Below.refl _ _⟩
    case round =>
      clear r6 q9
      obtain ⟨j, o1, hj, rfl, rfl, HM, r6, q9, hb⟩ := hrel
      have hbr : Below W.heap.size W wr := hb32.trans (hb.mono hge9)
      by_cases hlt : j < RS.length
      · have hji : (j : Int) < (RS.length : Int) := by omega
        obtain rfl := har3 (by omega)
        obtain ⟨hcr3, hbrl⟩ := hcr3 (by omega)
        obtain ⟨r, hr⟩ : ∃ r, RS[j]? = some r := ⟨_, List.getElem?_eq_getElem hlt⟩
        obtain ⟨t0, t1⟩ := eReading_cells (hcr3.below hb hbrl) hr
        have HT := hid (fndL_take (y := y) hr)
        have HFd := hid (CF r.text wr hbr)
        obtain ⟨rt, rc⟩ := r
        simp only at t0 t1 HFd
        clear hr har3
        rcases hfi : findLx y rt with _ | k
        · rw [hfi] at HFd
          have HM2 : Hid (minL (fndL y (RS.take (j + 1))) = o1) := hid (by rw [HT.out]; unfold fndE; simp only [hfi]; simpa using HM.out)
          clear hfi
          go_wp2_with (go_at_call 32; refine HFd.out.mono ?_; rintro e w4 ⟨rfl, rfl⟩)
          go_roundw
          case rel => exact ⟨j + 1, o1, by omega, by go_num, rfl, HM2, r6, q9, hb⟩
          case measure => simp [intOf]; omega
        · rw [hfi, show posOf (some k) = (k : Int) from rfl] at HFd
          obtain ⟨en, hen, _⟩ := find_get hfi
          have hky := (List.getElem?_eq_some_iff.1 hen).1
          have hki : (k : Int) < (y.length : Int) := by omega
          obtain rfl := hayW (by omega)
          have hcy2 := (hcW (by omega)).below hbr (hbyW (by omega))
          obtain ⟨e0, e1⟩ := eEntry_cells hcy2 hen
          have d2 := cell_later hbr c2
          rw [hv2] at d2
          have HM2 : Hid (minL (fndL y (RS.take (j + 1))) = minS o1 ⟨rt, rc, en.cost⟩) := hid (by rw [HT.out]; unfold fndE; simp only [hfi, hen, Option.map_some, Option.toList_some]; rw [minL_snoc, HM.out])
          obtain ⟨ew, ec⟩ := en
          simp only at e0 e1 HM2
          have hkd : decide ((k : Int) < 0) = false := by rw [decide_eq_false_iff_not]; omega
          clear hfi hen hcy2
          have z0 := cell_alloc t0 (.cells #[.string ⟨#[]⟩, .int .i64 0, .int .i64 0] 48)
          have z1 := cell_alloc t1 (.cells #[.string ⟨#[]⟩, .int .i64 0, .int .i64 0] 48)
          have z2 := cell_alloc d2 (.cells #[.string ⟨#[]⟩, .int .i64 0, .int .i64 0] 48)
          have z3 := cell_alloc e1 (.cells #[.string ⟨#[]⟩, .int .i64 0, .int .i64 0] 48)
          go_wp2_with (go_at_call 32; refine HFd.out.mono ?_; rintro e w4 ⟨rfl, rfl⟩)
          go_region
          obtain ⟨pf, hpf⟩ : ∃ p, p = wr.heap.size := ⟨_, rfl⟩
          obtain ⟨w5, hw5⟩ : ∃ w5, w5 = (wr.alloc (.cells #[.string rt, .int .i64 rc, .int .i64 ec] 48)).drew := ⟨_, rfl⟩
          have hm5 : Below wr.heap.size wr w5 := by rw [hw5]; exact (below_alloc _ _).drew
          have f0 : w5.cell? ⟨pf, 0, none⟩ = some (.string rt) := by rw [hw5, hpf]; simp
          have f1 : w5.cell? ⟨pf, 1, none⟩ = some (.int .i64 rc) := by rw [hw5, hpf]; simp
          have f2 : w5.cell? ⟨pf, 2, none⟩ = some (.int .i64 ec) := by rw [hw5, hpf]; simp
          have hbr5 : Below p9 W3 w5 := hb.trans (hm5.mono (Nat.le_of_lt q9.lt))
          have s6 := r6.later hm5
          have s9 := q9.later hm5
          have g0 := s9.cell (j := 0) rfl
          have g1 := s9.cell (j := 1) rfl
          have g2 := s9.cell (j := 2) rfl
          have fr := s9.free
          rw [← hw5, ← hpf]
          clear hw5 hpf z0 z1 z2 z3 t0 t1 d2 e0 e1 hm5 hbr r6 q9
          cases o1 with
          | none =>
            have HM3 : Hid (minL (fndL y (RS.take (j + 1))) = some ⟨rt, rc, ec⟩) := HM2
            clear HM2
            go_wp2
            go_roundw
            case rel =>
              refine ⟨j + 1, some ⟨rt, rc, ec⟩, by omega, by go_num, rfl, HM3, ?_, ?_, ((hbr5.setCell (Nat.le_refl _) _).setCell (Nat.le_refl _) _).setCell (Nat.le_refl _) _⟩
              · exact boxOther (boxOther (boxOther s6 hne) hne) hne
              · exact ((s9.set 0 (.string rt)).set 1 (.int .i64 rc)).set 2 (.int .i64 ec)
            case measure => simp [intOf]; omega
          | some b =>
            have HC := fun w' => l16Before_any ⟨rt, rc, ec⟩ b w'
            have HM3 : Hid (minL (fndL y (RS.take (j + 1))) = some (if ltF ⟨rt, rc, ec⟩ b then ⟨rt, rc, ec⟩ else b)) := HM2
            simp only [Option.getD_some] at g0 g1 g2 s9
            clear HM2
            cases hl : ltF ⟨rt, rc, ec⟩ b
            · rw [hl] at HC HM3
              go_wp2_with (go_at_call 33; refine (HC _).mono ?_; rintro e w6 ⟨rfl, hb6⟩)
              go_roundw
              case rel => exact ⟨j + 1, some b, by omega, by go_num, rfl, HM3, s6.later hb6, s9.later hb6, hbr5.trans (hb6.mono (Nat.le_of_lt s9.lt))⟩
              case measure => simp [intOf]; omega
            · rw [hl] at HC HM3
              go_wp2_with (go_at_call 33; refine (HC _).mono ?_; rintro e w6 ⟨rfl, hb6⟩; have g0 := cell_later hb6 g0; have g1 := cell_later hb6 g1; have g2 := cell_later hb6 g2; have f0 := cell_later hb6 f0; have f1 := cell_later hb6 f1; have f2 := cell_later hb6 f2; have fr := (s9.later hb6).free)
              go_roundw
              case rel =>
                refine ⟨j + 1, some ⟨rt, rc, ec⟩, by omega, by go_num, rfl, HM3, ?_, ?_, (((hbr5.trans (hb6.mono (Nat.le_of_lt s9.lt))).setCell (Nat.le_refl _) _).setCell (Nat.le_refl _) _).setCell (Nat.le_refl _) _⟩
                · exact boxOther (boxOther (boxOther (s6.later hb6) hne) hne) hne
                · exact (((s9.later hb6).set 0 (.string rt)).set 1 (.int .i64 rc)).set 2 (.int .i64 ec)
              case measure => simp [intOf]; omega
      · obtain rfl : j = RS.length := by omega
        have hjd : ¬ ((RS.length : Int) < (RS.length : Int)) := by omega
        have hE : o1 = o := by have h1 := HM.out; rw [List.take_length, HO.out] at h1; exact h1.symm
        subst hE
        have k0 := q9.cell (j := 0) rfl
        have k1 := q9.cell (j := 1) rfl
        have k2 := q9.cell (j := 2) rfl
        have l0 := r6.cell (j := 0) rfl
        have l1 := r6.cell (j := 1) rfl
        have l2 := r6.cell (j := 2) rfl
        have lf := r6.free
        have hbe : Below w.heap.size w wr := hbW.trans (hbr.mono hlW)
        clear hcr3 har3 hcW hbyW hayW q9 r6 HO HM
        obtain ⟨bb, hbb⟩ : ∃ bb, bb = o1.getD fz := ⟨_, rfl⟩
        obtain ⟨ob, hob⟩ : ∃ ob, ob = o1.isSome := ⟨_, rfl⟩
        rw [← hbb] at k0 k1 k2
        rw [← hob]
        have HBB := hid (And.intro hbb hob)
        clear hbb hob
        go_wp2
        refine bodyPost_ret (v := .tuple #[.agg #[.string bb.word, .int .i64 bb.path, .int .i64 bb.own_], .bool ob]) (by simp [results, Tryz.results15, go_sem, l0, l1, l2]) rfl ?_
        exact ⟨by rw [← HBB.out.1, ← HBB.out.2]; rfl, ((hbe.setCell hge6 _).setCell hge6 _).setCell hge6 _⟩
end Go.Proofs.YtcikndmmbfompaaGreatDoor
