/- The implementation's call that adds an edge to a lattice. -/
import Derived.Test.YthooeaappnkjgaaLtAdd
import Derived.Test.YthooeaappnkjgaaLtJoin2
import Derived.Test.YthooeaappnkjgaaWrLattice
import Derived.Test.YthooeaappnkjgaaLtValid
import Derived.Laws.OwnMore
import Derived.Deep.Cut
namespace Go.Proofs.Ythooeaappnkjgaa
open Go.RowKit Go.Sort
attribute [local go_sem ↓] Go.wp_at_zero Go.wp_at_succ

/-- append of nothing onto a slice that the call owns -/
theorem wpList_app0 {P : Program} {w : World} {ops : Array Oper} {rest : List Oper} {o : Oper} {a : Act} {Q : Exit → Act → World → Prop} (hgd : o.guard = none) (s x : Operand) (t : TypeId)
    (ho : o.op = .call { callee := .builtin .append, args := #[s, x], argTypes := #[t, t] })
    (base : Nat) (e : TypeId) (i : TypeInfo) (size : Nat) (ht : P.underlying t = some (.slice e)) (hi : P.info? e = some i) (hsz : i.size = size)
    (g n cap : Nat) (xs : List Value) (hs : a.eval s = .slice (some ⟨g, 0, none⟩) n cap) (hown : w.ownsRow base e size (.slice (some ⟨g, 0, none⟩) n cap) n xs) (hnc : n ≤ cap) (ad : Addr) (c : Nat) (hx : a.eval x = .slice (some ad) 0 c)
    (h : ∀ w', w'.ownsRow base e size (.slice (some ⟨g, 0, none⟩) n cap) n xs → w.grownBy w' (some g) → wpList P ops Q rest (a.put o.dst (.slice (some ⟨g, 0, none⟩) n cap)) w') : wpList P ops Q (o :: rest) a w := by
  refine wpList_plain hgd fun K hK => ?_
  obtain ⟨w', hrun, h1, h2⟩ := run_append_fits (P := P) w base t o.type e i size ht hi hsz g n cap xs hown ad 0 c [] (by simp) (fun j u hu => by simp at hu) (fun u hu => by simp at hu) (by omega)
  unfold Oper.wp
  simp [execOp, ho, resolve, invoke, builtin, hs, hx, hrun, Result.andThen]
  exact hK _ _ (h w' (by simpa using h1) h2)

set_option maxHeartbeats 1000000 in
theorem cloneEd_any2 (v : Value) (x : List DEdge) (w : World) (h : Arr eEdge w v x) (ok : x.length ≤ 1048576) :
    Calls Try.prog 36 #[v] w fun e w' => ∃ u, e = .returned u ∧ (Own eEdge 35 w.heap.size w' u x ∧ (x = [] → ∀ a n c, u = .slice a n c → c = 0)) ∧ Below w.heap.size w w' := by
  by_cases hx : x = []
  case neg =>
    refine (cloneEd_any v x w h ok).mono ?_
    rintro e w' ⟨u, he, ho, hb⟩
    exact ⟨u, he, ⟨ho, fun h0 => absurd h0 hx⟩, hb⟩
  subst hx
  obtain ⟨b, off, ao, cap, rfl, hnc, hcm, hao, hc⟩ := h
  obtain ⟨i0, hi0, hz0, hzs, hzb⟩ := info_parts infEdge
  have q22 : ∀ (w : World) (a : Option Addr) (n c n' c' : Nat), (binOp .eql 29 (.slice a n c) (.slice none n' c')).run Try.prog w = .ok (.bool a.isNone) w := fun w a n c n' c' => Lib.run_eql_slice_nil w _ _ a n c n' c' Try.underlying29
  cases ao with
  | none =>
    go_enter Try.func36, Try.ntmps36
    go_wp2
    go_ret
    exact ⟨_, rfl, ⟨Own.nil _ _ _, fun _ a n c hu => by cases hu; rfl⟩, Below.refl _ _⟩
  | some ad =>
    go_enter Try.func36, Try.ntmps36
    have HI0 := hid hi0
    have HZS := hid hzs
    clear hi0 hz0 hzb hzs
    go_wp2_with (at_builtin; refine wpList_app0 rfl _ _ 29 rfl w.heap.size 35 i0 4 Try.underlying29 HI0.out HZS.out w.heap.size 0 0 [] rfl (World.ownsRow_made _ #[] 0 (Nat.le_refl _) (by decide) rfl) (Nat.le_refl _) ad cap rfl ?_; intro w1 ho1 hg1)
    go_ret
    refine ⟨_, rfl, ⟨ho1, fun _ a n c hu => by cases hu; rfl⟩, ?_⟩
    exact (below_alloc _ _).trans (below_grown hg1 (fun k hk => by cases hk; exact Nat.le_refl _) (by simp))

def qEdge (e : DEdge) : Array Value := #[.int .i64 e.frm, .int .i64 e.to_, .string e.label, .int .i64 e.cost]
/-- a slice that is owned, and a block of one edge, which the list does not hold: they lie apart -/
theorem apartE {B g n cap q : Nat} {w : World} {x : List DEdge} {e : DEdge} (h : Own eEdge 35 B w (.slice (some ⟨g, 0, none⟩) n cap) x) (h0 : x = [] → cap = 0) (hq : Box w q (qEdge e) 35) (hn : hasE x e = false) : q ≠ g := by
  rintro rfl
  obtain ⟨hl, h⟩ := h
  rcases h with ⟨h, _⟩ | ⟨g', cap', cur, hv, _, hg, hnc, hcm, hcs, htake⟩
  · cases h
  simp only [Value.slice.injEq, Option.some.injEq, Addr.mk.injEq, and_true] at hv
  obtain ⟨rfl, rfl, rfl⟩ := hv
  unfold Box at hq
  rw [hq] at hg
  simp only [Option.some.injEq, Obj.cells.injEq, and_true] at hg
  subst hg
  have hcs' : 4 = cap * 4 := hcs
  cases x with
  | nil => have := h0 rfl; omega
  | cons a t =>
    simp only [List.length_cons] at hnc
    have ht : t = [] := List.length_eq_zero_iff.1 (by omega)
    subst ht
    have e1 : eEdge.flat [a] = eEdge.row a := by simp [Enc.flat]
    rw [e1] at htake
    have e2 : eEdge.row a = [.int .i64 a.frm, .int .i64 a.to_, .string a.label, .int .i64 a.cost] := rfl
    rw [e2] at htake
    have e3 : (qEdge e).toList.take ([a].length * eEdge.sz) = [.int .i64 e.frm, .int .i64 e.to_, .string e.label, .int .i64 e.cost] := rfl
    rw [e3] at htake
    simp only [List.cons.injEq, Value.int.injEq, Value.string.injEq, true_and, and_true] at htake
    obtain ⟨h1, h2, h3, h4⟩ := htake
    have : a = e := by
      cases a; cases e
      simp only at h1 h2 h3 h4
      rw [h1, h2, h3, h4]
    subst this
    have hz : ordE a a = 0 := by
      have h5 := swoE.irrefl a
      unfold ltE at h5
      rw [decide_eq_false_iff_not] at h5
      have h6 := ordE_anti a a
      omega
    simp [hasE, hz] at hn

theorem insEd_any {B q : Nat} {x : List DEdge} {e : DEdge} {k : Nat} {u : Value} {w : World} (ho : Own eEdge 35 B w u x) (h0 : x = [] → ∀ a n c, u = .slice a n c → c = 0) (hq : Box w q (qEdge e) 35) (hn : hasE x e = false) (hk : k ≤ x.length) (hl : x.length ≤ 1000) (hB : B ≤ w.heap.size) :
    Calls Try.prog 35 #[u, .int .i64 k, .slice (some ⟨q, 0, none⟩) 1 1] w fun en w' => ∃ u', en = .returned u' ∧ Own eEdge 35 B w' u' (insL x k e) ∧ Below B w w' := by
  rcases ho.shape with ⟨hv, hx⟩ | ⟨g, cap, hv, hg1, hg2⟩
  · subst hv; subst hx
    have hk0 : k = 0 := by simpa using hk
    subst hk0
    refine (insertEdgeNil_any B q e w hq hB).mono ?_
    rintro en w' ⟨u', he, h1, h2⟩
    exact ⟨u', he, h1, below_grown h2 (fun k hk => by cases hk) hB⟩
  · subst hv
    refine (insertEdge_any g cap x.length k B q x e w ho rfl hk hq (apartE ho (fun hx => h0 hx _ _ _ rfl) hq hn) hl hB).mono ?_
    rintro en w' ⟨u', he, h1, h2⟩
    exact ⟨u', he, h1, below_grown h2 (fun k hk => by cases hk; exact hg1) hB⟩
def FinA (B p : Nat) (n : Int) (x : List DEdge) (w w' : World) : Prop := ∃ u, Own eEdge 35 B w' u x ∧ Box w' p #[.int .i64 n, u] 31 ∧ Below p w w'
theorem FinA.below {B p : Nat} {n : Int} {x : List DEdge} {w w' w'' : World} (h : FinA B p n x w w') (hb : Below w'.heap.size w' w'') : FinA B p n x w w'' := by
  obtain ⟨u, h1, h2, h3⟩ := h
  exact ⟨u, h1.below hb, h2.later hb, h3.trans (hb.mono (Nat.le_of_lt h2.lt))⟩
set_option maxHeartbeats 8000000 in
set_option maxRecDepth 100000 in
theorem implAddEdge_any (v1 : Value) (x : XLattice) (e : DEdge) (w : World) {lo1 hi1 : Nat} (h1 : rLattice.at_ lo1 hi1 w v1 x) (ok1 : okLattice x) (g1 : goodLattice x) (ge : goodEdge e) :
    Calls Try.prog 10 #[v1, .agg #[.int .i64 e.frm, .int .i64 e.to_, .string e.label, .int .i64 e.cost]] w (RetNew rLattice (addLt x e) #[.int .i64 (addC x e)] w) := by
  have hws : e.label.size ≤ 9223372036854775807 := ge.2.2.1
  obtain ⟨u1, rfl, h1⟩ := h1
  replace h1 := ArrIn.arr h1
  obtain ⟨n, x⟩ := x
  obtain ⟨a1, k1, hu⟩ := h1.isSlice
  subst hu
  simp only at h1
  have ok1' : x.length ≤ 1048576 := ok1
  obtain ⟨W, hW⟩ : ∃ u, u = (((w.alloc (.cells #[.int .i64 n, .slice a1 x.length k1] 31)).alloc (.cells #[.int .i64 e.frm, .int .i64 e.to_, .string e.label, .int .i64 e.cost] 35)).alloc (.cells #[.int .i64 0, .slice none 0 0] 31)) := ⟨_, rfl⟩
  have hbW : Below w.heap.size w W := by rw [hW]; exact belowA3 _ _ _ _
  have q1 : Box W (w.heap.size) #[.int .i64 n, .slice a1 x.length k1] 31 := by
    have hq := Box.new w #[.int .i64 n, .slice a1 x.length k1] 31
    rw [hW]
    exact ((hq.alloc _).alloc _)
  have q2 : Box W (w.heap.size + 1) #[.int .i64 e.frm, .int .i64 e.to_, .string e.label, .int .i64 e.cost] 35 := by
    have hq := Box.new (w.alloc (.cells #[.int .i64 n, .slice a1 x.length k1] 31)) #[.int .i64 e.frm, .int .i64 e.to_, .string e.label, .int .i64 e.cost] 35
    simp at hq
    rw [hW]
    exact (hq.alloc _)
  have q3 : Box W (w.heap.size + 1 + 1) #[.int .i64 0, .slice none 0 0] 31 := by
    have hq := Box.new ((w.alloc (.cells #[.int .i64 n, .slice a1 x.length k1] 31)).alloc (.cells #[.int .i64 e.frm, .int .i64 e.to_, .string e.label, .int .i64 e.cost] 35)) #[.int .i64 0, .slice none 0 0] 31
    simp at hq
    rw [hW]
    exact hq
  obtain ⟨p1, hp1⟩ : ∃ p, p = w.heap.size := ⟨_, rfl⟩
  rw [← hp1] at q1
  have hge1 : w.heap.size ≤ p1 := by omega
  obtain ⟨p2, hp2⟩ : ∃ p, p = w.heap.size + 1 := ⟨_, rfl⟩
  rw [← hp2] at q2
  have hge2 : w.heap.size ≤ p2 := by omega
  obtain ⟨p3, hp3⟩ : ∃ p, p = w.heap.size + 1 + 1 := ⟨_, rfl⟩
  rw [← hp3] at q3
  have hge3 : w.heap.size ≤ p3 := by omega
  have hlW : w.heap.size ≤ W.heap.size := hbW.size
  have hlp1 : p1 < W.heap.size := q1.lt
  have hlp2 : p2 < W.heap.size := q2.lt
  have hlp3 : p3 < W.heap.size := q3.lt
  have hne12 : p1 ≠ p2 := by omega
  have hne13 : p1 ≠ p3 := by omega
  have hne23 : p2 ≠ p3 := by omega
  have HP1 := hid hp1
  have HP2 := hid hp2
  have HP3 := hid hp3
  have HW := hid hW
  clear hW hp1 hp2 hp3
  have hA := h1.below hbW
  have m0 := q1.cell (j := 0) rfl
  have m1 := q1.cell (j := 1) rfl
  have d0 := q2.cell (j := 0) rfl
  have d1 := q2.cell (j := 1) rfl
  have d2 := q2.cell (j := 2) rfl
  have d3 := q2.cell (j := 3) rfl
  have finish : ∀ (w' : World) (m : Int) (sa : Option Addr) (l sc : Nat) (z : List DEdge) (c : Int), Hid (addLt (n, x) e = (m, z) ∧ addC (n, x) e = c) → Own eEdge 35 w.heap.size w' (.slice sa l sc) z → Below w.heap.size w w' → RetNew rLattice (addLt (n, x) e) #[.int .i64 (addC (n, x) e)] w (.returned (.tuple #[.agg #[.int .i64 m, .slice sa l sc], .int .i64 c])) w' := by
    intro w' m sa l sc z c hz ho hb
    rw [hz.out.1, hz.out.2]
    exact ⟨_, rfl, rLt_new ho (Nat.le_refl _), hb⟩
  have CV := implValidLattice_any (.agg #[.int .i64 n, .slice a1 x.length k1]) (n, x) W (show rLattice.at_ 0 W.heap.size W (.agg #[.int .i64 n, .slice a1 x.length k1]) (n, x) from ⟨_, rfl, hA.in_⟩) ok1 g1
  have CF := fun w' => fitsNodes_any n (.slice a1 x.length k1) e w'
  cases hv : validLt (n, x)
  · have HZ : Hid (addLt (n, x) e = (0, []) ∧ addC (n, x) e = 1) := by show _ ∧ _; simp [addLt, addC, hv]
    rw [hv] at CV
    go_enter Try.func10, Try.ntmps10
    go_wp2_with fail
    rw [← HP3.out, ← HP2.out, ← HP1.out, ← HW.out]
    refine CV.mono ?_
    rintro en w2 ⟨rfl, hb⟩
    have q3' := q3.later hb
    have b0 := q3'.cell (j := 0) rfl
    have b1 := q3'.cell (j := 1) rfl
    have bf := q3'.free
    clear m0 m1 d0 d1 d2 d3
    go_wp2_with fail
    refine bodyPost_ret (v := .tuple #[.agg #[.int .i64 0, .slice none 0 0], .int .i64 1]) (by simp [results, Try.results10, go_sem, b0, b1]) rfl (finish _ _ _ _ _ _ _ HZ (Own.nil _ _ _) ?_)
    exact ((hbW.trans (hb.mono hlW)).setCell hge3 _).setCell hge3 _
  rw [hv] at CV
  have hu := upE_valid hv
  cases hf : fitE n e
  · have HZ : Hid (addLt (n, x) e = (0, []) ∧ addC (n, x) e = 2) := by show _ ∧ _; simp [addLt, addC, hv, hf]
    rw [hf] at CF
    go_enter Try.func10, Try.ntmps10
    go_wp2_with fail
    rw [← HP3.out, ← HP2.out, ← HP1.out, ← HW.out]
    refine CV.mono ?_
    rintro en w2 ⟨rfl, hb⟩
    have t0 := cell_later hb m0
    have t1 := cell_later hb m1
    have u0 := cell_later hb d0
    have u1 := cell_later hb d1
    have u2 := cell_later hb d2
    have u3 := cell_later hb d3
    go_wp2_with fail
    refine (CF w2).mono ?_
    rintro en w3 ⟨rfl, hb3⟩
    replace hb := hb.trans (hb3.mono hb.size)
    have q3' := q3.later hb
    have b0 := q3'.cell (j := 0) rfl
    have b1 := q3'.cell (j := 1) rfl
    have bf := q3'.free
    clear m0 m1 d0 d1 d2 d3
    go_wp2_with fail
    refine bodyPost_ret (v := .tuple #[.agg #[.int .i64 0, .slice none 0 0], .int .i64 2]) (by simp [results, Try.results10, go_sem, b0, b1]) rfl (finish _ _ _ _ _ _ _ HZ (Own.nil _ _ _) ?_)
    exact ((hbW.trans (hb.mono hlW)).setCell hge3 _).setCell hge3 _
  rw [hf] at CF
  cases hl : isLabelB e.label
  · have HZ : Hid (addLt (n, x) e = (0, []) ∧ addC (n, x) e = 7) := by show _ ∧ _; simp [addLt, addC, hv, hf, hl]
    have CL := implLabel_is hws hl
    go_enter Try.func10, Try.ntmps10
    go_wp2_with fail
    rw [← HP3.out, ← HP2.out, ← HP1.out, ← HW.out]
    refine CV.mono ?_
    rintro en w2 ⟨rfl, hb⟩
    have t0 := cell_later hb m0
    have t1 := cell_later hb m1
    have u0 := cell_later hb d0
    have u1 := cell_later hb d1
    have u2 := cell_later hb d2
    have u3 := cell_later hb d3
    go_wp2_with fail
    refine (CF w2).mono ?_
    rintro en w3 ⟨rfl, hb3⟩
    replace hb := hb.trans (hb3.mono hb.size)
    have s2 := cell_later hb d2
    go_wp2_with fail
    refine (CL w3).mono ?_
    rintro en w4 ⟨rfl, rfl⟩
    have q3' := q3.later hb
    have b0 := q3'.cell (j := 0) rfl
    have b1 := q3'.cell (j := 1) rfl
    have bf := q3'.free
    clear m0 m1 d0 d1 d2 d3 s2
    go_wp2_with fail
    refine bodyPost_ret (v := .tuple #[.agg #[.int .i64 0, .slice none 0 0], .int .i64 7]) (by simp [results, Try.results10, go_sem, b0, b1]) rfl (finish _ _ _ _ _ _ _ HZ (Own.nil _ _ _) ?_)
    exact ((hbW.trans (hb.mono hlW)).setCell hge3 _).setCell hge3 _
  have CL := implLabel_is hws hl
  have CS := fun w' (hb : Below W.heap.size W w') => searchEd_any (.slice a1 x.length k1) x e w' (hA.below hb) ok1' hu
  have HV := hid hv
  have HF := hid hf
  have HL := hid hl
  have HU := hid hu
  clear hv hf hl hu
  go_enter Try.func10, Try.ntmps10
  go_wp2_with fail
  rw [← HP3.out, ← HP2.out, ← HP1.out, ← HW.out]
  refine CV.mono ?_
  rintro en w2 ⟨rfl, hb⟩
  have t0 := cell_later hb m0
  have t1 := cell_later hb m1
  have u0 := cell_later hb d0
  have u1 := cell_later hb d1
  have u2 := cell_later hb d2
  have u3 := cell_later hb d3
  go_wp2_with fail
  refine (CF w2).mono ?_
  rintro en w3 ⟨rfl, hb3⟩
  replace hb := hb.trans (hb3.mono hb.size)
  replace t1 := cell_later hb3 t1
  replace u0 := cell_later hb3 u0
  replace u1 := cell_later hb3 u1
  replace u2 := cell_later hb3 u2
  replace u3 := cell_later hb3 u3
  go_wp2_with fail
  refine (CL w3).mono ?_
  rintro en w4 ⟨rfl, rfl⟩
  clear hb3
  go_wp2_with fail
  refine (CS w3 hb).mono ?_
  rintro en w5 ⟨k, hat, rfl, hb5⟩
  replace hb := hb.trans (hb5.mono hb.size)
  clear CV CF CL CS t0 t1 u0 u1 u2 u3
  cases hh : hasE x e
  case true =>
    have HZ : Hid (addLt (n, x) e = (0, []) ∧ addC (n, x) e = 4) := by show _ ∧ _; simp [addLt, addC, HV.out, HF.out, HL.out, hh]
    have q3' := q3.later hb
    have b0 := q3'.cell (j := 0) rfl
    have b1 := q3'.cell (j := 1) rfl
    have bf := q3'.free
    clear m0 m1 d0 d1 d2 d3 hh
    go_wp2_with fail
    refine bodyPost_ret (v := .tuple #[.agg #[.int .i64 0, .slice none 0 0], .int .i64 4]) (by simp [results, Try.results10, go_sem, b0, b1]) rfl (finish _ _ _ _ _ _ _ HZ (Own.nil _ _ _) ?_)
    exact ((hbW.trans (hb.mono hlW)).setCell hge3 _).setCell hge3 _
  have t1 := cell_later hb m1
  by_cases h2 : 200 ≤ x.length
  · have HZ : Hid (addLt (n, x) e = (0, []) ∧ addC (n, x) e = 5) := by show _ ∧ _; simp [addLt, addC, HV.out, HF.out, HL.out, hh, h2, show ¬ x.length < 200 by omega]
    have h2i : (200 : Int) ≤ (x.length : Int) := by omega
    have q3' := q3.later hb
    have b0 := q3'.cell (j := 0) rfl
    have b1 := q3'.cell (j := 1) rfl
    have bf := q3'.free
    clear m0 m1 d0 d1 d2 d3 hh h2
    go_wp2_with fail
    refine bodyPost_ret (v := .tuple #[.agg #[.int .i64 0, .slice none 0 0], .int .i64 5]) (by simp [results, Try.results10, go_sem, b0, b1]) rfl (finish _ _ _ _ _ _ _ HZ (Own.nil _ _ _) ?_)
    exact ((hbW.trans (hb.mono hlW)).setCell hge3 _).setCell hge3 _
  have HZ : Hid (addLt (n, x) e = (n, insL x k e) ∧ addC (n, x) e = 0) := by
    show _ ∧ _
    have hi := atE_ins HU.out hat hh
    simp [addLt, addC, HV.out, HF.out, HL.out, hh, show x.length < 200 by omega, h2, hi]
  have h2i : ¬ ((200 : Int) ≤ (x.length : Int)) := by omega
  have h2d : decide ((200 : Int) ≤ (x.length : Int)) = false := decide_eq_false h2i
  have hkx := hat.1
  have HH := hid hh
  have HX := hid (show x.length ≤ 1000 by omega)
  have u0 := cell_later hb d0
  have u1 := cell_later hb d1
  have u2 := cell_later hb d2
  have u3 := cell_later hb d3
  have t0 := cell_later hb m0
  have q35 := q3.later hb
  have hA5 := hA.below hb
  have hbw5 := hbW.trans (hb.mono hlW)
  have hp3l : p3 < w5.heap.size := q35.lt
  have hw5l : w.heap.size ≤ w5.heap.size := hbw5.size
  have CC := fun w' (hb : Below w5.heap.size w5 w') => cloneEd_any2 _ x w' (hA5.below hb) ok1'
  clear m0 m1 d0 d1 d2 d3 hat hh h2 hb5
  go_upto_region 12 with fail
  refine wp_region_stg 8 10 (fun c w' => match c with | 0 => Below w5.heap.size w5 w' | 1 => Below w5.heap.size w5 w' | _ => FinA w5.heap.size p3 n (insL x k e) w5 w') (fun c i v w' => match i with
        | 0 => v = .pointer (some ⟨p1, 0, none⟩)
        | 1 => v = .int .i64 n
        | 2 => v = .pointer (some ⟨p1, 1, none⟩)
        | 3 => v = .slice a1 x.length k1
        | 4 => (match c with | 0 => (Own eEdge 35 w5.heap.size w' v x ∧ (x = [] → ∀ a n c, v = .slice a n c → c = 0)) | 1 => True | _ => True)
        | 5 => v = .int .i64 k
        | 6 => v = .agg #[.int .i64 e.frm, .int .i64 e.to_, .string e.label, .int .i64 e.cost]
        | 7 => (match c with | 0 => (∃ q, v = .slice (some ⟨q, 0, none⟩) 1 1 ∧ Box w' q (qEdge e) 35) | 1 => True | _ => True)
        | 8 => (match c with | 0 => True | 1 => Own eEdge 35 w5.heap.size w' v (insL x k e) | _ => True)
        | 9 => (match c with | 0 => False | 1 => (∃ u, v = .agg #[.int .i64 n, u] ∧ Own eEdge 35 w5.heap.size w' u (insL x k e)) | _ => True)
        | 10 => (match c with | 0 => True | 1 => True | _ => True)
        | 11 => v = .int .i64 0
        | _ => True) (by kernel_rfl) (by kernel_rfl) (by kernel_rfl) (by kernel_rfl) (by kernel_rfl) ?_ ?_ ?_ ?_ ?_ ?_ (by decide) ?_
  · exact (Below.refl _ w5).drew
  · intro c w w' h hb
    match c, h with
    | 0, h => exact Below.trans (B := w5.heap.size) h (hb.mono (Below.size h))
    | 1, h => exact Below.trans (B := w5.heap.size) h (hb.mono (Below.size h))
    | (k + 2), h => exact (FinA.below h hb)
  · intro c i v w w' h hb
    match i, h with
    | 0, h => exact h
    | 1, h => exact h
    | 2, h => exact h
    | 3, h => exact h
    | 4, h =>
      match c, h with
      | 0, h => exact ⟨h.1.below hb, h.2⟩
      | 1, h => exact trivial
      | (k + 2), h => exact trivial
    | 5, h => exact h
    | 6, h => exact h
    | 7, h =>
      match c, h with
      | 0, h => exact (h.imp fun _ h' => ⟨h'.1, h'.2.later hb⟩)
      | 1, h => exact trivial
      | (k + 2), h => exact trivial
    | 8, h =>
      match c, h with
      | 0, h => exact trivial
      | 1, h => exact h.below hb
      | (k + 2), h => exact trivial
    | 9, h =>
      match c, h with
      | 0, h => exact h
      | 1, h => exact (h.imp fun _ h' => ⟨h'.1, h'.2.below hb⟩)
      | (k + 2), h => exact trivial
    | 10, h =>
      match c, h with
      | 0, h => exact trivial
      | 1, h => exact trivial
      | (k + 2), h => exact trivial
    | 11, h => exact h
    | (k + 12), h => exact h
  · refine ⟨?_, ?_, ?_, ?_, ?_, ?_, ?_, ?_, ?_, ?_, ?_, ?_, trivial⟩
    · refine .inr (.inr ⟨fun _ => ?_, fun _ => ?_, can_no (by kernel_rfl)⟩)
      · intro ρ w' hbw ht hcs hfn hgl hdep G hG
        replace hbw : Below w5.heap.size w5 w' := hbw
        refine ⟨fun _ => ?_, fun h => by cases h⟩
        have s2 : ρ (.tmp 2) = .pointer (some ⟨p1, 0, none⟩) := ht 2 rfl
        clear ht hdep hgl
        go_simp
        exact hG _ _ (Below.refl _ _) rfl
      · intro ρ w' hbw ht hcs hfn hgl hdep G hG
        replace hbw : Below w5.heap.size w5 w' := hbw
        refine ⟨fun _ => ?_, fun h => by cases h⟩
        have s2 : ρ (.tmp 2) = .pointer (some ⟨p1, 0, none⟩) := ht 2 rfl
        clear ht hdep hgl
        go_simp
        exact hG _ _ (Below.refl _ _) rfl
    · refine .inr (.inr ⟨fun _ => ?_, fun _ => ?_, can_no (by kernel_rfl)⟩)
      · intro ρ w' hbw ht hcs hfn hgl hdep G hG
        replace hbw : Below w5.heap.size w5 w' := hbw
        refine ⟨fun _ => ?_, fun h => by cases h⟩
        have s41 : ρ (.tmp 41) = .pointer (some ⟨p1, 0, none⟩) := hdep ⟨0, .data⟩ (by simp) rfl 41 rfl
        have t0 := cell_later hbw t0
        have t1 := cell_later hbw t1
        have u0 := cell_later hbw u0
        have u1 := cell_later hbw u1
        have u2 := cell_later hbw u2
        have u3 := cell_later hbw u3
        clear ht hdep hgl
        go_simp
        exact hG _ _ (Below.refl _ _) rfl
      · intro ρ w' hbw ht hcs hfn hgl hdep G hG
        replace hbw : Below w5.heap.size w5 w' := hbw
        refine ⟨fun _ => ?_, fun h => by cases h⟩
        have s41 : ρ (.tmp 41) = .pointer (some ⟨p1, 0, none⟩) := hdep ⟨0, .data⟩ (by simp) rfl 41 rfl
        have t0 := cell_later hbw t0
        have t1 := cell_later hbw t1
        have u0 := cell_later hbw u0
        have u1 := cell_later hbw u1
        have u2 := cell_later hbw u2
        have u3 := cell_later hbw u3
        clear ht hdep hgl
        go_simp
        exact hG _ _ (Below.refl _ _) rfl
    · refine .inr (.inr ⟨fun _ => ?_, can_no (by kernel_rfl), can_no (by kernel_rfl)⟩)
      · intro ρ w' hbw ht hcs hfn hgl hdep G hG
        replace hbw : Below w5.heap.size w5 w' := hbw
        refine ⟨fun _ => ?_, fun h => by cases h⟩
        have s2 : ρ (.tmp 2) = .pointer (some ⟨p1, 0, none⟩) := ht 2 rfl
        clear ht hdep hgl
        go_simp
        exact hG _ _ (Below.refl _ _) rfl
    · refine .inr (.inr ⟨fun _ => ?_, can_no (by kernel_rfl), can_no (by kernel_rfl)⟩)
      · intro ρ w' hbw ht hcs hfn hgl hdep G hG
        replace hbw : Below w5.heap.size w5 w' := hbw
        refine ⟨fun _ => ?_, fun h => by cases h⟩
        have s43 : ρ (.tmp 43) = .pointer (some ⟨p1, 1, none⟩) := hdep ⟨2, .data⟩ (by simp) rfl 43 rfl
        have t0 := cell_later hbw t0
        have t1 := cell_later hbw t1
        have u0 := cell_later hbw u0
        have u1 := cell_later hbw u1
        have u2 := cell_later hbw u2
        have u3 := cell_later hbw u3
        clear ht hdep hgl
        go_simp
        exact hG _ _ (Below.refl _ _) rfl
    · refine .inr (.inr ⟨fun _ => ?_, can_no (by kernel_rfl), can_no (by kernel_rfl)⟩)
      · intro ρ w' hbw ht hcs hfn hgl hdep G hG
        replace hbw : Below w5.heap.size w5 w' := hbw
        refine ⟨fun _ => ?_, fun h => by cases h⟩
        have s44 : ρ (.tmp 44) = .slice a1 x.length k1 := hdep ⟨3, .data⟩ (by simp) rfl 44 rfl
        clear ht hdep hgl
        go_simp
        exact (CC w' hbw).mono fun e w'' ⟨u, he, ho, hb⟩ => ⟨_, he, hG _ _ hb ⟨ho.1.mono hbw.size, ho.2⟩⟩
    · refine .inr (.inr ⟨fun _ => ?_, can_no (by kernel_rfl), can_no (by kernel_rfl)⟩)
      · intro ρ w' hbw ht hcs hfn hgl hdep G hG
        replace hbw : Below w5.heap.size w5 w' := hbw
        refine ⟨fun _ => ?_, fun h => by cases h⟩
        have s6 : ρ (.tmp 6) = .int .i64 k := ht 6 rfl
        clear ht hdep hgl
        go_simp
        exact hG _ _ (Below.refl _ _) rfl
    · refine .inr (.inr ⟨fun _ => ?_, can_no (by kernel_rfl), can_no (by kernel_rfl)⟩)
      · intro ρ w' hbw ht hcs hfn hgl hdep G hG
        replace hbw : Below w5.heap.size w5 w' := hbw
        refine ⟨fun _ => ?_, fun h => by cases h⟩
        have s3 : ρ (.tmp 3) = .pointer (some ⟨p2, 0, none⟩) := ht 3 rfl
        have t0 := cell_later hbw t0
        have t1 := cell_later hbw t1
        have u0 := cell_later hbw u0
        have u1 := cell_later hbw u1
        have u2 := cell_later hbw u2
        have u3 := cell_later hbw u3
        clear ht hdep hgl
        go_simp
        exact hG _ _ (Below.refl _ _) rfl
    · refine .inr (.inr ⟨fun _ => ?_, can_no (by kernel_rfl), can_no (by kernel_rfl)⟩)
      · intro ρ w' hbw ht hcs hfn hgl hdep G hG
        replace hbw : Below w5.heap.size w5 w' := hbw
        refine ⟨fun _ => ?_, fun h => by cases h⟩
        have s47 : ρ (.tmp 47) = .agg #[.int .i64 e.frm, .int .i64 e.to_, .string e.label, .int .i64 e.cost] := hdep ⟨6, .data⟩ (by simp) rfl 47 rfl
        clear ht hdep hgl
        go_simp
        exact hG _ _ (below_alloc _ _) ⟨_, rfl, Box.new _ _ _⟩
    · exact .inl rfl
    · refine .inr (.inr ⟨can_no (by kernel_rfl), fun _ => ?_, can_no (by kernel_rfl)⟩)
      · intro ρ w' hbw ht hcs hfn hgl hdep G hG
        replace hbw : Below w5.heap.size w5 w' := hbw
        refine ⟨fun _ => ?_, fun h => by cases h⟩
        have s42 : ρ (.tmp 42) = .int .i64 n := hdep ⟨1, .data⟩ (by simp) rfl 42 rfl
        have d49 := hdep ⟨8, .data⟩ (by simp) rfl 49 rfl
        clear ht hdep hgl
        have dh : Own eEdge 35 w5.heap.size w' (ρ (.tmp 49)) (insL x k e) := d49
        obtain ⟨ua, uc, s49⟩ := dh.isSlice
        go_simp
        exact hG _ _ (Below.refl _ _) ⟨_, rfl, by rw [← s49]; exact dh⟩
    · exact .inr (.inl rfl)
    · refine .inr (.inr ⟨fun _ => ?_, fun _ => ?_, fun _ => ?_⟩)
      · intro ρ w' hbw ht hcs hfn hgl hdep G hG
        replace hbw : Below w5.heap.size w5 w' := hbw
        refine ⟨fun _ => ?_, fun h => by cases h⟩
        clear ht hdep hgl
        go_simp
        exact hG _ _ (Below.refl _ _) rfl
      · intro ρ w' hbw ht hcs hfn hgl hdep G hG
        replace hbw : Below w5.heap.size w5 w' := hbw
        refine ⟨fun _ => ?_, fun h => by cases h⟩
        clear ht hdep hgl
        go_simp
        exact hG _ _ (Below.refl _ _) rfl
      · intro ρ w' hbw ht hcs hfn hgl hdep G hG
        refine ⟨fun _ => ?_, fun h => by cases h⟩
        clear ht hdep hgl
        go_simp
        exact hG _ _ (Below.refl _ _) rfl
  · intro o ho
    obtain rfl := Option.some.inj ho
    intro ρ w' hbw ht hcs hfn hgl hdep G hG
    replace hbw : Below w5.heap.size w5 w' := hbw
    refine ⟨fun _ => ?_, fun h => by cases h⟩
    have d45 := hdep ⟨4, .data⟩ (by simp) rfl 45 rfl
    have s46 : ρ (.tmp 46) = .int .i64 k := hdep ⟨5, .data⟩ (by simp) rfl 46 rfl
    have d48 := hdep ⟨7, .data⟩ (by simp) rfl 48 rfl
    clear ht hdep hgl
    obtain ⟨q, s48, bq⟩ := d48
    have s48 : ρ (.tmp 48) = .slice (some ⟨q, 0, none⟩) 1 1 := s48
    have dh : Own eEdge 35 w5.heap.size w' (ρ (.tmp 45)) x ∧ (x = [] → ∀ a n c, ρ (.tmp 45) = .slice a n c → c = 0) := d45
    go_simp
    refine (insEd_any dh.1 dh.2 bq HH.out hkx HX.out hbw.size).mono ?_
    rintro en w7 ⟨u7, rfl, ho7, hb7⟩
    refine ⟨_, rfl, hG _ _ (hbw.trans hb7) ho7 ?_⟩
    intro j u hj hne h
    match j, h with
    | 0, h => exact h
    | 1, h => exact h
    | 2, h => exact h
    | 3, h => exact h
    | 4, h => exact trivial
    | 5, h => exact h
    | 6, h => exact h
    | 7, h => exact trivial
    | 8, h => exact absurd rfl hne
    | 9, h => exact False.elim h
    | 10, h => exact trivial
    | 11, h => exact h
    | (k + 12), h => exact h
  · intro o ho
    obtain rfl := Option.some.inj ho
    intro ρ w' hbw ht hcs hfn hgl hdep G hG
    replace hbw : Below w5.heap.size w5 w' := hbw
    refine ⟨fun _ => ?_, fun h => by cases h⟩
    have s4 : ρ (.tmp 4) = .pointer (some ⟨p3, 0, none⟩) := ht 4 rfl
    have d50 := hdep ⟨9, .data⟩ (by simp) rfl 50 rfl
    clear ht hdep hgl
    obtain ⟨u, s50, ho⟩ : ∃ u, ρ (.tmp 50) = .agg #[.int .i64 n, u] ∧ Own eEdge 35 w5.heap.size w' u (insL x k e) := d50
    obtain ⟨ua, uc, hu⟩ := ho.isSlice
    subst hu
    have q37 := q35.later hbw
    have f0 := q37.cell (j := 0) rfl
    have f1 := q37.cell (j := 1) rfl
    have ff := q37.free
    have hx := hid (show FinA w5.heap.size p3 n (insL x k e) w5 ((w'.setCell ⟨p3, 0, none⟩ (.int .i64 n)).setCell ⟨p3, 1, none⟩ (.slice ua (insL x k e).length uc)) from ⟨_, (ho.setBelow (a := ⟨p3, 0, none⟩) hp3l _).setBelow (a := ⟨p3, 1, none⟩) hp3l _, (q37.set 0 _).set 1 _, ((hbw.mono (Nat.le_of_lt hp3l)).setCell (Nat.le_refl _) _).setCell (Nat.le_refl _) _⟩)
    clear ho
    go_simp
    refine hG _ _ hx.out trivial ?_
    intro j u hj hne h
    match j, h with
    | 0, h => exact h
    | 1, h => exact h
    | 2, h => exact h
    | 3, h => exact h
    | 4, h => exact trivial
    | 5, h => exact h
    | 6, h => exact h
    | 7, h => exact trivial
    | 8, h => exact trivial
    | 9, h => exact trivial
    | 10, h => exact trivial
    | 11, h => exact h
    | (k + 12), h => exact h
  intro xx w6 hF hx
  have hx11 : xx 11 = .int .i64 0 := hx 11 (by simp)
  clear hx
  simp only [putAll, Act.put, List.setIfInBounds_toArray, List.set_cons_succ, List.set_cons_zero, Nat.zero_add, Nat.reduceAdd, hx11]
  clear hx11
  obtain ⟨u, ho, bx, hb6⟩ := hF
  obtain ⟨ua, uc, hu⟩ := ho.isSlice
  subst hu
  have b0 := bx.cell (j := 0) rfl
  have b1 := bx.cell (j := 1) rfl
  go_wp2_with fail
  refine bodyPost_ret (v := .tuple #[.agg #[.int .i64 n, .slice ua (insL x k e).length uc], .int .i64 0]) (by simp [results, Try.results10, go_sem, b0, b1]) rfl (finish _ _ _ _ _ _ _ HZ (ho.mono hw5l) ?_)
  exact hbw5.trans (hb6.mono hge3)
end Go.Proofs.Ythooeaappnkjgaa
