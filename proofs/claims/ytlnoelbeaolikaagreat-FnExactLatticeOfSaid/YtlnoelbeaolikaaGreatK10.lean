/- A copy of ink: copyInk, by mapInk with a closure that returns its argument. -/
import Derived.Test.YtlnoelbeaolikaaGreatK09
import Derived.Test.YtlnoelbeaolikaaGreatK08
import Derived.Test.YtlnoelbeaolikaaGreatK06
import Derived.BigQuiet
import Derived.Deep.QuietTactic
import Derived.Deep.Draws
import Derived.BigRegion
import Derived.IntWalk
import Derived.Deep.CutBlock
import Derived.Deep.DeepCutAuto
namespace Go.Proofs.YtlnoelbeaolikaaGreat
open Go.RowKit
set_option maxHeartbeats 400000 in
theorem copyPt_any (p : DPoint) (w : World) : Calls Tryz.prog 123 #[.agg #[.int .i64 p.x, .int .i64 p.y, .int .i64 p.t]] w (Ret (.agg #[.int .i64 p.x, .int .i64 p.y, .int .i64 p.t]) w) := by
 go_enter Tryz.func123, Tryz.ntmps123
 go_wp2
 exact bodyPost_ret (v := .agg #[.int .i64 p.x, .int .i64 p.y, .int .i64 p.t]) (by simp [results, Tryz.results123, go_sem]) rfl
  ⟨rfl, belowA2 _ _ _⟩
theorem wpList_appG {α : Type} {E : Enc α} {P : Program} {w : World} {ops : Array Oper} {rest : List Oper} {o : Oper} {a : Act} {Q : Exit → Act → World → Prop} (hgd : o.guard = none) (s x : Operand) (t : TypeId)
  (ho : o.op = .call { callee := .builtin .append, args := #[s, x], argTypes := #[t, t] })
  (B : Nat) (e : TypeId) (z : Value) (bytes : Nat) (hi : (P.info? e).map (fun i => (i.zero, i.size, i.bytes)) = some (some z, E.sz, bytes)) (ht : P.underlying t = some (.slice e)) (hzs : z.cells.size = E.sz)
  (v : Value) (xs : List α) (hs : a.eval s = v) (hown : Own E e B w v xs) (vx : Value) (ys : List α) (hx : a.eval x = vx) (hy : Arr E w vx ys)
  (h63 : xs.length + ys.length ≤ maxLen) (hbytes : (xs.length + ys.length) * bytes ≤ 140737488355328) (hB : B ≤ w.heap.size)
  (h : ∀ v' w', Own E e B w' v' (xs ++ ys) → w.grownBy w' v.ownBlock → (v'.ownBlock = v.ownBlock ∨ v'.ownBlock = some w.heap.size) → wpList P ops Q rest (a.put o.dst v') w') : wpList P ops Q (o :: rest) a w := by
 refine wpList_plain hgd fun K hK => ?_
 obtain ⟨v', w', hr, h1, h2, h3⟩ := run_append_arrO (P := P) t o.type B e z bytes hi ht hzs v xs hown vx ys hy h63 hbytes hB
 unfold Oper.wp execOp
 simp only [ho, resolve, invoke, builtin, Sem.run_bind, Sem.run_pure, Result.andThen_ok, List.map_toArray, List.map_cons, List.map_nil, hs, hx, hr]
 exact hK _ _ (h v' w' h1 h2 h3)
/-- a stroke that is put together in the block p -/
def FinSt (p : Nat) (U : World) (x : XStroke) (w : World) : Prop := ∃ uo, Box w p #[uo] 112 ∧ Own ePoint 114 (p + 1) w uo x ∧ Below p U w
theorem FinSt.below {p : Nat} {U : World} {x : XStroke} {w w' : World} (h : FinSt p U x w) (hb : Below w.heap.size w w') : FinSt p U x w' := by
 obtain ⟨uo, h1, h2, h3⟩ := h
 exact ⟨uo, h1.later hb, h2.below hb, h3.trans (hb.mono (Nat.le_of_lt h1.lt))⟩
theorem take_push {α : Type} {x : List α} {k : Nat} {a : α} (h : x[k]? = some a) : x.take k ++ [a] = x.take (k + 1) := by
 rw [List.take_add_one, h]; rfl
def tkP (x : XStroke) (k : Nat) : XStroke := x.take k
def tkI (X : XInk) (k : Nat) : XInk := X.take k
theorem tkP_push {x : XStroke} {k : Nat} {a : DPoint} (h : x[k]? = some a) : tkP x k ++ [a] = tkP x (k + 1) := take_push h
theorem tkI_push {X : XInk} {k : Nat} {a : XStroke} (h : X[k]? = some a) : tkI X k ++ [a] = tkI X (k + 1) := take_push h
theorem tkP_len {x : XStroke} {k : Nat} (h : k ≤ x.length) : (tkP x k).length = k := by unfold tkP; rw [List.length_take]; omega
theorem tkI_len {X : XInk} {k : Nat} (h : k ≤ X.length) : (tkI X k).length = k := by unfold tkI; rw [List.length_take]; omega
def CopyPost (X : XInk) (w : World) (e : Ending) (w' : World) : Prop := ∃ uo vs, e = .returned (.agg #[uo]) ∧ NestG w.heap.size w'.heap.size uo vs X w' ∧ Below w.heap.size w w'
set_option maxRecDepth 100000 in
set_option maxHeartbeats 4000000 in
theorem mapInk_any (v : Value) (X : XInk) (w : World) (h : Strokes w v X) (ok : okInk X) (hX : X.length ≤ 16) :
  Calls Tryz.prog 122 #[.agg #[v], .func (.func 123) #[] #[]] w (CopyPost X w) := by
 have h0 := h
 obtain ⟨b, off, ao, cap, us, rfl, hnc, hcm, hao, hcl, hul, hin⟩ := h.slice
 unfold maxLen at hcm
 have HUL := hid hul
 have HIN := hid hin
 clear hul hin h
 obtain ⟨W, hW⟩ : ∃ u, u = ((w.alloc (.cells #[.slice ao X.length cap] 41)).alloc (.cells #[.slice none 0 0] 41)) := ⟨_, rfl⟩
 have hbW : Below w.heap.size w W := by rw [hW]; exact belowA2 _ _ _
 have q1 : Box W (w.heap.size) #[.slice ao X.length cap] 41 := by
  have hq := Box.new w #[.slice ao X.length cap] 41
  rw [hW]
  exact (hq.alloc _)
 have q2 : Box W (w.heap.size + 1) #[.slice none 0 0] 41 := by
  have hq := Box.new (w.alloc (.cells #[.slice ao X.length cap] 41)) #[.slice none 0 0] 41
  simp at hq
  rw [hW]
  exact hq
 obtain ⟨p1, hp1⟩ : ∃ p, p = w.heap.size := ⟨_, rfl⟩
 rw [← hp1] at q1
 have hge1 : w.heap.size ≤ p1 := by omega
 obtain ⟨p2, hp2⟩ : ∃ p, p = w.heap.size + 1 := ⟨_, rfl⟩
 rw [← hp2] at q2
 have hge2 : w.heap.size ≤ p2 := by omega
 have hlW : w.heap.size ≤ W.heap.size := hbW.size
 have hlp1 : p1 < W.heap.size := q1.lt
 have hlp2 : p2 < W.heap.size := q2.lt
 have hne12 : p1 ≠ p2 := by omega
 have HP1 := hid hp1
 have HP2 := hid hp2
 have HW := hid hW
 clear hW hp1 hp2
 have m0 := q1.cell (j := 0) rfl
 have hnp := hne12
 go_enter Tryz.func122, Tryz.ntmps122
 go_upto_region 1 with fail
 rw [← HP2.out, ← HP1.out, ← HW.out]
 obtain ⟨q, hqq⟩ : ∃ q, q = W.heap.size := ⟨_, rfl⟩
 obtain ⟨w4, hw4⟩ : ∃ u, u = W.alloc (.cells #[.slice none 0 0] 41) := ⟨_, rfl⟩
 have hb4 : Below W.heap.size W w4 := by rw [hw4]; exact below_alloc _ _
 have hx4 : FinG q w4 (tkI X 0) w4 := by rw [hw4, hqq]; exact ⟨_, [], Box.new _ _ _, nestG_emp _, Below.refl _ _⟩
 have n4 := cell_later hb4 m0
 have bx4 := q2.later hb4
 have hp2q : p2 < q := by have := q2.lt; omega
 have hp1q : p1 < q := by have := q1.lt; omega
 have hwq : w.heap.size ≤ q := by omega
 have hbE4 : Below w.heap.size w w4 := hbW.trans (hb4.mono hlW)
 go_upto_region 3 with fail
 rw [← hw4, ← hqq]
 clear hw4 hqq m0 q1 q2 hb4
 go_loopw [14] (fun i wr => ∃ k : Nat, k ≤ X.length ∧ i = .int .i64 k ∧ FinG q w4 (tkI X k) wr) (fun i _ => X.length - (intOf i).toNat)
 case atStart => exact ⟨0, Nat.zero_le _, rfl, hx4⟩
 case round =>
  clear hx4
  obtain ⟨w1, rfl⟩ : ∃ u, u = wr := ⟨wr, rfl⟩
  obtain ⟨k, hk, rfl, hF⟩ := hrel
  have hbR : Below w.heap.size w w1 := by obtain ⟨_, _, _, _, h3⟩ := hF; exact hbE4.trans (h3.mono hwq)
  have hqR : q < w1.heap.size := by obtain ⟨_, _, h1, _, _⟩ := hF; exact h1.lt
  by_cases hlt : k < X.length
  ·have hli : (k : Int) < (X.length : Int) := by omega
   obtain ⟨hao', hbw⟩ := hao (by omega)
   subst hao'
   obtain ⟨x, hx⟩ : ∃ x, X[k]? = some x := ⟨_, List.getElem?_eq_getElem hlt⟩
   obtain ⟨sr, hsv⟩ : ∃ s, us[k]? = some s := ⟨_, List.getElem?_eq_getElem (by rw [HUL.out]; exact hlt)⟩
   have d0 := eS1_cells (hcl.below hbR hbw) hsv
   have hA := (HIN.out k sr x hsv hx).below hbR
   have hxl : x.length ≤ 1048576 := okInk_st ok hx
   obtain ⟨xa, xc, hxv⟩ := hA.isSlice
   rw [hxv] at hA
   have hxv2 : Value.slice sr.a sr.n sr.c = .slice xa x.length xc := hxv
   rw [hxv2] at d0
   have hAA := hA
   obtain ⟨pb, po, pa, pc, hpv, hpn, hpm, hpa, hpc⟩ := hAA
   cases hpv
   unfold maxLen at hpm
   have HXX := hid hx
   clear hx hsv hxv hxv2
   have HF := hid hF
   clear hF
   go_upto_region 7 with fail
   obtain ⟨p8, hp8⟩ : ∃ p, p = w1.heap.size + 1 := ⟨_, rfl⟩
   obtain ⟨w5, hw5⟩ : ∃ u, u = (w1.alloc (.cells #[.slice xa x.length xc] 112)).alloc (.cells #[.slice none 0 0] 112) := ⟨_, rfl⟩
   rw [← hp8, ← hw5]
   have hb5 : Below w1.heap.size w1 w5 := by rw [hw5]; exact belowA2 _ _ _
   have hx5 : FinSt p8 w5 (tkP x 0) w5 := by
    have hq := Box.new (w1.alloc (.cells #[.slice xa x.length xc] 112)) #[.slice none 0 0] 112
    simp at hq
    rw [← hp8, ← hw5] at hq
    exact ⟨_, hq, Own.nil _ _ _, Below.refl _ _⟩
   have hp8w : w1.heap.size ≤ p8 := by omega
   have hs5 := hb5.size
   have hA5 := hA.below hb5
   have hpc5 := hpc.below hb5 (b := pb)
   clear hp8 hw5
   go_loopw [21] (fun i wz => ∃ j : Nat, j ≤ x.length ∧ i = .int .i64 j ∧ FinSt p8 w5 (tkP x j) wz) (fun i _ => x.length - (intOf i).toNat)
   case atStart => exact ⟨0, Nat.zero_le _, rfl, hx5⟩
   case round =>
    clear hx5
    obtain ⟨w2, rfl⟩ : ∃ u, u = wr := ⟨wr, rfl⟩
    obtain ⟨j, hj, rfl, uo, hbx, hst, hbl⟩ := hrel
    have hpl := tkP_len hj
    obtain ⟨Z, hZ⟩ : ∃ Z, Z = tkP x j := ⟨_, rfl⟩
    rw [← hZ] at hst hpl
    have HZ := hid hZ
    have HPL := hid hpl
    obtain ⟨oa, oc, huo⟩ := hst.isSlice
    rw [hpl] at huo
    subst huo
    have a1 := hbx.cell (j := 0) rfl
    have hlt' := hbx.lt
    have hb25 := hb5.trans (hbl.mono hp8w)
    clear hZ hpl
    by_cases hjt : j < x.length
    ·have hji : (j : Int) < (x.length : Int) := by omega
     obtain ⟨hpa', hpw⟩ := hpa (by omega)
     subst hpa'
     obtain ⟨a, ha⟩ : ∃ a, x[j]? = some a := ⟨_, List.getElem?_eq_getElem hjt⟩
     obtain ⟨e0, e1, e2⟩ := ePoint_cells (hpc.below hb25 hpw) ha
     have HT := hid (show Z ++ [a] = tkP x (j + 1) by rw [HZ.out]; exact tkP_push ha)
     clear ha
     go_upto_region 9 with fail
     obtain ⟨p10, hp10⟩ : ∃ p, p = w2.heap.size := ⟨_, rfl⟩
     obtain ⟨w6, hw6⟩ : ∃ u, u = w2.alloc (.cells #[.int .i64 a.x, .int .i64 a.y, .int .i64 a.t] 114) := ⟨_, rfl⟩
     rw [← hp10, ← hw6]
     have hb6 : Below w2.heap.size w2 w6 := by rw [hw6]; exact below_alloc _ _
     have q10 : Box w6 p10 #[.int .i64 a.x, .int .i64 a.y, .int .i64 a.t] 114 := by rw [hw6, hp10]; exact Box.new _ _ _
     have f0 := q10.cell (j := 0) rfl
     have f1 := q10.cell (j := 1) rfl
     have f2 := q10.cell (j := 2) rfl
     have hbx6 := hbx.later hb6
     have hst6 := hst.below hb6
     have hbl6 := hbl.trans (hb6.mono (Nat.le_of_lt hlt'))
     have a16 := hbx6.cell (j := 0) rfl
     have hlt6 := hbx6.lt
     clear hp10 hw6 a1 hbx hst hbl e0 e1 e2
     refine wp_region_stg 6 8 (fun c w' => match c with | 0 => Below w6.heap.size w6 w' | 1 => (Box w' p8 #[.slice oa j oc] 112 ∧ Below p8 w6 w') | _ => FinSt p8 w5 (Z ++ [a]) w') (fun c i v w' => match i with
           | 0 => v = .pointer (some ⟨p8, 0, none⟩)
           | 1 => v = .slice oa j oc
           | 2 => v = .func (.func 123) #[] #[]
           | 3 => v = .agg #[.int .i64 a.x, .int .i64 a.y, .int .i64 a.t]
           | 4 => (match c with | 0 => (v = .agg #[.int .i64 a.x, .int .i64 a.y, .int .i64 a.t]) | 1 => True | _ => True)
           | 5 => (match c with | 0 => (Arr ePoint w' v [a]) | 1 => True | _ => True)
           | 6 => (match c with | 0 => True | 1 => (Own ePoint 114 (p8 + 1) w' v (Z ++ [a])) | _ => True)
           | 7 => v = .pointer (some ⟨p8, 0, none⟩)
           | 8 => (match c with | 0 => True | 1 => True | _ => True)
           | _ => True) (by kernel_rfl) (by kernel_rfl) (by kernel_rfl) (by kernel_rfl) (by kernel_rfl) ?_ ?_ ?_ ?_ ?_ ?_ (by decide) ?_
     ·exact (Below.refl _ w6).drew
     ·intro c w w' h hb
      match c, h with
      | 0, h => exact Below.trans (B := w6.heap.size) h (hb.mono (Below.size h))
      | 1, h => exact ⟨h.1.later hb, h.2.trans (hb.mono (Nat.le_of_lt h.1.lt))⟩
      | (k + 2), h => exact (FinSt.below h hb)
     ·intro c i v w w' h hb
      match i, h with
      | 0, h => exact h
      | 1, h => exact h
      | 2, h => exact h
      | 3, h => exact h
      | 4, h =>
       match c, h with
       | 0, h => exact h
       | 1, h => exact trivial
       | (k + 2), h => exact trivial
      | 5, h =>
       match c, h with
       | 0, h => exact h.below hb
       | 1, h => exact trivial
       | (k + 2), h => exact trivial
      | 6, h =>
       match c, h with
       | 0, h => exact trivial
       | 1, h => exact h.below hb
       | (k + 2), h => exact trivial
      | 7, h => exact h
      | 8, h =>
       match c, h with
       | 0, h => exact trivial
       | 1, h => exact trivial
       | (k + 2), h => exact trivial
      | (k + 9), h => exact h
     ·refine ⟨?_, ?_, ?_, ?_, ?_, ?_, ?_, ?_, ?_, trivial⟩
      ·refine .inr (.inr ⟨fun _ => ?_, can_no (by kernel_rfl), can_no (by kernel_rfl)⟩)
       ·intro ρ w' hbw ht hcs hfn hgl hdep G hG
        replace hbw : Below w6.heap.size w6 w' := hbw
        refine ⟨fun _ => ?_, fun h => by cases h⟩
        have s8 : ρ (.tmp 8) = .pointer (some ⟨p8, 0, none⟩) := ht 8 rfl
        clear ht hdep hgl
        go_simp
        exact hG _ _ (Below.refl _ _) rfl
      ·refine .inr (.inr ⟨fun _ => ?_, can_no (by kernel_rfl), can_no (by kernel_rfl)⟩)
       ·intro ρ w' hbw ht hcs hfn hgl hdep G hG
        replace hbw : Below w6.heap.size w6 w' := hbw
        refine ⟨fun _ => ?_, fun h => by cases h⟩
        have s25 : ρ (.tmp 25) = .pointer (some ⟨p8, 0, none⟩) := hdep ⟨0, .data⟩ (by simp) rfl 25 rfl
        have a16 := cell_later hbw a16
        have f0 := cell_later hbw f0
        have f1 := cell_later hbw f1
        have f2 := cell_later hbw f2
        clear ht hdep hgl
        go_simp
        exact hG _ _ (Below.refl _ _) rfl
      ·refine .inr (.inr ⟨fun _ => ?_, can_no (by kernel_rfl), can_no (by kernel_rfl)⟩)
       ·intro ρ w' hbw ht hcs hfn hgl hdep G hG
        replace hbw : Below w6.heap.size w6 w' := hbw
        refine ⟨fun _ => ?_, fun h => by cases h⟩
        have s1 : ρ (.tmp 1) = .func (.func 123) #[] #[] := ht 1 rfl
        clear ht hdep hgl
        go_simp
        exact hG _ _ (Below.refl _ _) rfl
      ·refine .inr (.inr ⟨fun _ => ?_, can_no (by kernel_rfl), can_no (by kernel_rfl)⟩)
       ·intro ρ w' hbw ht hcs hfn hgl hdep G hG
        replace hbw : Below w6.heap.size w6 w' := hbw
        refine ⟨fun _ => ?_, fun h => by cases h⟩
        have s10 : ρ (.tmp 10) = .pointer (some ⟨p10, 0, none⟩) := ht 10 rfl
        have a16 := cell_later hbw a16
        have f0 := cell_later hbw f0
        have f1 := cell_later hbw f1
        have f2 := cell_later hbw f2
        clear ht hdep hgl
        go_simp
        exact hG _ _ (Below.refl _ _) rfl
      ·refine .inr (.inr ⟨fun _ => ?_, can_no (by kernel_rfl), can_no (by kernel_rfl)⟩)
       ·intro ρ w' hbw ht hcs hfn hgl hdep G hG
        replace hbw : Below w6.heap.size w6 w' := hbw
        refine ⟨fun _ => ?_, fun h => by cases h⟩
        have s27 : ρ (.tmp 27) = .func (.func 123) #[] #[] := hdep ⟨2, .data⟩ (by simp) rfl 27 rfl
        have s28 : ρ (.tmp 28) = .agg #[.int .i64 a.x, .int .i64 a.y, .int .i64 a.t] := hdep ⟨3, .data⟩ (by simp) rfl 28 rfl
        clear ht hdep hgl
        go_simp
        exact (copyPt_any a w').mono fun e w'' he => ⟨_, he.1, hG _ _ he.2 rfl⟩
      ·refine .inr (.inr ⟨fun _ => ?_, can_no (by kernel_rfl), can_no (by kernel_rfl)⟩)
       ·intro ρ w' hbw ht hcs hfn hgl hdep G hG
        replace hbw : Below w6.heap.size w6 w' := hbw
        refine ⟨fun _ => ?_, fun h => by cases h⟩
        have d29 := hdep ⟨4, .data⟩ (by simp) rfl 29 rfl
        clear ht hdep hgl
        have s29 : ρ (.tmp 29) = .agg #[.int .i64 a.x, .int .i64 a.y, .int .i64 a.t] := d29
        go_simp
        exact hG _ _ (below_alloc _ _) (arr_block1 (E := ePoint) (n := 1) [a] #[.int .i64 a.x, .int .i64 a.y, .int .i64 a.t] rfl rfl (by decide) (by simp))
      ·exact .inl rfl
      ·refine .inr (.inr ⟨fun _ => ?_, fun _ => ?_, can_no (by kernel_rfl)⟩)
       ·intro ρ w' hbw ht hcs hfn hgl hdep G hG
        replace hbw : Below w6.heap.size w6 w' := hbw
        refine ⟨fun _ => ?_, fun h => by cases h⟩
        have s8 : ρ (.tmp 8) = .pointer (some ⟨p8, 0, none⟩) := ht 8 rfl
        clear ht hdep hgl
        go_simp
        exact hG _ _ (Below.refl _ _) rfl
       ·intro ρ w' hbw ht hcs hfn hgl hdep G hG
        replace hbw : (Box w' p8 #[.slice oa j oc] 112 ∧ Below p8 w6 w') := hbw
        refine ⟨fun _ => ?_, fun h => by cases h⟩
        have s8 : ρ (.tmp 8) = .pointer (some ⟨p8, 0, none⟩) := ht 8 rfl
        clear ht hdep hgl
        go_simp
        exact hG _ _ (Below.refl _ _) rfl
      ·exact .inr (.inl rfl)
     ·intro o ho
      obtain rfl := Option.some.inj ho
      intro ρ w' hbw ht hcs hfn hgl hdep G hG
      replace hbw : Below w6.heap.size w6 w' := hbw
      refine ⟨fun _ => ?_, fun h => by cases h⟩
      have s26 : ρ (.tmp 26) = .slice oa j oc := hdep ⟨1, .data⟩ (by simp) rfl 26 rfl
      have d30 := hdep ⟨5, .data⟩ (by simp) rfl 30 rfl
      clear ht hdep hgl
      refine upon_appO _ _ 110 (by rfl) (p8 + 1) 114 _ 24 infPointG Tryz.underlying110 rfl _ Z s26 (hst6.below hbw) [a] d30 (by rw [HPL.out]; unfold maxLen; simp <;> omega) (by rw [HPL.out]; simp <;> omega) (by have := hbw.size; omega) ?_
      intro v' wA hoA hgA hlA
      refine hG _ _ ⟨grownBoxG (hbx6.later hbw) hgA (by intro hh; have := (World.ownsRow.lt (hst6.below hbw) p8 hh).1; omega), (hbw.mono (Nat.le_of_lt hlt6)).grown hgA (by have := hbw.size; omega) (fun kk hh => by have := (World.ownsRow.lt (hst6.below hbw) kk hh).1; omega)⟩ hoA ?_
      intro j u hj hne h
      match j, h with
      | 0, h => exact h
      | 1, h => exact h
      | 2, h => exact h
      | 3, h => exact h
      | 4, h => exact trivial
      | 5, h => exact trivial
      | 6, h => exact absurd rfl hne
      | 7, h => exact h
      | 8, h => exact trivial
      | (k + 9), h => exact h
     ·intro o ho
      obtain rfl := Option.some.inj ho
      intro ρ w' hbw ht hcs hfn hgl hdep G hG
      replace hbw : (Box w' p8 #[.slice oa j oc] 112 ∧ Below p8 w6 w') := hbw
      refine ⟨fun _ => ?_, fun h => by cases h⟩
      have s32 : ρ (.tmp 32) = .pointer (some ⟨p8, 0, none⟩) := hdep ⟨7, .data⟩ (by simp) rfl 32 rfl
      have d31 := hdep ⟨6, .data⟩ (by simp) rfl 31 rfl
      clear ht hdep hgl
      have g0 := hbw.1.cell (j := 0) rfl
      have gf := hbw.1.free
      obtain ⟨ua, uc, hu⟩ := d31.isSlice
      rw [show (Z ++ [a]).length = j + 1 by rw [List.length_append, HPL.out]; rfl] at hu
      rw [hu] at d31
      have hx := hid (show FinSt p8 w5 (Z ++ [a]) (w'.setCell ⟨p8, 0, none⟩ (.slice ua (j + 1) uc)) from ⟨_, hbw.1.set 0 _, d31.setBelow (a := ⟨p8, 0, none⟩) (Nat.lt_succ_self p8) _, (hbl6.trans hbw.2).setCell (Nat.le_refl _) _⟩)
      clear d31
      go_simp
      refine hG _ _ hx.out trivial ?_
      intro j u hj hne h
      match j, h with
      | 0, h => exact h
      | 1, h => exact h
      | 2, h => exact h
      | 3, h => exact h
      | 4, h => exact trivial
      | 5, h => exact trivial
      | 6, h => exact trivial
      | 7, h => exact h
      | 8, h => exact trivial
      | (k + 9), h => exact h
     intro xx w7 hF hx
     clear hx
     simp only [putAll, Act.put, List.setIfInBounds_toArray, List.set_cons_succ, List.set_cons_zero, Nat.zero_add, Nat.reduceAdd]
     go_wp2_with fail
     go_roundw
     case rel => exact ⟨j + 1, by omega, by go_num, by rw [← HT.out]; exact hF⟩
     case measure => simp [intOf]; omega
    ·obtain rfl : j = x.length := by omega
     have hji : ¬ ((x.length : Int) < (x.length : Int)) := by omega
     have hZx : Z = x := by rw [HZ.out]; exact List.take_length
     subst hZx
     clear HZ HPL
     obtain ⟨vo, vs, gbx0, gst0, gbl0⟩ := HF.out
     obtain ⟨Y, hY⟩ : ∃ Y, Y = tkI X k := ⟨_, rfl⟩
     rw [← hY] at gst0
     have hvl : vs.length = k := by rw [gst0.len, hY]; exact tkI_len hk
     obtain ⟨ga, gc, hgo⟩ := gst0.outer.1.isSlice
     rw [hvl] at hgo
     subst hgo
     have gst := nestG_below gst0 hb25
     have gbx := gbx0.later hb25
     have gbl := gbl0.trans (hb25.mono (Nat.le_of_lt hqR))
     have hNw : NewG w1.heap.size (w2.alloc (.cells #[.slice oa Z.length oc] 112)) ⟨oa, Z.length, oc⟩ Z := NewG.below (hst.in_.mono (by omega) (Nat.le_refl _)) (below_alloc _ _)
     have hb2a : Below w1.heap.size w1 (w2.alloc (.cells #[.slice oa Z.length oc] 112)) := hb25.trans ((below_alloc _ _).mono hb25.size)
     have hq1w : q + 1 ≤ w1.heap.size := hqR
     have HV := hid hvl
     have HT := hid (show Y ++ [Z] = tkI X (k + 1) by rw [hY]; exact tkI_push HXX.out)
     have g0 := gbx.cell (j := 0) rfl
     have glt := gbx.lt
     clear hY hvl
     go_wp2_with (at_builtin; refine wpList_appG rfl _ _ 39 rfl (q + 1) 112 _ 24 infStrokeG Tryz.underlying39 rfl _ vs (by rfl) ((nestG_below gst (below_alloc _ (.cells #[.slice oa Z.length oc] 112))).outer.1) _ [(⟨oa, Z.length, oc⟩ : SV)] (by rfl) (arr_block1 (E := eS1) (n := 1) [(⟨oa, Z.length, oc⟩ : SV)] #[.slice oa Z.length oc] rfl rfl (by decide) (by simp)) (by rw [HV.out]; unfold maxLen; simp <;> omega) (by rw [HV.out]; simp <;> omega) (by simp <;> omega) ?_)
     intro u7 w7 ho7 hg7 _
     obtain ⟨ua, uc, hu7⟩ := ho7.isSlice
     rw [show (vs ++ [(⟨oa, Z.length, oc⟩ : SV)]).length = k + 1 by rw [List.length_append, HV.out]; rfl] at hu7
     subst hu7
     have hP := nestG_push gst0 hq1w hb2a hNw ho7 hg7
     have gbxA := gbx.alloc (.cells #[.slice oa Z.length oc] 112)
     have gneq : ∀ kk, (Value.slice ga k gc).ownBlock = some kk → q < kk := fun kk hh => by have := (World.ownsRow.lt (nestG_outer gst0 hb2a) kk hh).1; omega
     have gbx7 := grownBoxG gbxA hg7 (fun hh => by have := gneq q hh; omega)
     have gbl7 : Below q w4 w7 := (gbl.trans ((below_alloc _ _).mono (Nat.le_of_lt glt))).grown hg7 (by simp <;> omega) (fun kk hh => Nat.le_of_lt (gneq kk hh))
     have f0 := gbx7.cell (j := 0) rfl
     have ff := gbx7.free
     have hx := hid (show FinG q w4 (tkI X (k + 1)) (w7.setCell ⟨q, 0, none⟩ (.slice ua (k + 1) uc)) from by
      rw [← HT.out]
      exact ⟨_, _, gbx7.set 0 _, by simpa using nestG_chg hP (chg_set w7 q 0 (.slice ua (k + 1) uc)) (.inl (Nat.le_refl _)), gbl7.setCell (Nat.le_refl _) _⟩)
     clear hP ho7 hg7 gbx7 gbxA gbl7 gst gst0 gbx0 gbx gneq
     go_wp2_with fail
     go_roundw
     case rel => exact ⟨k + 1, by omega, by go_num, hx.out⟩
     case measure => simp [intOf]; omega
  ·obtain rfl : k = X.length := by omega
   have hli : ¬ ((X.length : Int) < (X.length : Int)) := by omega
   obtain ⟨uo, vs, hbx, hst, hbl⟩ := hF
   have hTI : tkI X X.length = X := List.take_length
   rw [hTI] at hst
   have hvl : vs.length = X.length := hst.len
   obtain ⟨oa, oc, huo⟩ := hst.outer.1.isSlice
   subst huo
   have a1 := hbx.cell (j := 0) rfl
   have bxr := bx4.below hbl hp2q
   have b0 := bxr.cell (j := 0) rfl
   have bf := bxr.free
   have HV := hid hvl
   clear hvl hTI
   go_wp2_with fail
   refine bodyPost_ret (v := .agg #[.slice oa vs.length oc]) (by simp [results, Tryz.results122, go_sem, b0]) rfl ⟨_, vs, rfl, ?_, ?_⟩
   ·have h1 := nestG_chg hst (chg_set w1 p2 0 (.slice oa vs.length oc)) (.inl (by omega))
    exact nestG_mono h1 (by omega) (by simp)
   ·exact hbR.setCell hge2 _
set_option maxHeartbeats 1000000 in
theorem copyInk_any (v : Value) (X : XInk) (w : World) (h : Strokes w v X) (ok : okInk X) (hX : X.length ≤ 16) : Calls Tryz.prog 81 #[.agg #[v]] w (CopyPost X w) := by
 obtain ⟨sa, sc, rfl⟩ : ∃ sa sc, v = .slice sa X.length sc := by obtain ⟨_, _, ao, cap, _, rfl, _⟩ := h.slice; exact ⟨_, _, rfl⟩
 obtain ⟨W, hW⟩ : ∃ u, u = ((w.alloc (.cells #[.slice sa X.length sc] 41)).alloc (.cells #[.slice none 0 0] 41)) := ⟨_, rfl⟩
 have hbW : Below w.heap.size w W := by rw [hW]; exact belowA2 _ _ _
 have q1 : Box W (w.heap.size) #[.slice sa X.length sc] 41 := by
  have hq := Box.new w #[.slice sa X.length sc] 41
  rw [hW]
  exact (hq.alloc _)
 have q2 : Box W (w.heap.size + 1) #[.slice none 0 0] 41 := by
  have hq := Box.new (w.alloc (.cells #[.slice sa X.length sc] 41)) #[.slice none 0 0] 41
  simp at hq
  rw [hW]
  exact hq
 obtain ⟨p1, hp1⟩ : ∃ p, p = w.heap.size := ⟨_, rfl⟩
 rw [← hp1] at q1
 have hge1 : w.heap.size ≤ p1 := by omega
 obtain ⟨p2, hp2⟩ : ∃ p, p = w.heap.size + 1 := ⟨_, rfl⟩
 rw [← hp2] at q2
 have hge2 : w.heap.size ≤ p2 := by omega
 have hlW : w.heap.size ≤ W.heap.size := hbW.size
 have hlp1 : p1 < W.heap.size := q1.lt
 have hlp2 : p2 < W.heap.size := q2.lt
 have hne12 : p1 ≠ p2 := by omega
 have HP1 := hid hp1
 have HP2 := hid hp2
 have HW := hid hW
 clear hW hp1 hp2
 have m0 := q1.cell (j := 0) rfl
 have CM := mapInk_any _ X W (h.below hbW) ok hX
 go_enter Tryz.func81, Tryz.ntmps81
 go_upto_region 1 with fail
 rw [← HP2.out, ← HP1.out, ← HW.out]
 go_wp2_with fail
 refine CM.mono ?_
 rintro e w8 ⟨uc, vs, rfl, hN, hb8⟩
 obtain ⟨na, nc, hun⟩ := hN.outer.1.isSlice
 subst hun
 have bx8 := q2.later hb8
 have b0 := bx8.cell (j := 0) rfl
 have bf := bx8.free
 go_wp2_with fail
 refine bodyPost_ret (v := .agg #[.slice na vs.length nc]) (by simp [results, Tryz.results81, go_sem, b0]) rfl ⟨_, vs, rfl, ?_, ?_⟩
 ·have h1 := nestG_chg hN (chg_set w8 p2 0 (.slice na vs.length nc)) (.inl (by have := q2.lt; omega))
  exact nestG_mono h1 hlW (by simp)
 ·exact (hbW.trans (hb8.mono hlW)).setCell hge2 _
end Go.Proofs.YtlnoelbeaolikaaGreat
namespace Go.Proofs.YtlnoelbeaolikaaGreat
/-- all pairs that do not lie within a..b are in order -/
def FrameO (A B a b : Nat) (d : List Int) : Prop := ∀ p q, A ≤ p → p < q → q < B → (p < a ∨ b ≤ q) → gI d p ≤ gI d q
theorem FrameO.start (A B : Nat) (d : List Int) : FrameO A B A B d := fun p q h1 h2 h3 h4 => by omega
theorem FrameO.pon {A B a b : Nat} {d d' : List Int} (h : FrameO A B a b d) (k : POn a b d d') (hA : A ≤ a) (hB : b ≤ B) : FrameO A B a b d' := by
 intro p q h1 h2 h3 h4
 by_cases hp : p < a
 ·rw [k.out p (.inl hp)]
  by_cases hq : a ≤ q ∧ q < b
  ·exact k.all (fun x => gI d p ≤ x) (fun i i1 i2 => h p i h1 (by omega) (by omega) (.inl hp)) q hq.1 hq.2
  ·rw [k.out q (by omega)]; exact h p q h1 h2 h3 h4
 ·have hq : b ≤ q := by omega
  rw [k.out q (.inr hq)]
  by_cases hp2 : p < b
  ·exact k.all (fun x => x ≤ gI d q) (fun i i1 i2 => h i q (by omega) (by omega) h3 (.inr hq)) p (by omega) hp2
  ·rw [k.out p (.inr (by omega))]; exact h p q h1 h2 h3 h4
theorem FrameO.done {A B a b : Nat} {d : List Int} (h : FrameO A B a b d) (hs : SortOn a b d) : SortOn A B d := by
 intro p q h1 h2 h3
 by_cases hin : a ≤ p ∧ q < b
 ·exact hs p q hin.1 h2 hin.2
 ·exact h p q h1 h2 h3 (by omega)
theorem FrameO.left {A B a b m : Nat} {d : List Int} (h : FrameO A B a b d) (hp : Part a b m d) (hs : SortOn a m d) (_ : a ≤ m) (_ : m < b) : FrameO A B (m + 1) b d := by
 intro p q k1 k2 k3 k4
 by_cases hin : a ≤ p ∧ q < b
 ·by_cases e : q < m
  ·exact hs p q hin.1 k2 e
  ·by_cases e2 : p = m
   ·rw [e2]; exact hp.2 q (by omega) hin.2
   ·have h5 := hp.1 p hin.1 (by omega)
    by_cases e3 : q = m
    ·rw [e3]; exact h5
    ·exact Int.le_trans h5 (hp.2 q (by omega) hin.2)
 ·exact h p q k1 k2 k3 (by omega)
theorem FrameO.right {A B a b m : Nat} {d : List Int} (h : FrameO A B a b d) (hp : Part a b m d) (hs : SortOn (m + 1) b d) (_ : a ≤ m) (_ : m < b) : FrameO A B a m d := by
 intro p q k1 k2 k3 k4
 by_cases hin : a ≤ p ∧ q < b
 ·by_cases e : m < p
  ·exact hs p q (by omega) k2 hin.2
  ·by_cases e2 : p = m
   ·rw [e2]; exact hp.2 q (by omega) hin.2
   ·have h5 := hp.1 p hin.1 (by omega)
    by_cases e3 : q = m
    ·rw [e3]; exact h5
    ·exact Int.le_trans h5 (hp.2 q (by omega) hin.2)
 ·exact h p q k1 k2 k3 (by omega)
theorem Part.ponL {a b m : Nat} {d d' : List Int} (h : Part a b m d) (k : POn a m d d') : Part a b m d' := by
 refine ⟨fun p p1 p2 => ?_, fun q q1 q2 => ?_⟩
 ·rw [k.out m (.inr (Nat.le_refl _))]
  exact k.all (fun x => x ≤ gI d m) (fun i i1 i2 => h.1 i i1 i2) p p1 p2
 ·rw [k.out m (.inr (Nat.le_refl _)), k.out q (.inr (by omega))]
  exact h.2 q q1 q2
theorem Part.ponR {a b m : Nat} {d d' : List Int} (h : Part a b m d) (k : POn (m + 1) b d d') : Part a b m d' := by
 refine ⟨fun p p1 p2 => ?_, fun q q1 q2 => ?_⟩
 ·rw [k.out m (.inl (by omega)), k.out p (.inl (by omega))]
  exact h.1 p p1 p2
 ·rw [k.out m (.inl (by omega))]
  exact k.all (fun x => gI d m ≤ x) (fun i i1 i2 => h.2 i (by omega) i2) q (by omega) q2
/-- what stands ahead is no greater -/
def LBo (a b : Nat) (d : List Int) : Prop := 0 < a → ∀ k, a ≤ k → k < b → gI d (a - 1) ≤ gI d k
theorem LBo.pon {a b : Nat} {d d' : List Int} (h : LBo a b d) (k : POn a b d d') : LBo a b d' := fun h0 i i1 i2 => by
 rw [k.out (a - 1) (.inl (by omega))]
 exact k.all (fun x => gI d (a - 1) ≤ x) (fun j j1 j2 => h h0 j j1 j2) i i1 i2
theorem LBo.short {a b c : Nat} {d : List Int} (h : LBo a b d) (hc : c ≤ b) : LBo a c d := fun h0 k k1 k2 => h h0 k k1 (by omega)
theorem LBo.part {a b m : Nat} {d : List Int} (h : Part a b m d) : LBo (m + 1) b d := fun _ k k1 k2 => by
 rw [Nat.add_sub_cancel]
 exact h.2 k (by omega) k2
theorem nodup_lt {d : List Int} (h : d.Nodup) {i j : Nat} (hi : i < d.length) (hj : j < d.length) (hne : i ≠ j) (hl : gI d i ≤ gI d j) : gI d i < gI d j := by
 have e : gI d i ≠ gI d j := fun e => by
  have h1 := gI_some hi
  have h2 := gI_some hj
  rw [← e] at h2
  exact hne ((List.getElem?_inj hi h).1 (h1.trans h2.symm))
 omega
theorem POn.nodup {a b : Nat} {d d' : List Int} (h : POn a b d d') (hd : d.Nodup) : d'.Nodup := h.perm.nodup_iff.2 hd
/-- the state of the sort's loop -/
structure PdqSt (g o a b : Nat) (d0 : List Int) (w0 : World) (x y : Nat) (d : List Int) (w : World) : Prop where
 ax : a ≤ x
 xy : x ≤ y
 yb : y ≤ b
 hold : HoldI w g o d
 pon : POn a b d0 d
 fr : Fr g w0 w
 frm : FrameO a b x y d
 lb : LBo x y d
theorem PdqSt.turn {g o a b x y : Nat} {d0 d d' : List Int} {w0 w w' : World} (h : PdqSt g o a b d0 w0 x y d w) (hH : HoldI w' g o d') (hP : POn x y d d') (hF : Fr g w w') : PdqSt g o a b d0 w0 x y d' w' :=
 ⟨h.ax, h.xy, h.yb, hH, h.pon.trans (hP.wide h.ax h.yb), h.fr.trans hF, h.frm.pon hP h.ax h.yb, h.lb.pon hP⟩
theorem PdqSt.drewN {g o a b x y : Nat} {d0 d : List Int} {w0 w : World} (h : PdqSt g o a b d0 w0 x y d w) (n : Nat) : PdqSt g o a b d0 w0 x y d (w.drewN n) :=
 ⟨h.ax, h.xy, h.yb, h.hold.drewN n, h.pon, h.fr.drewN n, h.frm, h.lb⟩
end Go.Proofs.YtlnoelbeaolikaaGreat
namespace Go.Proofs.YtlnoelbeaolikaaGreat
open Go.RowKit
theorem lessI_any (a b : Int) (w : World) : Calls Tryz.prog 171 #[.int .i64 a, .int .i64 b] w fun e w' => e = .returned (.bool (decide (a < b))) ∧ w = w' := by
 go_enter Tryz.func171, Tryz.ntmps171
 go_wp2_with fail
 refine (isNaNI_any a w).mono ?_
 rintro e w' ⟨rfl, rfl⟩
 go_wp2_with fail
 go_ret
 exact ⟨rfl, rfl⟩
/-- the post of a call that turns the block within a..b -/
def SrtPost (g o a b : Nat) (d : List Int) (w : World) (e : Ending) (w' : World) : Prop :=
 e = .returned (.tuple #[]) ∧ ∃ d', HoldI w' g o d' ∧ POn a b d d' ∧ SortOn a b d' ∧ Fr g w w'
set_option maxRecDepth 100000 in
set_option maxHeartbeats 4000000 in
theorem insertionI_any (g o cap a b : Nat) (d : List Int) (w : World) (h : HoldI w g o d) (hab : a ≤ b) (hb : b ≤ d.length) (hd : d.length ≤ 1000000) :
  Calls Tryz.prog 165 #[.slice (some ⟨g, o, none⟩) d.length cap, .int .i64 a, .int .i64 b] w (SrtPost g o a b d w) := by
 go_enter Tryz.func165, Tryz.ntmps165
 go_wp2_with fail
 go_loopw [6] (fun i wr => ∃ (k : Nat) (dk : List Int), i = .int .i64 k ∧ a < k ∧ k ≤ b + 1 ∧ HoldI wr g o dk ∧ POn a b d dk ∧ (k ≤ b → SortOn a k dk) ∧ (b < k → SortOn a b dk) ∧ Fr g w wr) (fun i _ => b + 1 - (intOf i).toNat)
 case atStart => exact ⟨a + 1, d, by go_num, by omega, by omega, h, POn.refl _ _ _, fun _ => SortOn.short _ (Nat.le_refl _), fun _ => SortOn.short _ (by omega), Chg.refl _ _ _⟩
 case round =>
  clear h
  obtain ⟨k, dk, rfl, hak, hkb, hH, hP, hS1, hS2, hF⟩ := hrel
  by_cases hlt : k < b
  ·have hli : (k : Int) < (b : Int) := by omega
   have hS := hS1 (by omega)
   have HP := hid hP
   have HH := hid hH
   have HS := hid hS
   have HF := hid hF
   clear hP hH hS hF hS1 hS2
   go_wp2_with fail
   obtain ⟨wo, rfl⟩ : ∃ x, x = wr := ⟨wr, rfl⟩
   go_loopw [7] (fun i wr => ∃ (j : Nat) (dj : List Int), i = .int .i64 j ∧ a ≤ j ∧ j ≤ k ∧ HoldI wr g o dj ∧ POn a b d dj ∧ Hid (InsInv a k j dj) ∧ Fr g w wr) (fun i _ => (intOf i).toNat)
   case atStart => exact ⟨k, dk, rfl, by omega, Nat.le_refl _, HH.out, HP.out, hid (InsInv.start HS.out), HF.out⟩
   case round =>
    obtain ⟨j, dj, rfl, haj, hjk, hH, hP, HI, hF⟩ := hrel
    have hdl := hP.len
    have hjd : j < dj.length := by omega
    have HH2 := hid hH
    have HP2 := hid hP
    have HF2 := hid hF
    by_cases hja : a < j
    ·have c0 := hH.cell j (by omega)
     have c1 := hH.cell (j - 1) (by omega)
     have f0 := hH.free (o + j)
     have f1 := hH.free (o + (j - 1))
     have hjd2 : j < d.length := by omega
     have hj1 : j - 1 < d.length := by omega
     obtain ⟨x, hx⟩ : ∃ x, x = gI dj j := ⟨_, rfl⟩
     obtain ⟨y, hy⟩ : ∃ x, x = gI dj (j - 1) := ⟨_, rfl⟩
     rw [← hx] at c0
     rw [← hy] at c1
     have HX := hid hx
     have HY := hid hy
     have hw : IntKind.i64.wrap ((j : Int) - 1) = ((j - 1 : Nat) : Int) := by rw [IntWalk.i64_in _ (by omega)]; omega
     have hjai : (a : Int) < (j : Int) := by omega
     clear hH hP hF hdl hx hy
     go_wp2_with fail
     go_quiet (first | (go_at_call 171; refine Calls.quiet_of_same ((lessI_any _ _ _).mono fun _ _ h => ⟨h.1, h.2.symm⟩)))
     go_wp2_with fail
     ·have hxy : x < y := by assumption
      go_region
      all_goals go_wp2_with fail
      go_roundw
      case rel =>
       refine ⟨j - 1, swL dj j (j - 1), by first | rfl | go_num, by omega, by omega, ?_, HP2.out.trans (POn.sw (by have := HP2.out.len; omega) (by omega) (by omega) (by omega) (by omega)), hid (HI.out.step hja hjk (by have := HP2.out.len; omega) (by rw [← HX.out, ← HY.out]; exact hxy)), ?_⟩
       ·rw [HX.out, HY.out]
        exact (HH2.out.drewN _).sw (by have := HP2.out.len; omega) (by have := HP2.out.len; omega)
       ·exact (HF2.out.drewN _).sw _ _ _ _
      case measure => simp [intOf]; omega
     ·have hxy : y ≤ x := by first | assumption | omega
      go_roundw
      case rel => exact ⟨k + 1, dj, by go_num, by omega, by omega, HH2.out.drewN _, HP2.out, fun _ => HI.out.stop (.inr (by rw [← HX.out, ← HY.out]; omega)), fun h => by omega, HF2.out.drewN _⟩
      case measure => simp [intOf]; omega
    ·have hjai : decide ((a : Int) < (j : Int)) = false := by simp; omega
     clear hH hP hF hdl
     go_wp2_with fail
     go_quiet (first | (go_at_call 171; refine Calls.quiet_of_same ((lessI_any _ _ _).mono fun _ _ h => ⟨h.1, h.2.symm⟩)))
     go_wp2_with fail
     go_roundw
     case rel => exact ⟨k + 1, dj, by go_num, by omega, by omega, HH2.out.drewN _, HP2.out, fun _ => HI.out.stop (.inl (by omega)), fun h => by omega, HF2.out.drewN _⟩
     case measure => simp [intOf]; omega
  ·have hli : ¬ ((k : Int) < (b : Int)) := by omega
   go_wp2_with fail
   go_end0
   exact ⟨rfl, dk, hH, hP, by by_cases e : k ≤ b
                              ·have : k = b := by omega
                               subst this; exact hS1 e
                              ·exact hS2 (by omega), hF⟩
end Go.Proofs.YtlnoelbeaolikaaGreat
namespace Go.Proofs.YtlnoelbeaolikaaGreat
open Go.RowKit
def ParPost (g o a b : Nat) (d : List Int) (w : World) (e : Ending) (w' : World) : Prop :=
 ∃ (m : Nat) (c : Bool) (d' : List Int), e = .returned (.tuple #[.int .i64 m, .bool c]) ∧ a ≤ m ∧ m < b ∧ HoldI w' g o d' ∧ POn a b d d' ∧ Part a b m d' ∧ Fr g w w'
set_option maxRecDepth 100000 in
set_option maxHeartbeats 8000000 in
theorem partitionI_any (g o cap a b pv : Nat) (d : List Int) (w : World) (h : HoldI w g o d) (hab : a ≤ pv) (hpb : pv < b) (hb : b ≤ d.length) (hd : d.length ≤ 1000000) :
  Calls Tryz.prog 173 #[.slice (some ⟨g, o, none⟩) d.length cap, .int .i64 a, .int .i64 b, .int .i64 pv] w (ParPost g o a b d w) := by
 have hal : a < d.length := by omega
 have hpl : pv < d.length := by omega
 have c0 := h.cell a hal
 have c1 := h.cell pv hpl
 have f0 := h.free (o + a)
 have f1 := h.free (o + pv)
 obtain ⟨x, hx⟩ : ∃ x, x = gI d a := ⟨_, rfl⟩
 obtain ⟨y, hy⟩ : ∃ x, x = gI d pv := ⟨_, rfl⟩
 rw [← hx] at c0
 rw [← hy] at c1
 have c2 := (h.set hal y).cell pv (by rw [List.length_set]; exact hpl)
 have f2 := (h.set hal y).free (o + pv)
 have HH := hid h
 have HX := hid hx
 have HY := hid hy
 clear h hx hy
 go_enter Tryz.func173, Tryz.ntmps173
 go_upto_region 1 with fail
 go_cut [8, 9] from 12 to 25 (fun v8 v9 wx => v8 = .int .i64 0 ∧ v9 = .bool false ∧ ∃ d1, ParSt g o a b d w (a + 1) (b - 1) d1 wx)
 case first =>
  go_region
  all_goals go_wp2_with fail
  go_meet
  refine ⟨rfl, rfl, swL d a pv, ?_, POn.sw hb (Nat.le_refl _) (by omega) hab hpb, PInv.start (by omega), ?_⟩
  ·rw [HX.out, HY.out]
   exact (HH.out.drewN _).sw hal hpl
  ·exact Fr.sw (Fr.drewN (Chg.refl _ _ _) _) _ _ _ _
 case rest =>
 obtain ⟨h8, h9, dk, hS⟩ := hcut
 subst h8 h9
 have HS := hid hS
 clear hS c0 c1 c2 f0 f1 f2
 go_upto_region 2 with fail
 go_cut [10, 11] from 12 to 29 (fun v10 v11 wx => ∃ i j : Nat, v10 = .int .i64 i ∧ v11 = .int .i64 j ∧ ParSt g o a b d w i j dk wx)
 case first =>
  go_wp2_with fail
  go_meet
  exact ⟨a + 1, b - 1, by go_num, by congr 1; omega, HS.out⟩
 case rest =>
 clear HS
 obtain ⟨i, j, h10, h11, hS⟩ := hcut
 subst h10 h11
 have HS := hid hS
 clear hS
 go_upto_block 0 with fail
 go_cut [10] from 30 to 45 (fun v wx => ∃ i' : Nat, v = .int .i64 i' ∧ i ≤ i' ∧ ParSt g o a b d w i' j dk wx ∧ (j < i' ∨ gI dk a ≤ gI dk i'))
 case first =>
  go_wp2_with fail
  go_loopw [10] (fun vi wr => ∃ i1 : Nat, vi = .int .i64 i1 ∧ i ≤ i1 ∧ i1 ≤ j + 1 ∧ ParSt g o a b d w i1 j dk wr) (fun vi _ => j + 1 - (intOf vi).toNat)
  case atStart => exact ⟨i, rfl, Nat.le_refl _, HS.out.inv.ij, HS.out⟩
  case round =>
   obtain ⟨i1, rfl, hii, hij1, hS⟩ := hrel
   have HS2 := hid hS
   have hai := hS.inv.ai
   have hjb := hS.inv.jb
   have hdl := hS.pon.len
   by_cases hij : i1 ≤ j
   ·have c0 := hS.hold.cell i1 (by omega)
    have c1 := hS.hold.cell a (by omega)
    have hil : i1 < d.length := by omega
    have hal : a < d.length := by omega
    obtain ⟨x, hx⟩ : ∃ x, x = gI dk i1 := ⟨_, rfl⟩
    obtain ⟨y, hy⟩ : ∃ x, x = gI dk a := ⟨_, rfl⟩
    rw [← hx] at c0
    rw [← hy] at c1
    have HX := hid hx
    have HY := hid hy
    have hiji : (i1 : Int) ≤ (j : Int) := by omega
    clear hS hdl hx hy
    go_wp2_with fail
    go_quiet (first | (go_at_call 171; refine Calls.quiet_of_same ((lessI_any _ _ _).mono fun _ _ h => ⟨h.1, h.2.symm⟩)))
    go_wp2_with fail
    ·have hxy : x < y := by first | assumption | omega
     go_roundw
     case rel => exact ⟨i1 + 1, by go_num, by omega, by omega, ⟨HS2.out.hold.drewN _, HS2.out.pon, HS2.out.inv.istep hij (by rw [← HX.out, ← HY.out]; exact hxy), HS2.out.fr.drewN _⟩⟩
     case measure => simp [intOf]; omega
    ·have hxy : y ≤ x := by first | assumption | omega
     go_meet
     exact ⟨i1, rfl, hii, HS2.out.drewN _, .inr (by rw [← HX.out, ← HY.out]; exact hxy)⟩
   ·have hiji : decide ((i1 : Int) ≤ (j : Int)) = false := by simp; omega
    clear hS hdl
    go_wp2_with fail
    go_quiet (first | (go_at_call 171; refine Calls.quiet_of_same ((lessI_any _ _ _).mono fun _ _ h => ⟨h.1, h.2.symm⟩)))
    go_wp2_with fail
    go_meet
    exact ⟨i1, rfl, hii, HS2.out.drewN _, .inl (by omega)⟩
 case rest =>
 clear HS
 obtain ⟨i', h10, hii, hS, hst⟩ := hcut
 subst h10
 have HS := hid hS
 have HST := hid hst
 clear hS hst
 go_upto_block 2 with fail
 go_cut [11] from 46 to 62 (fun v wx => ∃ j' : Nat, v = .int .i64 j' ∧ j' ≤ j ∧ ParSt g o a b d w i' j' dk wx ∧ (j' < i' ∨ gI dk j' < gI dk a))
 case first =>
  go_wp2_with fail
  go_loopw [11] (fun vj wr => ∃ j' : Nat, vj = .int .i64 j' ∧ j' ≤ j ∧ ParSt g o a b d w i' j' dk wr) (fun vj _ => (intOf vj).toNat)
  case atStart => exact ⟨j, rfl, Nat.le_refl _, HS.out⟩
  case round =>
   obtain ⟨j', rfl, hjj, hS⟩ := hrel
   have HS2 := hid hS
   have hai := hS.inv.ai
   have hjb := hS.inv.jb
   have hdl := hS.pon.len
   by_cases hij : i' ≤ j'
   ·have c0 := hS.hold.cell j' (by omega)
    have c1 := hS.hold.cell a (by omega)
    have hil : j' < d.length := by omega
    have hal : a < d.length := by omega
    obtain ⟨x, hx⟩ : ∃ x, x = gI dk j' := ⟨_, rfl⟩
    obtain ⟨y, hy⟩ : ∃ x, x = gI dk a := ⟨_, rfl⟩
    rw [← hx] at c0
    rw [← hy] at c1
    have HX := hid hx
    have HY := hid hy
    have hiji : (i' : Int) ≤ (j' : Int) := by omega
    clear hS hdl hx hy
    go_wp2_with fail
    go_quiet (first | (go_at_call 171; refine Calls.quiet_of_same ((lessI_any _ _ _).mono fun _ _ h => ⟨h.1, h.2.symm⟩)))
    go_wp2_with fail
    ·have hxy : y ≤ x := by first | assumption | omega | (rename_i hq; simpa using hq)
     go_roundw
     case rel => exact ⟨j' - 1, by go_num, by omega, ⟨HS2.out.hold.drewN _, HS2.out.pon, HS2.out.inv.jstep hij (by rw [← HX.out, ← HY.out]; exact hxy), HS2.out.fr.drewN _⟩⟩
     case measure => simp [intOf]; omega
    ·have hxy : x < y := by first | assumption | omega | (rename_i hq; simpa using hq)
     go_meet
     exact ⟨j', rfl, hjj, HS2.out.drewN _, .inr (by rw [← HX.out, ← HY.out]; exact hxy)⟩
   ·have hiji : decide ((i' : Int) ≤ (j' : Int)) = false := by simp; omega
    clear hS hdl
    go_wp2_with fail
    go_quiet (first | (go_at_call 171; refine Calls.quiet_of_same ((lessI_any _ _ _).mono fun _ _ h => ⟨h.1, h.2.symm⟩)))
    go_wp2_with fail
    go_meet
    exact ⟨j', rfl, hjj, HS2.out.drewN _, .inl (by omega)⟩
 case rest =>
 clear HS
 obtain ⟨j', h11, hjj, hS, hst⟩ := hcut
 subst h11
 have HS := hid hS
 clear hS
 by_cases hfin : j' < i'
 ·have hfi : (j' : Int) < (i' : Int) := by omega
  have hdl := HS.out.pon.len
  have hai := HS.out.inv.ai
  have hjb := HS.out.inv.jb
  have hij3 := HS.out.inv.ij
  have sI : j' < dk.length := by omega
  have sJ : a < dk.length := by omega
  have tI : j' < d.length := by omega
  have tJ : a < d.length := by omega
  have s0 := HS.out.hold.cell j' sI
  have s1 := HS.out.hold.cell a sJ
  have s2 := (HS.out.hold.set sI (gI dk a)).cell a (by rw [List.length_set]; exact sJ)
  have s3 := HS.out.hold.free (o + j')
  have s4 := (HS.out.hold.set sI (gI dk a)).free (o + a)
  have s5 := HS.out.hold.free (o + a)
  clear hdl
  go_upto_region 8 with fail
  all_goals first | (exfalso; omega) | skip
  go_cut [8] from 66 to 79 (fun v8 wx => v8 = .int .i64 0 ∧ HoldI wx g o (swL dk j' a) ∧ Fr g w wx)
  case first =>
   go_region
   all_goals go_wp2_with fail
   go_meet
   exact ⟨rfl, (HS.out.hold.drewN _).sw sI sJ, Fr.sw (Fr.drewN HS.out.fr _) _ _ _ _⟩
  case rest =>
  obtain ⟨h8, hH, hF⟩ := hcut
  subst h8
  go_wp2_with fail
  go_ret2
  exact ⟨j', true, swL dk j' a, rfl, by omega, by omega, hH, HS.out.pon.trans (POn.sw (by have := HS.out.pon.len; omega) (by omega) (by omega) (Nat.le_refl _) (by omega)), HS.out.inv.done (by have := HS.out.pon.len; omega) hfin, hF⟩
 have hfi : ¬ ((j' : Int) < (i' : Int)) := by omega
 have hgi : gI dk a ≤ gI dk i' := by rcases HST.out with h1 | h1; · omega
                                     ·exact h1
 have hgj : gI dk j' < gI dk a := by rcases hst with h1 | h1; · omega
                                     ·exact h1
 have HNX := hid (HS.out.inv.swap (by have := HS.out.pon.len; omega) (by omega) hgi hgj)
 have hdl := HS.out.pon.len
 have hai := HS.out.inv.ai
 have hjb := HS.out.inv.jb
 have hij3 := HS.out.inv.ij
 have sI : i' < dk.length := by omega
 have sJ : j' < dk.length := by omega
 have tI : i' < d.length := by omega
 have tJ : j' < d.length := by omega
 have s0 := HS.out.hold.cell i' sI
 have s1 := HS.out.hold.cell j' sJ
 have s2 := (HS.out.hold.set sI (gI dk j')).cell j' (by rw [List.length_set]; exact sJ)
 have s3 := HS.out.hold.free (o + i')
 have s4 := (HS.out.hold.set sI (gI dk j')).free (o + j')
 have s5 := HS.out.hold.free (o + j')
 clear hdl
 go_upto_region 10 with fail
 all_goals first | (exfalso; omega) | skip
 go_cut [8] from 81 to 94 (fun v8 wx => v8 = .int .i64 0 ∧ HoldI wx g o (swL dk i' j') ∧ Fr g w wx)
 case first =>
  go_region
  all_goals go_wp2_with fail
  go_meet
  exact ⟨rfl, (HS.out.hold.drewN _).sw sI sJ, Fr.sw (Fr.drewN HS.out.fr _) _ _ _ _⟩
 case rest =>
 obtain ⟨h8, hH, hF⟩ := hcut
 subst h8
 have hS2 : ParSt g o a b d w (i' + 1) (j' - 1) (swL dk i' j') wc := ⟨hH, HS.out.pon.trans (POn.sw (by have := HS.out.pon.len; omega) (by omega) (by omega) (by omega) (by omega)), HNX.out, hF⟩
 have HS2 := hid hS2
 have ei : (i' : Int) + 1 = ((i' + 1 : Nat) : Int) := by omega
 have ej : (j' : Int) - 1 = ((j' - 1 : Nat) : Int) := by omega
 have EI := hid ei
 have EJ := hid ej
 clear ei ej hS2 hH hF HS HST HNX s0 s1 s2 s3 s4 s5 sI sJ hgi hgj hst
 go_wp2_with fail
 go_loopw [10, 11] (fun vi vj wr => ∃ (i j : Nat) (dk : List Int), vi = .int .i64 i ∧ vj = .int .i64 j ∧ ParSt g o a b d w i j dk wr) (fun vi vj _ => (intOf vj).toNat + 1 - (intOf vi).toNat)
 case atStart => exact ⟨i' + 1, j' - 1, swL dk i' j', by rw [← EI.out], by rw [← EJ.out], HS2.out⟩
 case round =>
  clear HS2 EI EJ hfin hii hjj hfi tI tJ hai hjb hij3
  obtain ⟨i, j, dk, rfl, rfl, hS⟩ := hrel
  have HS := hid hS
  have hij9 := hS.inv.ij
  clear hS
  go_upto_block 6 with fail
  go_cut [10] from 99 to 152 (fun v wx => ∃ i' : Nat, v = .int .i64 i' ∧ i ≤ i' ∧ ParSt g o a b d w i' j dk wx ∧ (j < i' ∨ gI dk a ≤ gI dk i'))
  case first =>
    go_wp2_with fail
    go_loopw [10] (fun vi wr => ∃ i1 : Nat, vi = .int .i64 i1 ∧ i ≤ i1 ∧ i1 ≤ j + 1 ∧ ParSt g o a b d w i1 j dk wr) (fun vi _ => j + 1 - (intOf vi).toNat)
    case atStart => exact ⟨i, rfl, Nat.le_refl _, HS.out.inv.ij, HS.out⟩
    case round =>
     obtain ⟨i1, rfl, hii, hij1, hS⟩ := hrel
     have HS2 := hid hS
     have hai := hS.inv.ai
     have hjb := hS.inv.jb
     have hdl := hS.pon.len
     by_cases hij : i1 ≤ j
     ·have c0 := hS.hold.cell i1 (by omega)
      have c1 := hS.hold.cell a (by omega)
      have hil : i1 < d.length := by omega
      have hal : a < d.length := by omega
      obtain ⟨x, hx⟩ : ∃ x, x = gI dk i1 := ⟨_, rfl⟩
      obtain ⟨y, hy⟩ : ∃ x, x = gI dk a := ⟨_, rfl⟩
      rw [← hx] at c0
      rw [← hy] at c1
      have HX := hid hx
      have HY := hid hy
      have hiji : (i1 : Int) ≤ (j : Int) := by omega
      clear hS hdl hx hy
      go_wp2_with fail
      go_quiet (first | (go_at_call 171; refine Calls.quiet_of_same ((lessI_any _ _ _).mono fun _ _ h => ⟨h.1, h.2.symm⟩)))
      go_wp2_with fail
      ·have hxy : x < y := by first | assumption | omega
       go_roundw
       case rel => exact ⟨i1 + 1, by go_num, by omega, by omega, ⟨HS2.out.hold.drewN _, HS2.out.pon, HS2.out.inv.istep hij (by rw [← HX.out, ← HY.out]; exact hxy), HS2.out.fr.drewN _⟩⟩
       case measure => simp [intOf]; omega
      ·have hxy : y ≤ x := by first | assumption | omega
       go_meet
       exact ⟨i1, rfl, hii, HS2.out.drewN _, .inr (by rw [← HX.out, ← HY.out]; exact hxy)⟩
     ·have hiji : decide ((i1 : Int) ≤ (j : Int)) = false := by simp; omega
      clear hS hdl
      go_wp2_with fail
      go_quiet (first | (go_at_call 171; refine Calls.quiet_of_same ((lessI_any _ _ _).mono fun _ _ h => ⟨h.1, h.2.symm⟩)))
      go_wp2_with fail
      go_meet
      exact ⟨i1, rfl, hii, HS2.out.drewN _, .inl (by omega)⟩
  case rest =>
  clear HS
  obtain ⟨i', h10, hii, hS, hst⟩ := hcut
  subst h10
  have HS := hid hS
  have HST := hid hst
  clear hS hst
  go_upto_block 8 with fail
  go_cut [11] from 99 to 152 (fun v wx => ∃ j' : Nat, v = .int .i64 j' ∧ j' ≤ j ∧ ParSt g o a b d w i' j' dk wx ∧ (j' < i' ∨ gI dk j' < gI dk a))
  case first =>
    go_wp2_with fail
    go_loopw [11] (fun vj wr => ∃ j' : Nat, vj = .int .i64 j' ∧ j' ≤ j ∧ ParSt g o a b d w i' j' dk wr) (fun vj _ => (intOf vj).toNat)
    case atStart => exact ⟨j, rfl, Nat.le_refl _, HS.out⟩
    case round =>
     obtain ⟨j', rfl, hjj, hS⟩ := hrel
     have HS2 := hid hS
     have hai := hS.inv.ai
     have hjb := hS.inv.jb
     have hdl := hS.pon.len
     by_cases hij : i' ≤ j'
     ·have c0 := hS.hold.cell j' (by omega)
      have c1 := hS.hold.cell a (by omega)
      have hil : j' < d.length := by omega
      have hal : a < d.length := by omega
      obtain ⟨x, hx⟩ : ∃ x, x = gI dk j' := ⟨_, rfl⟩
      obtain ⟨y, hy⟩ : ∃ x, x = gI dk a := ⟨_, rfl⟩
      rw [← hx] at c0
      rw [← hy] at c1
      have HX := hid hx
      have HY := hid hy
      have hiji : (i' : Int) ≤ (j' : Int) := by omega
      clear hS hdl hx hy
      go_wp2_with fail
      go_quiet (first | (go_at_call 171; refine Calls.quiet_of_same ((lessI_any _ _ _).mono fun _ _ h => ⟨h.1, h.2.symm⟩)))
      go_wp2_with fail
      ·have hxy : y ≤ x := by first | assumption | omega | (rename_i hq; simpa using hq)
       go_roundw
       case rel => exact ⟨j' - 1, by go_num, by omega, ⟨HS2.out.hold.drewN _, HS2.out.pon, HS2.out.inv.jstep hij (by rw [← HX.out, ← HY.out]; exact hxy), HS2.out.fr.drewN _⟩⟩
       case measure => simp [intOf]; omega
      ·have hxy : x < y := by first | assumption | omega | (rename_i hq; simpa using hq)
       go_meet
       exact ⟨j', rfl, hjj, HS2.out.drewN _, .inr (by rw [← HX.out, ← HY.out]; exact hxy)⟩
     ·have hiji : decide ((i' : Int) ≤ (j' : Int)) = false := by simp; omega
      clear hS hdl
      go_wp2_with fail
      go_quiet (first | (go_at_call 171; refine Calls.quiet_of_same ((lessI_any _ _ _).mono fun _ _ h => ⟨h.1, h.2.symm⟩)))
      go_wp2_with fail
      go_meet
      exact ⟨j', rfl, hjj, HS2.out.drewN _, .inl (by omega)⟩
  case rest =>
  clear HS
  obtain ⟨j', h11, hjj, hS, hst⟩ := hcut
  subst h11
  have HS := hid hS
  clear hS
  by_cases hfin : j' < i'
  ·have hfi : (j' : Int) < (i' : Int) := by omega
   have hdl := HS.out.pon.len
   have hai := HS.out.inv.ai
   have hjb := HS.out.inv.jb
   have hij3 := HS.out.inv.ij
   have sI : j' < dk.length := by omega
   have sJ : a < dk.length := by omega
   have tI : j' < d.length := by omega
   have tJ : a < d.length := by omega
   have s0 := HS.out.hold.cell j' sI
   have s1 := HS.out.hold.cell a sJ
   have s2 := (HS.out.hold.set sI (gI dk a)).cell a (by rw [List.length_set]; exact sJ)
   have s3 := HS.out.hold.free (o + j')
   have s4 := (HS.out.hold.set sI (gI dk a)).free (o + a)
   have s5 := HS.out.hold.free (o + a)
   clear hdl
   go_upto_region 21 with fail
   all_goals first | (exfalso; omega) | skip
   go_cut [8] from 153 to 166 (fun v8 wx => v8 = .int .i64 0 ∧ HoldI wx g o (swL dk j' a) ∧ Fr g w wx)
   case first =>
    go_region
    all_goals go_wp2_with fail
    go_meet
    exact ⟨rfl, (HS.out.hold.drewN _).sw sI sJ, Fr.sw (Fr.drewN HS.out.fr _) _ _ _ _⟩
   case rest =>
   obtain ⟨h8, hH, hF⟩ := hcut
   subst h8
   go_wp2_with fail
   go_ret2
   exact ⟨j', false, swL dk j' a, rfl, by omega, by omega, hH, HS.out.pon.trans (POn.sw (by have := HS.out.pon.len; omega) (by omega) (by omega) (Nat.le_refl _) (by omega)), HS.out.inv.done (by have := HS.out.pon.len; omega) hfin, hF⟩
  ·have hfi : ¬ ((j' : Int) < (i' : Int)) := by omega
   have hgi : gI dk a ≤ gI dk i' := by rcases HST.out with h1 | h1; · omega
                                       ·exact h1
   have hgj : gI dk j' < gI dk a := by rcases hst with h1 | h1; · omega
                                       ·exact h1
   have HNX := hid (HS.out.inv.swap (by have := HS.out.pon.len; omega) (by omega) hgi hgj)
   have hdl := HS.out.pon.len
   have hai := HS.out.inv.ai
   have hjb := HS.out.inv.jb
   have hij3 := HS.out.inv.ij
   have sI : i' < dk.length := by omega
   have sJ : j' < dk.length := by omega
   have tI : i' < d.length := by omega
   have tJ : j' < d.length := by omega
   have s0 := HS.out.hold.cell i' sI
   have s1 := HS.out.hold.cell j' sJ
   have s2 := (HS.out.hold.set sI (gI dk j')).cell j' (by rw [List.length_set]; exact sJ)
   have s3 := HS.out.hold.free (o + i')
   have s4 := (HS.out.hold.set sI (gI dk j')).free (o + j')
   have s5 := HS.out.hold.free (o + j')
   clear hdl
   go_upto_region 18 with fail
   all_goals first | (exfalso; omega) | skip
   go_cut [8] from 99 to 152 (fun v8 wx => v8 = .int .i64 0 ∧ HoldI wx g o (swL dk i' j') ∧ Fr g w wx)
   case first =>
    go_region
    all_goals go_wp2_with fail
    go_meet
    exact ⟨rfl, (HS.out.hold.drewN _).sw sI sJ, Fr.sw (Fr.drewN HS.out.fr _) _ _ _ _⟩
   case rest =>
   obtain ⟨h8, hH, hF⟩ := hcut
   subst h8
   have hS2 : ParSt g o a b d w (i' + 1) (j' - 1) (swL dk i' j') wc := ⟨hH, HS.out.pon.trans (POn.sw (by have := HS.out.pon.len; omega) (by omega) (by omega) (by omega) (by omega)), HNX.out, hF⟩
   have HS2 := hid hS2
   have ei : (i' : Int) + 1 = ((i' + 1 : Nat) : Int) := by omega
   have ej : (j' : Int) - 1 = ((j' - 1 : Nat) : Int) := by omega
   have EI := hid ei
   have EJ := hid ej
   clear ei ej hS2 hH hF s0 s1 s2 s3 s4 s5
   go_wp2_with fail
   go_roundw
   case rel => exact ⟨i' + 1, j' - 1, swL dk i' j', by rw [← EI.out], by rw [← EJ.out], HS2.out⟩
   case measure => simp [intOf]; omega
end Go.Proofs.YtlnoelbeaolikaaGreat
