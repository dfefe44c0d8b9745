/- A copy of ink: copyInk, by mapInk with a closure that returns its argument. -/
import Derived.Test.YtdadmphmpojjhaaInkNest
namespace Go.Proofs.Ytdadmphmpojjhaa
open Go.RowKit

def ptV (p : DPoint) : Value := .agg #[.int .i64 p.x, .int .i64 p.y, .int .i64 p.t]
set_option maxHeartbeats 400000 in
theorem copyPt_any (p : DPoint) (w : World) : Calls Try.prog 48 #[.agg #[.int .i64 p.x, .int .i64 p.y, .int .i64 p.t]] w (Ret (.agg #[.int .i64 p.x, .int .i64 p.y, .int .i64 p.t]) w) := by
  go_enter Try.func48, Try.ntmps48
  go_wp2
  exact bodyPost_ret (v := .agg #[.int .i64 p.x, .int .i64 p.y, .int .i64 p.t]) (by simp [results, Try.results48, go_sem]) rfl
    ⟨rfl, belowA2 _ _ _⟩
theorem wpList_appG {α : Type} {E : Enc α} {P : Program} {w : World} {ops : Array Oper} {rest : List Oper} {o : Oper} {a : Act} {Q : Exit → Act → World → Prop} (hgd : o.guard = none) (s x : Operand) (t : TypeId)
    (ho : o.op = .call { callee := .builtin .append, args := #[s, x], argTypes := #[t, t] })
    (B : Nat) (e : TypeId) (z : Value) (bytes : Nat) (hi : (P.info? e).map (fun i => (i.zero, i.size, i.bytes)) = some (some z, E.sz, bytes)) (ht : P.underlying t = some (.slice e)) (hzs : z.cells.size = E.sz)
    (v : Value) (xs : List α) (hs : a.eval s = v) (hown : Own E e B w v xs) (vx : Value) (ys : List α) (hx : a.eval x = vx) (hy : Arr E w vx ys)
    (h63 : xs.length + ys.length ≤ maxLen) (hbytes : (xs.length + ys.length) * bytes ≤ 140737488355328) (hB : B ≤ w.heap.size)
    (h : ∀ v' w', Own E e B w' v' (xs ++ ys) → w.grownBy w' v.ownBlock → (v'.ownBlock = v.ownBlock ∨ v'.ownBlock = some w.heap.size) → wpList P ops Q rest (a.put o.dst v') w') : wpList P ops Q (o :: rest) a w := by
  refine wpList_plain hgd fun K hK => ?_
  obtain ⟨v', w', hr, h1, h2, h3⟩ := run_append_arrO (P := P) t o.type B e z bytes hi ht hzs v xs hown vx ys hy h63 hbytes hB
  unfold Oper.wp execOp
  simp only [ho, resolve, invoke, builtin, Sem.run_bind, Sem.run_pure, Result.andThen_ok, List.map_toArray, List.map_cons, List.map_nil, hs, hx, hr]
  exact hK _ _ (h v' w' h1 h2 h3)
/-- a stroke that is put together in the block p -/
def FinSt (p : Nat) (U : World) (x : XStroke) (w : World) : Prop := ∃ uo, Box w p #[uo] 57 ∧ Own ePoint 59 (p + 1) w uo x ∧ Below p U w
theorem FinSt.below {p : Nat} {U : World} {x : XStroke} {w w' : World} (h : FinSt p U x w) (hb : Below w.heap.size w w') : FinSt p U x w' := by
  obtain ⟨uo, h1, h2, h3⟩ := h
  exact ⟨uo, h1.later hb, h2.below hb, h3.trans (hb.mono (Nat.le_of_lt h1.lt))⟩
theorem take_push {α : Type} {x : List α} {k : Nat} {a : α} (h : x[k]? = some a) : x.take k ++ [a] = x.take (k + 1) := by
  rw [List.take_add_one, h]; rfl
def tkP (x : XStroke) (k : Nat) : XStroke := x.take k
def tkI (X : XInk) (k : Nat) : XInk := X.take k
theorem tkP_push {x : XStroke} {k : Nat} {a : DPoint} (h : x[k]? = some a) : tkP x k ++ [a] = tkP x (k + 1) := take_push h
theorem tkI_push {X : XInk} {k : Nat} {a : XStroke} (h : X[k]? = some a) : tkI X k ++ [a] = tkI X (k + 1) := take_push h
theorem tkP_len {x : XStroke} {k : Nat} (h : k ≤ x.length) : (tkP x k).length = k := by unfold tkP; rw [List.length_take]; omega
theorem tkI_len {X : XInk} {k : Nat} (h : k ≤ X.length) : (tkI X k).length = k := by unfold tkI; rw [List.length_take]; omega
def CopyPost (X : XInk) (w : World) (e : Ending) (w' : World) : Prop := ∃ uo vs, e = .returned (.agg #[uo]) ∧ NestG w.heap.size w'.heap.size uo vs X w' ∧ Below w.heap.size w w'
set_option maxRecDepth 100000 in
set_option maxHeartbeats 4000000 in
theorem mapInk_any (v : Value) (X : XInk) (w : World) (h : Strokes w v X) (ok : okInk X) (hX : X.length ≤ 16) :
    Calls Try.prog 47 #[.agg #[v], .func (.func 48) #[] #[]] w (CopyPost X w) := by
  have h0 := h
  obtain ⟨b, off, ao, cap, us, rfl, hnc, hcm, hao, hcl, hul, hin⟩ := h.slice
  unfold maxLen at hcm
  have HUL := hid hul
  have HIN := hid hin
  clear hul hin h
  obtain ⟨W, hW⟩ : ∃ u, u = ((w.alloc (.cells #[.slice ao X.length cap] 30)).alloc (.cells #[.slice none 0 0] 30)) := ⟨_, rfl⟩
  have hbW : Below w.heap.size w W := by rw [hW]; exact belowA2 _ _ _
  have q1 : Box W (w.heap.size) #[.slice ao X.length cap] 30 := by
    have hq := Box.new w #[.slice ao X.length cap] 30
    rw [hW]
    exact (hq.alloc _)
  have q2 : Box W (w.heap.size + 1) #[.slice none 0 0] 30 := by
    have hq := Box.new (w.alloc (.cells #[.slice ao X.length cap] 30)) #[.slice none 0 0] 30
    simp at hq
    rw [hW]
    exact hq
  obtain ⟨p1, hp1⟩ : ∃ p, p = w.heap.size := ⟨_, rfl⟩
  rw [← hp1] at q1
  have hge1 : w.heap.size ≤ p1 := by omega
  obtain ⟨p2, hp2⟩ : ∃ p, p = w.heap.size + 1 := ⟨_, rfl⟩
  rw [← hp2] at q2
  have hge2 : w.heap.size ≤ p2 := by omega
  have hlW : w.heap.size ≤ W.heap.size := hbW.size
  have hlp1 : p1 < W.heap.size := q1.lt
  have hlp2 : p2 < W.heap.size := q2.lt
  have hne12 : p1 ≠ p2 := by omega
  have HP1 := hid hp1
  have HP2 := hid hp2
  have HW := hid hW
  clear hW hp1 hp2
  have m0 := q1.cell (j := 0) rfl
  have hnp := hne12
  go_enter Try.func47, Try.ntmps47
  go_upto_region 1 with fail
  rw [← HP2.out, ← HP1.out, ← HW.out]
  obtain ⟨q, hqq⟩ : ∃ q, q = W.heap.size := ⟨_, rfl⟩
  obtain ⟨w4, hw4⟩ : ∃ u, u = W.alloc (.cells #[.slice none 0 0] 30) := ⟨_, rfl⟩
  have hb4 : Below W.heap.size W w4 := by rw [hw4]; exact below_alloc _ _
  have hx4 : FinG q w4 (tkI X 0) w4 := by rw [hw4, hqq]; exact ⟨_, [], Box.new _ _ _, nestG_emp _, Below.refl _ _⟩
  have n4 := cell_later hb4 m0
  have bx4 := q2.later hb4
  have hp2q : p2 < q := by have := q2.lt; omega
  have hp1q : p1 < q := by have := q1.lt; omega
  have hwq : w.heap.size ≤ q := by omega
  have hbE4 : Below w.heap.size w w4 := hbW.trans (hb4.mono hlW)
  go_upto_region 3 with fail
  rw [← hw4, ← hqq]
  clear hw4 hqq m0 q1 q2 hb4
  go_loopw [14] (fun i wr => ∃ k : Nat, k ≤ X.length ∧ i = .int .i64 k ∧ FinG q w4 (tkI X k) wr) (fun i _ => X.length - (intOf i).toNat)
  case atStart => exact ⟨0, Nat.zero_le _, rfl, hx4⟩
  case round =>
    clear hx4
    obtain ⟨w1, rfl⟩ : ∃ u, u = wr := ⟨wr, rfl⟩
    obtain ⟨k, hk, rfl, hF⟩ := hrel
    have hbR : Below w.heap.size w w1 := by obtain ⟨_, _, _, _, h3⟩ := hF; exact hbE4.trans (h3.mono hwq)
    have hqR : q < w1.heap.size := by obtain ⟨_, _, h1, _, _⟩ := hF; exact h1.lt
    by_cases hlt : k < X.length
    · have hli : (k : Int) < (X.length : Int) := by omega
      obtain ⟨hao', hbw⟩ := hao (by omega)
      subst hao'
      obtain ⟨x, hx⟩ : ∃ x, X[k]? = some x := ⟨_, List.getElem?_eq_getElem hlt⟩
      obtain ⟨sr, hsv⟩ : ∃ s, us[k]? = some s := ⟨_, List.getElem?_eq_getElem (by rw [HUL.out]; exact hlt)⟩
      have d0 := eS1_cells (hcl.below hbR hbw) hsv
      have hA := (HIN.out k sr x hsv hx).below hbR
      have hxl : x.length ≤ 1048576 := okInk_st ok hx
      obtain ⟨xa, xc, hxv⟩ := hA.isSlice
      rw [hxv] at hA
      have hxv2 : Value.slice sr.a sr.n sr.c = .slice xa x.length xc := hxv
      rw [hxv2] at d0
      have hAA := hA
      obtain ⟨pb, po, pa, pc, hpv, hpn, hpm, hpa, hpc⟩ := hAA
      cases hpv
      unfold maxLen at hpm
      have HXX := hid hx
      clear hx hsv hxv hxv2
      have HF := hid hF
      clear hF
      go_upto_region 7 with fail
      obtain ⟨p8, hp8⟩ : ∃ p, p = w1.heap.size + 1 := ⟨_, rfl⟩
      obtain ⟨w5, hw5⟩ : ∃ u, u = (w1.alloc (.cells #[.slice xa x.length xc] 57)).alloc (.cells #[.slice none 0 0] 57) := ⟨_, rfl⟩
      rw [← hp8, ← hw5]
      have hb5 : Below w1.heap.size w1 w5 := by rw [hw5]; exact belowA2 _ _ _
      have hx5 : FinSt p8 w5 (tkP x 0) w5 := by
        have hq := Box.new (w1.alloc (.cells #[.slice xa x.length xc] 57)) #[.slice none 0 0] 57
        simp at hq
        rw [← hp8, ← hw5] at hq
        exact ⟨_, hq, Own.nil _ _ _, Below.refl _ _⟩
      have hp8w : w1.heap.size ≤ p8 := by omega
      have hs5 := hb5.size
      have hA5 := hA.below hb5
      have hpc5 := hpc.below hb5 (b := pb)
      clear hp8 hw5
      go_loopw [21] (fun i wz => ∃ j : Nat, j ≤ x.length ∧ i = .int .i64 j ∧ FinSt p8 w5 (tkP x j) wz) (fun i _ => x.length - (intOf i).toNat)
      case atStart => exact ⟨0, Nat.zero_le _, rfl, hx5⟩
      case round =>
        clear hx5
        obtain ⟨w2, rfl⟩ : ∃ u, u = wr := ⟨wr, rfl⟩
        obtain ⟨j, hj, rfl, uo, hbx, hst, hbl⟩ := hrel
        have hpl := tkP_len hj
        obtain ⟨Z, hZ⟩ : ∃ Z, Z = tkP x j := ⟨_, rfl⟩
        rw [← hZ] at hst hpl
        have HZ := hid hZ
        have HPL := hid hpl
        obtain ⟨oa, oc, huo⟩ := hst.isSlice
        rw [hpl] at huo
        subst huo
        have a1 := hbx.cell (j := 0) rfl
        have hlt' := hbx.lt
        have hb25 := hb5.trans (hbl.mono hp8w)
        clear hZ hpl
        by_cases hjt : j < x.length
        · have hji : (j : Int) < (x.length : Int) := by omega
          obtain ⟨hpa', hpw⟩ := hpa (by omega)
          subst hpa'
          obtain ⟨a, ha⟩ : ∃ a, x[j]? = some a := ⟨_, List.getElem?_eq_getElem hjt⟩
          obtain ⟨e0, e1, e2⟩ := ePoint_cells (hpc.below hb25 hpw) ha
          have HT := hid (show Z ++ [a] = tkP x (j + 1) by rw [HZ.out]; exact tkP_push ha)
          clear ha
          go_upto_region 9 with fail
          obtain ⟨p10, hp10⟩ : ∃ p, p = w2.heap.size := ⟨_, rfl⟩
          obtain ⟨w6, hw6⟩ : ∃ u, u = w2.alloc (.cells #[.int .i64 a.x, .int .i64 a.y, .int .i64 a.t] 59) := ⟨_, rfl⟩
          rw [← hp10, ← hw6]
          have hb6 : Below w2.heap.size w2 w6 := by rw [hw6]; exact below_alloc _ _
          have q10 : Box w6 p10 #[.int .i64 a.x, .int .i64 a.y, .int .i64 a.t] 59 := by rw [hw6, hp10]; exact Box.new _ _ _
          have f0 := q10.cell (j := 0) rfl
          have f1 := q10.cell (j := 1) rfl
          have f2 := q10.cell (j := 2) rfl
          have hbx6 := hbx.later hb6
          have hst6 := hst.below hb6
          have hbl6 := hbl.trans (hb6.mono (Nat.le_of_lt hlt'))
          have a16 := hbx6.cell (j := 0) rfl
          have hlt6 := hbx6.lt
          clear hp10 hw6 a1 hbx hst hbl e0 e1 e2
          refine wp_region_stg 6 8 (fun c w' => match c with | 0 => Below w6.heap.size w6 w' | 1 => (Box w' p8 #[.slice oa j oc] 57 ∧ Below p8 w6 w') | _ => FinSt p8 w5 (Z ++ [a]) w') (fun c i v w' => match i with
                | 0 => v = .pointer (some ⟨p8, 0, none⟩)
                | 1 => v = .slice oa j oc
                | 2 => v = .func (.func 48) #[] #[]
                | 3 => v = .agg #[.int .i64 a.x, .int .i64 a.y, .int .i64 a.t]
                | 4 => (match c with | 0 => (v = .agg #[.int .i64 a.x, .int .i64 a.y, .int .i64 a.t]) | 1 => True | _ => True)
                | 5 => (match c with | 0 => (Arr ePoint w' v [a]) | 1 => True | _ => True)
                | 6 => (match c with | 0 => True | 1 => (Own ePoint 59 (p8 + 1) w' v (Z ++ [a])) | _ => True)
                | 7 => v = .pointer (some ⟨p8, 0, none⟩)
                | 8 => (match c with | 0 => True | 1 => True | _ => True)
                | _ => True) (by kernel_rfl) (by kernel_rfl) (by kernel_rfl) (by kernel_rfl) (by kernel_rfl) ?_ ?_ ?_ ?_ ?_ ?_ (by decide) ?_
          · exact (Below.refl _ w6).drew
          · intro c w w' h hb
            match c, h with
            | 0, h => exact Below.trans (B := w6.heap.size) h (hb.mono (Below.size h))
            | 1, h => exact ⟨h.1.later hb, h.2.trans (hb.mono (Nat.le_of_lt h.1.lt))⟩
            | (k + 2), h => exact (FinSt.below h hb)
          · intro c i v w w' h hb
            match i, h with
            | 0, h => exact h
            | 1, h => exact h
            | 2, h => exact h
            | 3, h => exact h
            | 4, h =>
              match c, h with
              | 0, h => exact h
              | 1, h => exact trivial
              | (k + 2), h => exact trivial
            | 5, h =>
              match c, h with
              | 0, h => exact h.below hb
              | 1, h => exact trivial
              | (k + 2), h => exact trivial
            | 6, h =>
              match c, h with
              | 0, h => exact trivial
              | 1, h => exact h.below hb
              | (k + 2), h => exact trivial
            | 7, h => exact h
            | 8, h =>
              match c, h with
              | 0, h => exact trivial
              | 1, h => exact trivial
              | (k + 2), h => exact trivial
            | (k + 9), h => exact h
          · refine ⟨?_, ?_, ?_, ?_, ?_, ?_, ?_, ?_, ?_, trivial⟩
            · refine .inr (.inr ⟨fun _ => ?_, can_no (by kernel_rfl), can_no (by kernel_rfl)⟩)
              · intro ρ w' hbw ht hcs hfn hgl hdep G hG
                replace hbw : Below w6.heap.size w6 w' := hbw
                refine ⟨fun _ => ?_, fun h => by cases h⟩
                have s8 : ρ (.tmp 8) = .pointer (some ⟨p8, 0, none⟩) := ht 8 rfl
                clear ht hdep hgl
                go_simp
                exact hG _ _ (Below.refl _ _) rfl
            · refine .inr (.inr ⟨fun _ => ?_, can_no (by kernel_rfl), can_no (by kernel_rfl)⟩)
              · intro ρ w' hbw ht hcs hfn hgl hdep G hG
                replace hbw : Below w6.heap.size w6 w' := hbw
                refine ⟨fun _ => ?_, fun h => by cases h⟩
                have s25 : ρ (.tmp 25) = .pointer (some ⟨p8, 0, none⟩) := hdep ⟨0, .data⟩ (by simp) rfl 25 rfl
                have a16 := cell_later hbw a16
                have f0 := cell_later hbw f0
                have f1 := cell_later hbw f1
                have f2 := cell_later hbw f2
                clear ht hdep hgl
                go_simp
                exact hG _ _ (Below.refl _ _) rfl
            · refine .inr (.inr ⟨fun _ => ?_, can_no (by kernel_rfl), can_no (by kernel_rfl)⟩)
              · intro ρ w' hbw ht hcs hfn hgl hdep G hG
                replace hbw : Below w6.heap.size w6 w' := hbw
                refine ⟨fun _ => ?_, fun h => by cases h⟩
                have s1 : ρ (.tmp 1) = .func (.func 48) #[] #[] := ht 1 rfl
                clear ht hdep hgl
                go_simp
                exact hG _ _ (Below.refl _ _) rfl
            · refine .inr (.inr ⟨fun _ => ?_, can_no (by kernel_rfl), can_no (by kernel_rfl)⟩)
              · intro ρ w' hbw ht hcs hfn hgl hdep G hG
                replace hbw : Below w6.heap.size w6 w' := hbw
                refine ⟨fun _ => ?_, fun h => by cases h⟩
                have s10 : ρ (.tmp 10) = .pointer (some ⟨p10, 0, none⟩) := ht 10 rfl
                have a16 := cell_later hbw a16
                have f0 := cell_later hbw f0
                have f1 := cell_later hbw f1
                have f2 := cell_later hbw f2
                clear ht hdep hgl
                go_simp
                exact hG _ _ (Below.refl _ _) rfl
            · refine .inr (.inr ⟨fun _ => ?_, can_no (by kernel_rfl), can_no (by kernel_rfl)⟩)
              · intro ρ w' hbw ht hcs hfn hgl hdep G hG
                replace hbw : Below w6.heap.size w6 w' := hbw
                refine ⟨fun _ => ?_, fun h => by cases h⟩
                have s27 : ρ (.tmp 27) = .func (.func 48) #[] #[] := hdep ⟨2, .data⟩ (by simp) rfl 27 rfl
                have s28 : ρ (.tmp 28) = .agg #[.int .i64 a.x, .int .i64 a.y, .int .i64 a.t] := hdep ⟨3, .data⟩ (by simp) rfl 28 rfl
                clear ht hdep hgl
                go_simp
                exact (copyPt_any a w').mono fun e w'' he => ⟨_, he.1, hG _ _ he.2 rfl⟩
            · refine .inr (.inr ⟨fun _ => ?_, can_no (by kernel_rfl), can_no (by kernel_rfl)⟩)
              · intro ρ w' hbw ht hcs hfn hgl hdep G hG
                replace hbw : Below w6.heap.size w6 w' := hbw
                refine ⟨fun _ => ?_, fun h => by cases h⟩
                have d29 := hdep ⟨4, .data⟩ (by simp) rfl 29 rfl
                clear ht hdep hgl
                have s29 : ρ (.tmp 29) = .agg #[.int .i64 a.x, .int .i64 a.y, .int .i64 a.t] := d29
                go_simp
                exact hG _ _ (below_alloc _ _) (arr_block1 (E := ePoint) (n := 1) [a] #[.int .i64 a.x, .int .i64 a.y, .int .i64 a.t] rfl rfl (by decide) (by simp))
            · exact .inl rfl
            · refine .inr (.inr ⟨fun _ => ?_, fun _ => ?_, can_no (by kernel_rfl)⟩)
              · intro ρ w' hbw ht hcs hfn hgl hdep G hG
                replace hbw : Below w6.heap.size w6 w' := hbw
                refine ⟨fun _ => ?_, fun h => by cases h⟩
                have s8 : ρ (.tmp 8) = .pointer (some ⟨p8, 0, none⟩) := ht 8 rfl
                clear ht hdep hgl
                go_simp
                exact hG _ _ (Below.refl _ _) rfl
              · intro ρ w' hbw ht hcs hfn hgl hdep G hG
                replace hbw : (Box w' p8 #[.slice oa j oc] 57 ∧ Below p8 w6 w') := hbw
                refine ⟨fun _ => ?_, fun h => by cases h⟩
                have s8 : ρ (.tmp 8) = .pointer (some ⟨p8, 0, none⟩) := ht 8 rfl
                clear ht hdep hgl
                go_simp
                exact hG _ _ (Below.refl _ _) rfl
            · exact .inr (.inl rfl)
          · intro o ho
            obtain rfl := Option.some.inj ho
            intro ρ w' hbw ht hcs hfn hgl hdep G hG
            replace hbw : Below w6.heap.size w6 w' := hbw
            refine ⟨fun _ => ?_, fun h => by cases h⟩
            have s26 : ρ (.tmp 26) = .slice oa j oc := hdep ⟨1, .data⟩ (by simp) rfl 26 rfl
            have d30 := hdep ⟨5, .data⟩ (by simp) rfl 30 rfl
            clear ht hdep hgl
            refine upon_appO _ _ 55 (by rfl) (p8 + 1) 59 _ 24 infPointG Try.underlying55 rfl _ Z s26 (hst6.below hbw) [a] d30 (by rw [HPL.out]; unfold maxLen; simp <;> omega) (by rw [HPL.out]; simp <;> omega) (by have := hbw.size; omega) ?_
            intro v' wA hoA hgA hlA
            refine hG _ _ ⟨grownBoxG (hbx6.later hbw) hgA (by intro hh; have := (World.ownsRow.lt (hst6.below hbw) p8 hh).1; omega), (hbw.mono (Nat.le_of_lt hlt6)).grown hgA (by have := hbw.size; omega) (fun kk hh => by have := (World.ownsRow.lt (hst6.below hbw) kk hh).1; omega)⟩ hoA ?_
            intro j u hj hne h
            match j, h with
            | 0, h => exact h
            | 1, h => exact h
            | 2, h => exact h
            | 3, h => exact h
            | 4, h => exact trivial
            | 5, h => exact trivial
            | 6, h => exact absurd rfl hne
            | 7, h => exact h
            | 8, h => exact trivial
            | (k + 9), h => exact h
          · intro o ho
            obtain rfl := Option.some.inj ho
            intro ρ w' hbw ht hcs hfn hgl hdep G hG
            replace hbw : (Box w' p8 #[.slice oa j oc] 57 ∧ Below p8 w6 w') := hbw
            refine ⟨fun _ => ?_, fun h => by cases h⟩
            have s32 : ρ (.tmp 32) = .pointer (some ⟨p8, 0, none⟩) := hdep ⟨7, .data⟩ (by simp) rfl 32 rfl
            have d31 := hdep ⟨6, .data⟩ (by simp) rfl 31 rfl
            clear ht hdep hgl
            have g0 := hbw.1.cell (j := 0) rfl
            have gf := hbw.1.free
            obtain ⟨ua, uc, hu⟩ := d31.isSlice
            rw [show (Z ++ [a]).length = j + 1 by rw [List.length_append, HPL.out]; rfl] at hu
            rw [hu] at d31
            have hx := hid (show FinSt p8 w5 (Z ++ [a]) (w'.setCell ⟨p8, 0, none⟩ (.slice ua (j + 1) uc)) from ⟨_, hbw.1.set 0 _, d31.setBelow (a := ⟨p8, 0, none⟩) (Nat.lt_succ_self p8) _, (hbl6.trans hbw.2).setCell (Nat.le_refl _) _⟩)
            clear d31
            go_simp
            refine hG _ _ hx.out trivial ?_
            intro j u hj hne h
            match j, h with
            | 0, h => exact h
            | 1, h => exact h
            | 2, h => exact h
            | 3, h => exact h
            | 4, h => exact trivial
            | 5, h => exact trivial
            | 6, h => exact trivial
            | 7, h => exact h
            | 8, h => exact trivial
            | (k + 9), h => exact h
          intro xx w7 hF hx
          clear hx
          simp only [putAll, Act.put, List.setIfInBounds_toArray, List.set_cons_succ, List.set_cons_zero, Nat.zero_add, Nat.reduceAdd]
          go_wp2_with fail
          go_roundw
          case rel => exact ⟨j + 1, by omega, by go_num, by rw [← HT.out]; exact hF⟩
          case measure => simp [intOf]; omega
        · obtain rfl : j = x.length := by omega
          have hji : ¬ ((x.length : Int) < (x.length : Int)) := by omega
          have hZx : Z = x := by rw [HZ.out]; exact List.take_length
          subst hZx
          clear HZ HPL
          obtain ⟨vo, vs, gbx0, gst0, gbl0⟩ := HF.out
          obtain ⟨Y, hY⟩ : ∃ Y, Y = tkI X k := ⟨_, rfl⟩
          rw [← hY] at gst0
          have hvl : vs.length = k := by rw [gst0.len, hY]; exact tkI_len hk
          obtain ⟨ga, gc, hgo⟩ := gst0.outer.1.isSlice
          rw [hvl] at hgo
          subst hgo
          have gst := nestG_below gst0 hb25
          have gbx := gbx0.later hb25
          have gbl := gbl0.trans (hb25.mono (Nat.le_of_lt hqR))
          have hNw : NewG w1.heap.size (w2.alloc (.cells #[.slice oa Z.length oc] 57)) ⟨oa, Z.length, oc⟩ Z := NewG.below (hst.in_.mono (by omega) (Nat.le_refl _)) (below_alloc _ _)
          have hb2a : Below w1.heap.size w1 (w2.alloc (.cells #[.slice oa Z.length oc] 57)) := hb25.trans ((below_alloc _ _).mono hb25.size)
          have hq1w : q + 1 ≤ w1.heap.size := hqR
          have HV := hid hvl
          have HT := hid (show Y ++ [Z] = tkI X (k + 1) by rw [hY]; exact tkI_push HXX.out)
          have g0 := gbx.cell (j := 0) rfl
          have glt := gbx.lt
          clear hY hvl
          go_wp2_with (at_builtin; refine wpList_appG rfl _ _ 28 rfl (q + 1) 57 _ 24 infStrokeG Try.underlying28 rfl _ vs (by rfl) ((nestG_below gst (below_alloc _ (.cells #[.slice oa Z.length oc] 57))).outer.1) _ [(⟨oa, Z.length, oc⟩ : SV)] (by rfl) (arr_block1 (E := eS1) (n := 1) [(⟨oa, Z.length, oc⟩ : SV)] #[.slice oa Z.length oc] rfl rfl (by decide) (by simp)) (by rw [HV.out]; unfold maxLen; simp <;> omega) (by rw [HV.out]; simp <;> omega) (by simp <;> omega) ?_)
          intro u7 w7 ho7 hg7 _
          obtain ⟨ua, uc, hu7⟩ := ho7.isSlice
          rw [show (vs ++ [(⟨oa, Z.length, oc⟩ : SV)]).length = k + 1 by rw [List.length_append, HV.out]; rfl] at hu7
          subst hu7
          have hP := nestG_push gst0 hq1w hb2a hNw ho7 hg7
          have gbxA := gbx.alloc (.cells #[.slice oa Z.length oc] 57)
          have gneq : ∀ kk, (Value.slice ga k gc).ownBlock = some kk → q < kk := fun kk hh => by have := (World.ownsRow.lt (nestG_outer gst0 hb2a) kk hh).1; omega
          have gbx7 := grownBoxG gbxA hg7 (fun hh => by have := gneq q hh; omega)
          have gbl7 : Below q w4 w7 := (gbl.trans ((below_alloc _ _).mono (Nat.le_of_lt glt))).grown hg7 (by simp <;> omega) (fun kk hh => Nat.le_of_lt (gneq kk hh))
          have f0 := gbx7.cell (j := 0) rfl
          have ff := gbx7.free
          have hx := hid (show FinG q w4 (tkI X (k + 1)) (w7.setCell ⟨q, 0, none⟩ (.slice ua (k + 1) uc)) from by
            rw [← HT.out]
            exact ⟨_, _, gbx7.set 0 _, by simpa using nestG_chg hP (chg_set w7 q 0 (.slice ua (k + 1) uc)) (.inl (Nat.le_refl _)), gbl7.setCell (Nat.le_refl _) _⟩)
          clear hP ho7 hg7 gbx7 gbxA gbl7 gst gst0 gbx0 gbx gneq
          go_wp2_with fail
          go_roundw
          case rel => exact ⟨k + 1, by omega, by go_num, hx.out⟩
          case measure => simp [intOf]; omega
    · obtain rfl : k = X.length := by omega
      have hli : ¬ ((X.length : Int) < (X.length : Int)) := by omega
      obtain ⟨uo, vs, hbx, hst, hbl⟩ := hF
      have hTI : tkI X X.length = X := List.take_length
      rw [hTI] at hst
      have hvl : vs.length = X.length := hst.len
      obtain ⟨oa, oc, huo⟩ := hst.outer.1.isSlice
      subst huo
      have a1 := hbx.cell (j := 0) rfl
      have bxr := bx4.below hbl hp2q
      have b0 := bxr.cell (j := 0) rfl
      have bf := bxr.free
      have HV := hid hvl
      clear hvl hTI
      go_wp2_with fail
      refine bodyPost_ret (v := .agg #[.slice oa vs.length oc]) (by simp [results, Try.results47, go_sem, b0]) rfl ⟨_, vs, rfl, ?_, ?_⟩
      · have h1 := nestG_chg hst (chg_set w1 p2 0 (.slice oa vs.length oc)) (.inl (by omega))
        exact nestG_mono h1 (by omega) (by simp)
      · exact hbR.setCell hge2 _
set_option maxHeartbeats 1000000 in
theorem copyInk_any (v : Value) (X : XInk) (w : World) (h : Strokes w v X) (ok : okInk X) (hX : X.length ≤ 16) : Calls Try.prog 34 #[.agg #[v]] w (CopyPost X w) := by
  obtain ⟨sa, sc, rfl⟩ : ∃ sa sc, v = .slice sa X.length sc := by obtain ⟨_, _, ao, cap, _, rfl, _⟩ := h.slice; exact ⟨_, _, rfl⟩
  obtain ⟨W, hW⟩ : ∃ u, u = ((w.alloc (.cells #[.slice sa X.length sc] 30)).alloc (.cells #[.slice none 0 0] 30)) := ⟨_, rfl⟩
  have hbW : Below w.heap.size w W := by rw [hW]; exact belowA2 _ _ _
  have q1 : Box W (w.heap.size) #[.slice sa X.length sc] 30 := by
    have hq := Box.new w #[.slice sa X.length sc] 30
    rw [hW]
    exact (hq.alloc _)
  have q2 : Box W (w.heap.size + 1) #[.slice none 0 0] 30 := by
    have hq := Box.new (w.alloc (.cells #[.slice sa X.length sc] 30)) #[.slice none 0 0] 30
    simp at hq
    rw [hW]
    exact hq
  obtain ⟨p1, hp1⟩ : ∃ p, p = w.heap.size := ⟨_, rfl⟩
  rw [← hp1] at q1
  have hge1 : w.heap.size ≤ p1 := by omega
  obtain ⟨p2, hp2⟩ : ∃ p, p = w.heap.size + 1 := ⟨_, rfl⟩
  rw [← hp2] at q2
  have hge2 : w.heap.size ≤ p2 := by omega
  have hlW : w.heap.size ≤ W.heap.size := hbW.size
  have hlp1 : p1 < W.heap.size := q1.lt
  have hlp2 : p2 < W.heap.size := q2.lt
  have hne12 : p1 ≠ p2 := by omega
  have HP1 := hid hp1
  have HP2 := hid hp2
  have HW := hid hW
  clear hW hp1 hp2
  have m0 := q1.cell (j := 0) rfl
  have CM := mapInk_any _ X W (h.below hbW) ok hX
  go_enter Try.func34, Try.ntmps34
  go_upto_region 1 with fail
  rw [← HP2.out, ← HP1.out, ← HW.out]
  go_wp2_with fail
  refine CM.mono ?_
  rintro e w8 ⟨uc, vs, rfl, hN, hb8⟩
  obtain ⟨na, nc, hun⟩ := hN.outer.1.isSlice
  subst hun
  have bx8 := q2.later hb8
  have b0 := bx8.cell (j := 0) rfl
  have bf := bx8.free
  go_wp2_with fail
  refine bodyPost_ret (v := .agg #[.slice na vs.length nc]) (by simp [results, Try.results34, go_sem, b0]) rfl ⟨_, vs, rfl, ?_, ?_⟩
  · have h1 := nestG_chg hN (chg_set w8 p2 0 (.slice na vs.length nc)) (.inl (by have := q2.lt; omega))
    exact nestG_mono h1 hlW (by simp)
  · exact (hbW.trans (hb8.mono hlW)).setCell hge2 _
end Go.Proofs.Ytdadmphmpojjhaa
