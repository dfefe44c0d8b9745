/- The reference's ink of a group. -/
import Derived.Test.YtdadmphmpojjhaaInkNest
namespace Go.Proofs.Ytdadmphmpojjhaa
open Go.RowKit

def SubAt (X : XInk) (f t B : Nat) (w : World) (v : Value) : Prop := ∃ g cap, v = .slice (some ⟨g, f, none⟩) (t - f) (cap - f) ∧ B ≤ g ∧ Arr eI w v (subO X f t)
theorem SubAt.below {X : XInk} {f t B : Nat} {w w' : World} {v : Value} (h : SubAt X f t B w v) (hb : Below w.heap.size w w') : SubAt X f t B w' v := by
  obtain ⟨g, cap, h1, h2, h3⟩ := h
  exact ⟨g, cap, h1, h2, h3.below hb⟩
theorem subAt_mk {X : XInk} {f t B g cap : Nat} {w : World} (h : B ≤ g) (ha : Arr eI w (.slice (some ⟨g, f, none⟩) (t - f) (cap - f)) (subO X f t)) : SubAt X f t B w (.slice (some ⟨g, f, none⟩) (t - f) (cap - f)) := ⟨g, cap, rfl, h, ha⟩
def InkPost (X : XInk) (f t : Nat) (w : World) (e : Ending) (w' : World) : Prop := ∃ uo vs, e = .returned (.agg #[uo]) ∧ NestG w.heap.size w'.heap.size uo vs (inkG X f t) w' ∧ Below w.heap.size w w'
set_option maxRecDepth 100000 in
set_option maxHeartbeats 4000000 in
theorem l14Ink_any (p o : Nat) (v : Value) (X : XInk) (f t : Nat) (w : World) (hp : w.cell? ⟨p, o, none⟩ = some v) (h : Strokes w v X) (ok : okInk X) (hv : validInk X = true) (hft : f < t) (ht : t ≤ X.length) :
    Calls Try.prog 14 #[.pointer (some ⟨p, o, none⟩), .agg #[.int .i64 f, .int .i64 t]] w (InkPost X f t w) := by
  have hX16 := validInk_len hv
  have htL : t ≤ (orderI X).length := by rw [orderI_len]; exact ht
  have h0 := h
  obtain ⟨b, off, ao, cap, us, rfl, hnc, hcm, hao, hcl, hul, hin⟩ := h.slice
  unfold maxLen at hcm
  have HUL := hid hul
  have HIN := hid hin
  clear hul hin h
  obtain ⟨W, hW⟩ : ∃ u, u = ((w.alloc (.cells #[.int .i64 f, .int .i64 t] 34)).alloc (.cells #[.slice none 0 0] 30)) := ⟨_, rfl⟩
  have hbW : Below w.heap.size w W := by rw [hW]; exact belowA2 _ _ _
  have q1 : Box W (w.heap.size) #[.int .i64 f, .int .i64 t] 34 := by
    have hq := Box.new w #[.int .i64 f, .int .i64 t] 34
    rw [hW]
    exact (hq.alloc _)
  have q2 : Box W (w.heap.size + 1) #[.slice none 0 0] 30 := by
    have hq := Box.new (w.alloc (.cells #[.int .i64 f, .int .i64 t] 34)) #[.slice none 0 0] 30
    simp at hq
    rw [hW]
    exact hq
  obtain ⟨p1, hp1⟩ : ∃ p, p = w.heap.size := ⟨_, rfl⟩
  rw [← hp1] at q1
  have hge1 : w.heap.size ≤ p1 := by omega
  obtain ⟨p2, hp2⟩ : ∃ p, p = w.heap.size + 1 := ⟨_, rfl⟩
  rw [← hp2] at q2
  have hge2 : w.heap.size ≤ p2 := by omega
  have hlW : w.heap.size ≤ W.heap.size := hbW.size
  have hlp1 : p1 < W.heap.size := q1.lt
  have hlp2 : p2 < W.heap.size := q2.lt
  have hne12 : p1 ≠ p2 := by omega
  have HP1 := hid hp1
  have HP2 := hid hp2
  have HW := hid hW
  clear hW hp1 hp2
  have nW := cell_later hbW hp
  have hSW := h0.below hbW
  have m0 := q1.cell (j := 0) rfl
  have m1 := q1.cell (j := 1) rfl
  have CO := fun w' (hb : Below W.heap.size W w') => l14Order_any p o _ X w' (cell_later hb nW) (hSW.below hb) ok hv
  have HTL := hid htL
  clear htL
  go_enter Try.func14, Try.ntmps14
  go_upto_region 1 with fail
  rw [← HP2.out, ← HP1.out, ← HW.out]
  refine wp_region_rel (fun i v w' => match i with
        | 0 => v = .pointer (some ⟨p, o, none⟩)
        | 1 => (Own eI 2 W.heap.size w' v (orderI X))
        | 2 => v = .pointer (some ⟨p1, 0, none⟩)
        | 3 => v = .int .i64 f
        | 4 => v = .pointer (some ⟨p1, 1, none⟩)
        | 5 => v = .int .i64 t
        | 6 => SubAt X f t W.heap.size w' v
        | 7 => SubAt X f t W.heap.size w' v
        | _ => True) (by kernel_rfl) (by kernel_rfl) (by kernel_rfl) (by kernel_rfl) ?_ ?_ ?_
  · intro i v w w' h hb
    match i, h with
    | 0, h => exact h
    | 1, h => exact h.below hb
    | 2, h => exact h
    | 3, h => exact h
    | 4, h => exact h
    | 5, h => exact h
    | 6, h => exact SubAt.below h hb
    | 7, h => exact SubAt.below h hb
    | (k + 8), h => exact h
  · refine ⟨?_, ?_, ?_, ?_, ?_, ?_, ?_, ?_, trivial⟩
    · intro ρ w' hbw ht hcs hfn hgl hdep
      refine ⟨fun _ => ?_, fun h => by cases h⟩
      have s0 : ρ (.tmp 0) = .pointer (some ⟨p, o, none⟩) := ht 0 rfl
      clear ht hdep hgl
      go_simp
      exact ⟨Below.refl _ _, rfl⟩
    · intro ρ w' hbw ht hcs hfn hgl hdep
      refine ⟨fun _ => ?_, fun h => by cases h⟩
      have s8 : ρ (.tmp 8) = .pointer (some ⟨p, o, none⟩) := hdep ⟨0, .data⟩ (by simp) rfl 8 rfl
      clear ht hdep hgl
      go_simp
      exact (CO w' hbw).mono fun e w'' ⟨u, he, ho, hb⟩ => ⟨_, he, hb, ho.mono hbw.size⟩
    · intro ρ w' hbw ht hcs hfn hgl hdep
      refine ⟨fun _ => ?_, fun h => by cases h⟩
      have s3 : ρ (.tmp 3) = .pointer (some ⟨p1, 0, none⟩) := ht 3 rfl
      clear ht hdep hgl
      go_simp
      exact ⟨Below.refl _ _, rfl⟩
    · intro ρ w' hbw ht hcs hfn hgl hdep
      refine ⟨fun _ => ?_, fun h => by cases h⟩
      have s10 : ρ (.tmp 10) = .pointer (some ⟨p1, 0, none⟩) := hdep ⟨2, .data⟩ (by simp) rfl 10 rfl
      have m0 := cell_later hbw m0
      have m1 := cell_later hbw m1
      clear ht hdep hgl
      go_simp
      exact ⟨Below.refl _ _, rfl⟩
    · intro ρ w' hbw ht hcs hfn hgl hdep
      refine ⟨fun _ => ?_, fun h => by cases h⟩
      have s3 : ρ (.tmp 3) = .pointer (some ⟨p1, 0, none⟩) := ht 3 rfl
      clear ht hdep hgl
      go_simp
      exact ⟨Below.refl _ _, rfl⟩
    · intro ρ w' hbw ht hcs hfn hgl hdep
      refine ⟨fun _ => ?_, fun h => by cases h⟩
      have s12 : ρ (.tmp 12) = .pointer (some ⟨p1, 1, none⟩) := hdep ⟨4, .data⟩ (by simp) rfl 12 rfl
      have m0 := cell_later hbw m0
      have m1 := cell_later hbw m1
      clear ht hdep hgl
      go_simp
      exact ⟨Below.refl _ _, rfl⟩
    · intro ρ w' hbw ht hcs hfn hgl hdep
      refine ⟨fun _ => ?_, fun h => by cases h⟩
      have d9 := hdep ⟨1, .data⟩ (by simp) rfl 9 rfl
      have s11 : ρ (.tmp 11) = .int .i64 f := hdep ⟨3, .data⟩ (by simp) rfl 11 rfl
      have s13 : ρ (.tmp 13) = .int .i64 t := hdep ⟨5, .data⟩ (by simp) rfl 13 rfl
      clear ht hdep hgl
      obtain ⟨g, cp, hu, hg, _, hn, _, ha, _⟩ := own_sub d9 hft HTL.out
      have htl := HTL.out
      have s9 : ρ (.tmp 9) = .slice (some ⟨g, 0, none⟩) (orderI X).length cp := hu
      have hfi : (f : Int) ≤ (t : Int) := by omega
      have hti : (t : Int) ≤ (cp : Int) := by omega
      have hfn : f ≤ t := by omega
      have htn : t ≤ cp := by omega
      have hne : ¬ (cp = f) := by omega
      have hne2 : ¬ (f = cp) := by omega
      clear d9 hu htl hn
      go_simp
      exact ⟨Below.refl _ _, subAt_mk hg ha⟩
    · intro ρ w' hbw ht hcs hfn hgl hdep
      refine ⟨fun _ => ?_, fun h => by cases h⟩
      have d14 := hdep ⟨6, .data⟩ (by simp) rfl 14 rfl
      clear ht hdep hgl
      go_simp
      exact ⟨Below.refl _ _, d14⟩
  intro xx w1 hb1 hx
  have hx7 := hx 7 (by simp)
  clear hx
  simp only [putAll, Act.put, List.setIfInBounds_toArray, List.set_cons_succ, List.set_cons_zero, Nat.zero_add, Nat.reduceAdd]
  replace hx7 : SubAt X f t W.heap.size w1 (xx 7) := hx7
  obtain ⟨gs, cs, hvs, hgs, hAs⟩ := hx7
  generalize xx 1 = k1 at *
  generalize xx 6 = k6 at *
  generalize xx 7 = k7 at *
  subst hvs
  have hbE1 := hbW.trans (hb1.mono hlW)
  have hb1s := hb1.size
  have bx2 := q2.later hb1
  have n1 := cell_later hb1 nW
  go_upto_region 3 with fail
  obtain ⟨q, hqq⟩ : ∃ q, q = w1.heap.size := ⟨_, rfl⟩
  obtain ⟨w4, hw4⟩ : ∃ u, u = w1.alloc (.cells #[.slice none 0 0] 30) := ⟨_, rfl⟩
  rw [← hw4, ← hqq]
  have hb4 : Below w1.heap.size w1 w4 := by rw [hw4]; exact below_alloc _ _
  have hx4 : FinG q w4 (inkTo X (subO X f t) 0) w4 := by rw [hw4, hqq]; exact ⟨_, [], Box.new _ _ _, nestG_emp _, Below.refl _ _⟩
  have n4 := cell_later hb4 n1
  have bx4 := bx2.later hb4
  have hpq : p < q := by have := cell_lt n1; omega
  have hp2q : p2 < q := by have := bx2.lt; omega
  have hwq : w.heap.size ≤ q := by have := hbE1.size; omega
  have hbE4 := hbE1.trans (hb4.mono (by have := hbE1.size; omega))
  have hto : ∀ u, Below q w4 u → Below w1.heap.size w1 u := fun u hu => hb4.trans (by rw [← hqq]; exact hu)
  have HTO := hid hto
  clear hw4 hqq hto nW n1 m0 m1 q1 q2 bx2 CO
  go_wp2_with fail
  go_loopw [7] (fun i wr => ∃ k : Nat, k ≤ X.length ∧ i = .int .i64 k ∧ FinG q w4 (inkTo X (subO X f t) k) wr) (fun i _ => X.length - (intOf i).toNat)
  case atStart => exact ⟨0, Nat.zero_le _, rfl, hx4⟩
  case round =>
    clear hx4
    obtain ⟨k, hk, rfl, uo, vs, hbx, hst, hbl⟩ := hrel
    obtain ⟨Z, hZ⟩ : ∃ Z, Z = inkTo X (subO X f t) k := ⟨_, rfl⟩
    have hZl : Z.length ≤ 16 := by rw [hZ]; have := inkTo_len X (subO X f t) k; omega
    rw [← hZ] at hst
    have hvl : vs.length ≤ 16 := by rw [hst.len]; exact hZl
    obtain ⟨oa, oc, huo⟩ := hst.outer.1.isSlice
    subst huo
    have a1 := hbx.cell (j := 0) rfl
    have hlt' := hbx.lt
    have hbR := hbE4.trans (hbl.mono hwq)
    have c1 := below_cell hbl hpq n4
    have hAr := hAs.below (HTO.out wr hbl)
    have HZ := hid hZ
    clear hZ hZl
    by_cases hlt : k < X.length
    · have hli : (k : Int) < (X.length : Int) := by omega
      obtain ⟨hao', hbw⟩ := hao (by omega)
      subst hao'
      obtain ⟨x, hx⟩ : ∃ x, X[k]? = some x := ⟨_, List.getElem?_eq_getElem hlt⟩
      obtain ⟨sr, hsv⟩ : ∃ s, us[k]? = some s := ⟨_, List.getElem?_eq_getElem (by rw [HUL.out]; exact hlt)⟩
      have d0 := eS1_cells (hcl.below hbR hbw) hsv
      have hA := (HIN.out k sr x hsv hx).below hbR
      have hxl : x.length ≤ 1048576 := okInk_st ok hx
      have CH := l00Has_any _ (subO X f t) (k : Int) wr hAr
      have CC := fun w' (hbw : Below wr.heap.size wr w') => l02OwnStroke_any b (off + k) _ x w' (cell_later hbw d0) (hA.below hbw) hxl
      have HXX := hid hx
      clear hx hsv d0 hA hAr
      by_cases hm : (k : Int) ∈ subO X f t
      · have HT := hid (show Z ++ [x] = inkTo X (subO X f t) (k + 1) by rw [HZ.out]; exact inkTo_t HXX.out hm)
        rw [show decide ((k : Int) ∈ subO X f t) = true by simpa using hm] at CH
        clear hm
        go_wp2_with fail
        refine CH.mono ?_
        rintro e w5 ⟨rfl, hb5⟩
        have hbx5 := hbx.later hb5
        have hst5 := nestG_now hst hb5
        have hbl5 := hbl.trans (hb5.mono (Nat.le_of_lt hlt'))
        have a15 := hbx5.cell (j := 0) rfl
        have c15 := cell_later hb5 c1
        have hlt5 := hbx5.lt
        have hs5 := hb5.size
        have CC5 := fun w' (hbw : Below w5.heap.size w5 w') => CC w' (hb5.trans (hbw.mono hs5))
        clear hbx hst hbl CH CC a1 c1
        go_upto_region 7 with fail
        all_goals first | (exfalso; simp_all; done) | skip
        refine wp_region_stg 10 12 (fun c w' => match c with | 0 => Below w5.heap.size w5 w' | 1 => (Box w' q #[.slice oa vs.length oc] 30 ∧ Below q w5 w') | _ => FinG q w4 (Z ++ [x]) w') (fun c i v w' => match i with
              | 0 => v = .pointer (some ⟨q, 0, none⟩)
              | 1 => v = .slice oa vs.length oc
              | 2 => v = .pointer (some ⟨p, o, none⟩)
              | 3 => v = .pointer (some ⟨p, o, none⟩)
              | 4 => v = .pointer (some ⟨p, o, none⟩)
              | 5 => v = .slice (some ⟨b, off, none⟩) X.length cap
              | 6 => v = .int .i64 k
              | 7 => v = .pointer (some ⟨b, off + k, none⟩)
              | 8 => (match c with | 0 => (∃ s : SV, v = .agg #[s.val] ∧ NewG w5.heap.size w' s x) | 1 => True | _ => True)
              | 9 => (match c with | 0 => (∃ s : SV, Arr eS1 w' v [s] ∧ NewG w5.heap.size w' s x) | 1 => True | _ => True)
              | 10 => (match c with | 0 => True | 1 => (∃ s : SV, NestG (q + 1) w'.heap.size v (vs ++ [s]) (Z ++ [x]) w') | _ => True)
              | 11 => v = .pointer (some ⟨q, 0, none⟩)
              | 12 => (match c with | 0 => True | 1 => True | _ => True)
              | _ => True) (by kernel_rfl) (by kernel_rfl) (by kernel_rfl) (by kernel_rfl) (by kernel_rfl) ?_ ?_ ?_ ?_ ?_ ?_ (by decide) ?_
        · exact (Below.refl _ w5).drew
        · intro c w w' h hb
          match c, h with
          | 0, h => exact Below.trans (B := w5.heap.size) h (hb.mono (Below.size h))
          | 1, h => exact ⟨h.1.later hb, h.2.trans (hb.mono (Nat.le_of_lt h.1.lt))⟩
          | (k + 2), h => exact (FinG.below h hb)
        · intro c i v w w' h hb
          match i, h with
          | 0, h => exact h
          | 1, h => exact h
          | 2, h => exact h
          | 3, h => exact h
          | 4, h => exact h
          | 5, h => exact h
          | 6, h => exact h
          | 7, h => exact h
          | 8, h =>
            match c, h with
            | 0, h => exact (h.imp fun _ h' => ⟨h'.1, h'.2.below hb⟩)
            | 1, h => exact trivial
            | (k + 2), h => exact trivial
          | 9, h =>
            match c, h with
            | 0, h => exact (h.imp fun _ h' => ⟨h'.1.below hb, h'.2.below hb⟩)
            | 1, h => exact trivial
            | (k + 2), h => exact trivial
          | 10, h =>
            match c, h with
            | 0, h => exact trivial
            | 1, h => exact (h.imp fun _ h' => nestG_now h' hb)
            | (k + 2), h => exact trivial
          | 11, h => exact h
          | 12, h =>
            match c, h with
            | 0, h => exact trivial
            | 1, h => exact trivial
            | (k + 2), h => exact trivial
          | (k + 13), h => exact h
        · refine ⟨?_, ?_, ?_, ?_, ?_, ?_, ?_, ?_, ?_, ?_, ?_, ?_, ?_, trivial⟩
          · refine .inr (.inr ⟨fun _ => ?_, can_no (by kernel_rfl), can_no (by kernel_rfl)⟩)
            · intro ρ w' hbw ht hcs hfn hgl hdep G hG
              replace hbw : Below w5.heap.size w5 w' := hbw
              refine ⟨fun _ => ?_, fun h => by cases h⟩
              have s6 : ρ (.tmp 6) = .pointer (some ⟨q, 0, none⟩) := ht 6 rfl
              clear ht hdep hgl
              go_simp
              exact hG _ _ (Below.refl _ _) rfl
          · refine .inr (.inr ⟨fun _ => ?_, can_no (by kernel_rfl), can_no (by kernel_rfl)⟩)
            · intro ρ w' hbw ht hcs hfn hgl hdep G hG
              replace hbw : Below w5.heap.size w5 w' := hbw
              refine ⟨fun _ => ?_, fun h => by cases h⟩
              have s28 : ρ (.tmp 28) = .pointer (some ⟨q, 0, none⟩) := hdep ⟨0, .data⟩ (by simp) rfl 28 rfl
              have a15 := cell_later hbw a15
              have c15 := cell_later hbw c15
              clear ht hdep hgl
              go_simp
              exact hG _ _ (Below.refl _ _) rfl
          · refine .inr (.inr ⟨fun _ => ?_, can_no (by kernel_rfl), can_no (by kernel_rfl)⟩)
            · intro ρ w' hbw ht hcs hfn hgl hdep G hG
              replace hbw : Below w5.heap.size w5 w' := hbw
              refine ⟨fun _ => ?_, fun h => by cases h⟩
              have s0 : ρ (.tmp 0) = .pointer (some ⟨p, o, none⟩) := ht 0 rfl
              clear ht hdep hgl
              go_simp
              exact hG _ _ (Below.refl _ _) rfl
          · refine .inr (.inr ⟨fun _ => ?_, can_no (by kernel_rfl), can_no (by kernel_rfl)⟩)
            · intro ρ w' hbw ht hcs hfn hgl hdep G hG
              replace hbw : Below w5.heap.size w5 w' := hbw
              refine ⟨fun _ => ?_, fun h => by cases h⟩
              have s30 : ρ (.tmp 30) = .pointer (some ⟨p, o, none⟩) := hdep ⟨2, .data⟩ (by simp) rfl 30 rfl
              clear ht hdep hgl
              go_simp
              exact hG _ _ (Below.refl _ _) rfl
          · refine .inr (.inr ⟨fun _ => ?_, can_no (by kernel_rfl), can_no (by kernel_rfl)⟩)
            · intro ρ w' hbw ht hcs hfn hgl hdep G hG
              replace hbw : Below w5.heap.size w5 w' := hbw
              refine ⟨fun _ => ?_, fun h => by cases h⟩
              have s31 : ρ (.tmp 31) = .pointer (some ⟨p, o, none⟩) := hdep ⟨3, .data⟩ (by simp) rfl 31 rfl
              clear ht hdep hgl
              go_simp
              exact hG _ _ (Below.refl _ _) rfl
          · refine .inr (.inr ⟨fun _ => ?_, can_no (by kernel_rfl), can_no (by kernel_rfl)⟩)
            · intro ρ w' hbw ht hcs hfn hgl hdep G hG
              replace hbw : Below w5.heap.size w5 w' := hbw
              refine ⟨fun _ => ?_, fun h => by cases h⟩
              have s32 : ρ (.tmp 32) = .pointer (some ⟨p, o, none⟩) := hdep ⟨4, .data⟩ (by simp) rfl 32 rfl
              have a15 := cell_later hbw a15
              have c15 := cell_later hbw c15
              clear ht hdep hgl
              go_simp
              exact hG _ _ (Below.refl _ _) rfl
          · refine .inr (.inr ⟨fun _ => ?_, can_no (by kernel_rfl), can_no (by kernel_rfl)⟩)
            · intro ρ w' hbw ht hcs hfn hgl hdep G hG
              replace hbw : Below w5.heap.size w5 w' := hbw
              refine ⟨fun _ => ?_, fun h => by cases h⟩
              have s7 : ρ (.tmp 7) = .int .i64 k := ht 7 rfl
              clear ht hdep hgl
              go_simp
              exact hG _ _ (Below.refl _ _) rfl
          · refine .inr (.inr ⟨fun _ => ?_, can_no (by kernel_rfl), can_no (by kernel_rfl)⟩)
            · intro ρ w' hbw ht hcs hfn hgl hdep G hG
              replace hbw : Below w5.heap.size w5 w' := hbw
              refine ⟨fun _ => ?_, fun h => by cases h⟩
              have s33 : ρ (.tmp 33) = .slice (some ⟨b, off, none⟩) X.length cap := hdep ⟨5, .data⟩ (by simp) rfl 33 rfl
              have s34 : ρ (.tmp 34) = .int .i64 k := hdep ⟨6, .data⟩ (by simp) rfl 34 rfl
              clear ht hdep hgl
              go_simp
              exact hG _ _ (Below.refl _ _) rfl
          · refine .inr (.inr ⟨fun _ => ?_, can_no (by kernel_rfl), can_no (by kernel_rfl)⟩)
            · intro ρ w' hbw ht hcs hfn hgl hdep G hG
              replace hbw : Below w5.heap.size w5 w' := hbw
              refine ⟨fun _ => ?_, fun h => by cases h⟩
              have s35 : ρ (.tmp 35) = .pointer (some ⟨b, off + k, none⟩) := hdep ⟨7, .data⟩ (by simp) rfl 35 rfl
              clear ht hdep hgl
              go_simp
              exact (CC5 w' hbw).mono fun e w'' ⟨u, he, ho, hb⟩ => ⟨_, he, hG _ _ hb (by obtain ⟨s, h1, h2⟩ := newG_of ho hbw.size; exact ⟨s, by rw [h1], h2⟩)⟩
          · refine .inr (.inr ⟨fun _ => ?_, can_no (by kernel_rfl), can_no (by kernel_rfl)⟩)
            · intro ρ w' hbw ht hcs hfn hgl hdep G hG
              replace hbw : Below w5.heap.size w5 w' := hbw
              refine ⟨fun _ => ?_, fun h => by cases h⟩
              have d36 := hdep ⟨8, .data⟩ (by simp) rfl 36 rfl
              clear ht hdep hgl
              obtain ⟨s, s36, r36⟩ := d36
              have s36 : ρ (.tmp 36) = .agg #[.slice s.a s.n s.c] := s36
              go_simp
              exact hG _ _ (below_alloc _ _) ⟨s, arr_block1 (E := eS1) (n := 1) [s] #[.slice s.a s.n s.c] rfl rfl (by decide) (by simp), r36.below (below_alloc _ _)⟩
          · exact .inl rfl
          · refine .inr (.inr ⟨fun _ => ?_, fun _ => ?_, can_no (by kernel_rfl)⟩)
            · intro ρ w' hbw ht hcs hfn hgl hdep G hG
              replace hbw : Below w5.heap.size w5 w' := hbw
              refine ⟨fun _ => ?_, fun h => by cases h⟩
              have s6 : ρ (.tmp 6) = .pointer (some ⟨q, 0, none⟩) := ht 6 rfl
              clear ht hdep hgl
              go_simp
              exact hG _ _ (Below.refl _ _) rfl
            · intro ρ w' hbw ht hcs hfn hgl hdep G hG
              replace hbw : (Box w' q #[.slice oa vs.length oc] 30 ∧ Below q w5 w') := hbw
              refine ⟨fun _ => ?_, fun h => by cases h⟩
              have s6 : ρ (.tmp 6) = .pointer (some ⟨q, 0, none⟩) := ht 6 rfl
              clear ht hdep hgl
              go_simp
              exact hG _ _ (Below.refl _ _) rfl
          · exact .inr (.inl rfl)
        · intro o ho
          obtain rfl := Option.some.inj ho
          intro ρ w' hbw ht hcs hfn hgl hdep G hG
          replace hbw : Below w5.heap.size w5 w' := hbw
          refine ⟨fun _ => ?_, fun h => by cases h⟩
          have s29 : ρ (.tmp 29) = .slice oa vs.length oc := hdep ⟨1, .data⟩ (by simp) rfl 29 rfl
          have d37 := hdep ⟨9, .data⟩ (by simp) rfl 37 rfl
          clear ht hdep hgl
          obtain ⟨s, a37, r37⟩ := d37
          refine upon_appO _ _ 28 (by rfl) (q + 1) 57 _ 24 infStrokeG Try.underlying28 rfl _ vs s29 (nestG_outer hst5 hbw) [s] a37 (by unfold maxLen; simp <;> omega) (by simp <;> omega) (by have := hbw.size; omega) ?_
          intro v' wA hoA hgA hlA
          refine hG _ _ ⟨grownBoxG (hbx5.later hbw) hgA (by intro hh; have := (World.ownsRow.lt (nestG_outer hst5 hbw) q hh).1; omega), (hbw.mono (Nat.le_of_lt hlt5)).grown hgA (by have := hbw.size; omega) (fun kk hh => by have := (World.ownsRow.lt (nestG_outer hst5 hbw) kk hh).1; omega)⟩ ⟨s, nestG_push hst5 (by omega) hbw r37 hoA hgA⟩ ?_
          intro j u hj hne h
          match j, h with
          | 0, h => exact h
          | 1, h => exact h
          | 2, h => exact h
          | 3, h => exact h
          | 4, h => exact h
          | 5, h => exact h
          | 6, h => exact h
          | 7, h => exact h
          | 8, h => exact trivial
          | 9, h => exact trivial
          | 10, h => exact absurd rfl hne
          | 11, h => exact h
          | 12, h => exact trivial
          | (k + 13), h => exact h
        · intro o ho
          obtain rfl := Option.some.inj ho
          intro ρ w' hbw ht hcs hfn hgl hdep G hG
          replace hbw : (Box w' q #[.slice oa vs.length oc] 30 ∧ Below q w5 w') := hbw
          refine ⟨fun _ => ?_, fun h => by cases h⟩
          have s39 : ρ (.tmp 39) = .pointer (some ⟨q, 0, none⟩) := hdep ⟨11, .data⟩ (by simp) rfl 39 rfl
          have d38 := hdep ⟨10, .data⟩ (by simp) rfl 38 rfl
          clear ht hdep hgl
          obtain ⟨s, h38⟩ := d38
          obtain ⟨ua, uc, hu⟩ := h38.outer.1.isSlice
          rw [show (vs ++ [s]).length = vs.length + 1 from by simp] at hu
          rw [hu] at h38
          have f0 := hbw.1.cell (j := 0) rfl
          have ff := hbw.1.free
          have hx := hid (show FinG q w4 (Z ++ [x]) (w'.setCell ⟨q, 0, none⟩ (.slice ua (vs.length + 1) uc)) from ⟨_, _, hbw.1.set 0 _, by simpa using nestG_chg h38 (chg_set w' q 0 (.slice ua (vs.length + 1) uc)) (.inl (Nat.le_refl _)), (hbl5.trans hbw.2).setCell (Nat.le_refl _) _⟩)
          clear h38
          go_simp
          refine hG _ _ hx.out trivial ?_
          intro j u hj hne h
          match j, h with
          | 0, h => exact h
          | 1, h => exact h
          | 2, h => exact h
          | 3, h => exact h
          | 4, h => exact h
          | 5, h => exact h
          | 6, h => exact h
          | 7, h => exact h
          | 8, h => exact trivial
          | 9, h => exact trivial
          | 10, h => exact trivial
          | 11, h => exact h
          | 12, h => exact trivial
          | (k + 13), h => exact h
        intro xx w6 hF hx
        clear hx
        simp only [putAll, Act.put, List.setIfInBounds_toArray, List.set_cons_succ, List.set_cons_zero, Nat.zero_add, Nat.reduceAdd]
        go_wp2_with fail
        go_roundw
        case rel => exact ⟨k + 1, by omega, by go_num, by rw [← HT.out]; exact hF⟩
        case measure => simp [intOf]; omega
      · have HT := hid (show Z = inkTo X (subO X f t) (k + 1) by rw [HZ.out]; exact inkTo_f hm)
        rw [show decide ((k : Int) ∈ subO X f t) = false by simpa using hm] at CH
        clear hm
        go_wp2_with fail
        refine CH.mono ?_
        rintro e w5 ⟨rfl, hb5⟩
        have HF := hid (show FinG q w4 (inkTo X (subO X f t) (k + 1)) w5 by rw [← HT.out]; exact FinG.below ⟨_, vs, hbx, hst, hbl⟩ hb5)
        clear hbx hst hbl CH CC a1
        go_wp2_with fail
        go_roundw
        case rel => exact ⟨k + 1, by omega, by go_num, HF.out⟩
        case measure => simp [intOf]; omega
    · obtain rfl : k = X.length := by omega
      have hli : ¬ ((X.length : Int) < (X.length : Int)) := by omega
      have bxr := bx4.below hbl hp2q
      have b0 := bxr.cell (j := 0) rfl
      have bf := bxr.free
      have HG := hid (show Z = inkG X f t from HZ.out)
      clear hAr
      go_wp2_with fail
      refine bodyPost_ret (v := .agg #[.slice oa vs.length oc]) (by simp [results, Try.results14, go_sem, b0]) rfl ⟨_, vs, rfl, ?_, ?_⟩
      · rw [← HG.out]
        have h1 := nestG_chg hst (chg_set wr p2 0 (.slice oa vs.length oc)) (.inl (by omega))
        exact nestG_mono h1 (by omega) (by simp)
      · exact hbR.setCell hge2 _
end Go.Proofs.Ytdadmphmpojjhaa
