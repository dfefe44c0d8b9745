/- The training with all samples in the reference: l12Epoch, TrainEpoch, TrainOne. -/
import Derived.Test.YtdifhnckhocmdabGreatPcAllI
import Derived.Test.YtdifhnckhocmdabGreatAppO
namespace Go.Proofs.YtdifhnckhocmdabGreat
open Go.RowKit

theorem pcpArr {lo hi : Nat} {w : World} {u1 u2 : Value} {x1 : XStringS} {x2 : XInt64SS} (h : rPerceptron.at_ lo hi w (.agg #[u1, u2]) (x1, x2)) : Arr eStr w u1 x1 ∧ RowsI w u2 x2 := by
  obtain ⟨a, b, e, h1, h2⟩ := h
  simp at e
  obtain ⟨rfl, rfl⟩ := e
  exact ⟨rStringS_arr h1, rowsI_at h2⟩
/-- the box that the next perceptron lies in -/
def NxtBox (lo : Nat) (Y : XPerceptron) (v : Value) (w : World) : Prop := ∃ pb a b, v = .pointer (some ⟨pb, 0, none⟩) ∧ Box w pb #[a, b] 29 ∧ lo ≤ pb ∧ rPerceptron.own lo w.heap.size w (.agg #[a, b]) Y
theorem NxtBox.below {lo : Nat} {Y : XPerceptron} {v : Value} {w w' : World} (h : NxtBox lo Y v w) (hb : Below w.heap.size w w') : NxtBox lo Y v w' := by
  obtain ⟨pb, a, b, h1, h2, h3, h4⟩ := h
  exact ⟨pb, a, b, h1, h2.later hb, h3, rPerceptron.own_now h4 hb⟩
def NewBox (lo : Nat) (v : Value) (w : World) : Prop := ∃ pb, v = .pointer (some ⟨pb, 0, none⟩) ∧ Box w pb #[.slice none 0 0, .slice none 0 0] 29 ∧ lo ≤ pb
theorem NewBox.below {lo : Nat} {v : Value} {w w' : World} (h : NewBox lo v w) (hb : Below w.heap.size w w') : NewBox lo v w' := by
  obtain ⟨pb, h1, h2, h3⟩ := h
  exact ⟨pb, h1, h2.later hb, h3⟩
def Tup (lo : Nat) (Y : XPerceptron) (B : Bool) (C : Int) (v : Value) (w : World) : Prop := ∃ u, v = .tuple #[u, .bool B, .int .i64 C] ∧ rPerceptron.own lo w.heap.size w u Y
theorem Tup.below {lo : Nat} {Y : XPerceptron} {B : Bool} {C : Int} {v : Value} {w w' : World} (h : Tup lo Y B C v w) (hb : Below w.heap.size w w') : Tup lo Y B C v w' := h.imp fun _ h' => ⟨h'.1, rPerceptron.own_now h'.2 hb⟩
def Tup0 (B : Bool) (C : Int) (v : Value) : Prop := ∃ u, v = .tuple #[u, .bool B, .int .i64 C]
theorem Tup.t0 {lo : Nat} {Y : XPerceptron} {B : Bool} {C : Int} {v : Value} {w : World} (h : Tup lo Y B C v w) : Tup0 B C v := h.imp fun _ h' => h'.1
theorem own_put {lo pb : Nat} {Y : XPerceptron} {a b a' b' : Value} {w : World} (hb : Box w pb #[a', b'] 29) (h : rPerceptron.own lo w.heap.size w (.agg #[a, b]) Y) (u1 u2 : Value) :
    rPerceptron.own lo ((w.setCell ⟨pb, 0, none⟩ u1).setCell ⟨pb, 1, none⟩ u2).heap.size ((w.setCell ⟨pb, 0, none⟩ u1).setCell ⟨pb, 1, none⟩ u2) (.agg #[a, b]) Y :=
  rPerceptron.own_mono (rPerceptron.own_set (rPerceptron.own_set h hb (by rfl)) (hb.set 0 u1) (by rfl)) (Nat.le_refl _) (by simp)
set_option maxRecDepth 100000 in
set_option maxHeartbeats 8000000 in
theorem l12Epoch_any (u1 u2 v : Value) (x1 : XStringS) (x2 : XInt64SS) (l : XSampleS) (w : World) (h1 : Arr eStr w u1 x1) (h2 : RowsI w u2 x2) (h3 : Smps w v l)
    (hp : pcOk (x1, x2) = true) (hs : ∀ s ∈ l, smpOk s = true) (hkn : ∀ s ∈ l, known (x1, x2) s = true) (h40 : l.length ≤ 40) (g : goodStringS x1) :
    Calls Tryz.prog 25 #[.agg #[u1, u2], v] w (RetNew rPerceptron (aX (stepAll (x1, x2) 0 l)) #[.int .i64 (aN (stepAll (x1, x2) 0 l)), .int .i64 (aC (stepAll (x1, x2) 0 l))] w) := by
  obtain ⟨O, hO⟩ : ∃ O, O = stepAll (x1, x2) 0 l := ⟨_, rfl⟩
  rw [← hO]
  have HO := hid hO
  have HSO := hid hs
  have HKN := hid hkn
  have HSM := hid h3
  clear hO hs hkn
  have HP : Hid ((∀ r ∈ x2, rowOk r = true) ∧ x2.length = x1.length ∧ 1 ≤ x1.length ∧ x1.length ≤ 12) := hid (pcOk_rows hp)
  obtain ⟨b, off, ao, cap, es, rfl, hnc, hcm, hao, hcl, hul, hin⟩ := h3.slice
  unfold maxLen at hcm
  clear hcl hul hin h3
  obtain ⟨W, hW⟩ : ∃ u, u = ((w.alloc (.cells #[u1, u2] 29)).alloc (.cells #[.slice none 0 0, .slice none 0 0] 29)) := ⟨_, rfl⟩
  have hbW : Below w.heap.size w W := by rw [hW]; exact belowA2 _ _ _
  have q1 : Box W (w.heap.size) #[u1, u2] 29 := by
    have hq := Box.new w #[u1, u2] 29
    rw [hW]
    exact (hq.alloc _)
  have q2 : Box W (w.heap.size + 1) #[.slice none 0 0, .slice none 0 0] 29 := by
    have hq := Box.new (w.alloc (.cells #[u1, u2] 29)) #[.slice none 0 0, .slice none 0 0] 29
    simp at hq
    rw [hW]
    exact hq
  obtain ⟨p1, hp1⟩ : ∃ p, p = w.heap.size := ⟨_, rfl⟩
  rw [← hp1] at q1
  have hge1 : w.heap.size ≤ p1 := by omega
  obtain ⟨p2, hp2⟩ : ∃ p, p = w.heap.size + 1 := ⟨_, rfl⟩
  rw [← hp2] at q2
  have hge2 : w.heap.size ≤ p2 := by omega
  have hlW : w.heap.size ≤ W.heap.size := hbW.size
  have hlp1 : p1 < W.heap.size := q1.lt
  have hlp2 : p2 < W.heap.size := q2.lt
  have hne12 : p1 ≠ p2 := by omega
  have HP1 := hid hp1
  have HP2 := hid hp2
  have HW := hid hW
  clear hW hp1 hp2
  have h1W := h1.below hbW
  have h2W := h2.below hbW
  have m0 := q1.cell (j := 0) rfl
  have m1 := q1.cell (j := 1) rfl
  go_enter Tryz.func25, Tryz.ntmps25
  go_upto_region 1 with fail
  rw [← HP2.out, ← HP1.out, ← HW.out]
  go_wp2_with fail
  refine (l12Own_any p1 u1 u2 x1 x2 W m0 m1 h1W h2W (by have := HP.out.2; omega) (by have := HP.out.2; omega) (fun r hr => by have := rowOk_len (HP.out.1 r hr); omega)).mono ?_
  rintro e w2 ⟨v1, v2, vs, q0, rfl, hq0, hoL, hst, hb2⟩
  obtain ⟨la, lc, hv1⟩ := hoL.1.isSlice
  subst hv1
  obtain ⟨ob, oc, hv2⟩ := hst.outer.1.isSlice
  rw [hst.len] at hv2
  subst hv2
  have hs2 := hb2.size
  have hq2 : q0 ≤ w2.heap.size := by
    obtain ⟨go, capO, _, h5, h6, _⟩ := nestSt_head hst (by have := HP.out.2; omega)
    omega
  obtain ⟨q, hq⟩ : ∃ q, q = w2.heap.size := ⟨_, rfl⟩
  go_upto_region 2 with fail
  rw [← hq]
  rw [← hq] at hst
  obtain ⟨w3, hw3⟩ : ∃ w3, w3 = w2.alloc (.cells #[.slice la x1.length lc, .slice ob x2.length oc] 29) := ⟨_, rfl⟩
  rw [← hw3]
  have hbx : Box w3 q #[.slice la x1.length lc, .slice ob x2.length oc] 29 := by rw [hw3, hq]; exact Box.new _ _ _
  have hb3 : Below W.heap.size W w3 := by rw [hw3]; exact hb2.trans ((below_alloc _ _).mono hs2)
  have bx2 := q2.later hb3
  have ho3 : rPerceptron.own W.heap.size w3.heap.size w3 (.agg #[.slice la x1.length lc, .slice ob x2.length oc]) (x1, x2) := by
    have hlt := hbx.lt
    have hst3 : NestSt eI 2 40 q0 q (.slice ob x2.length oc) vs x2 w3 := by rw [hw3]; exact hst.below (below_alloc _ _)
    have oL3 : OwnIn eStr 9 W.heap.size q0 w3 (.slice la x1.length lc) x1 := by rw [hw3]; exact hoL.chg (Chg.of_below (a := 0) (b := 0) (below_alloc _ _)) (.inl (Nat.zero_le _))
    exact pcpOwn oL3 hst3 (by omega) (by omega) (by omega)
  have hlt3 := hbx.lt
  have hqW : W.heap.size ≤ q := by omega
  have hbE3 := hbW.trans (hb3.mono hlW)
  have hp2q : p2 < q := by omega
  have hq0q : q0 ≤ q := by omega
  clear hw3 hq hst hoL m0 m1 q1 q2 hb2 h1W h2W h1 h2
  go_wp2_with fail
  go_loopw [8, 9] (fun n i wr => ∃ (k : Nat) (m : Int) (y2 : XInt64SS) (a1 a2 : Value), k ≤ l.length ∧ i = .int .i64 k ∧ n = .int .i64 m ∧ 0 ≤ m ∧ m ≤ k ∧ pcOk (x1, y2) = true ∧ O = stepAll (x1, y2) m (l.drop k) ∧ Box wr q #[a1, a2] 29 ∧ rPerceptron.own W.heap.size wr.heap.size wr (.agg #[a1, a2]) (x1, y2) ∧ Below q w3 wr) (fun _ i _ => l.length - (intOf i).toNat)
  case atStart => exact ⟨0, 0, x2, _, _, Nat.zero_le _, rfl, rfl, by omega, by omega, hp, HO.out, hbx, ho3, Below.refl _ _⟩
  case round =>
    clear hbx ho3
    obtain ⟨k, m, y2, a1, a2, hk, rfl, rfl, hm0, hm1, hpy, hO, hbx, ho, hbl⟩ := hrel
    obtain ⟨sA, sC, hsh⟩ := shapePerceptron (rPerceptron.own_at ho)
    simp at hsh
    obtain ⟨rfl, rfl⟩ := hsh
    have z0 := hbx.cell (j := 0) rfl
    have z1 := hbx.cell (j := 1) rfl
    have hbE := hbE3.trans (hbl.mono (by omega))
    have hbs := hbx.lt
    have hbxr := bx2.below hbl hp2q
    by_cases hlt : k < l.length
    · have hli : (k : Int) < (l.length : Int) := by omega
      obtain ⟨hao', hbw⟩ := hao (by omega)
      subst hao'
      obtain ⟨s, he⟩ : ∃ s, l[k]? = some s := ⟨_, List.getElem?_eq_getElem hlt⟩
      have hso := HSO.out s (List.mem_of_getElem? he)
      have hkn := HKN.out s (List.mem_of_getElem? he)
      obtain ⟨b2, off2, cap2, sa, sc, hsl, _, _, c0, c1, hA⟩ := (HSM.out.below hbE).get he
      simp only [Value.slice.injEq, Option.some.injEq, Addr.mk.injEq] at hsl
      obtain ⟨⟨rfl, rfl, _⟩, _, rfl⟩ := hsl
      obtain ⟨hA1, hA2⟩ := pcpArr (rPerceptron.own_at ho)
      obtain ⟨Y, hY⟩ : ∃ Y, stepX (x1, y2) s = (x1, Y) := ⟨(stepX (x1, y2) s).2, Prod.ext (stepX_lab _ _) rfl⟩
      have hD := stepAll_drop (x := (x1, y2)) (n := m) he
      rw [← hO, hY] at hD
      have CST := fun w' (hbw : Below wr.heap.size wr w') => l12Step_any _ _ x1 y2 s b (off + k * 2) sa sc w' (hA1.below hbw) (hA2.below hbw) (cell_later hbw c0) (cell_later hbw c1) (hA.below hbw) hpy hso hkn g
      obtain ⟨SX, hSX⟩ : ∃ SX, SX = stX (x1, y2) s := ⟨_, rfl⟩
      obtain ⟨SB, hSB⟩ : ∃ SB, SB = stB (x1, y2) s := ⟨_, rfl⟩
      obtain ⟨SC, hSC⟩ : ∃ SC, SC = stC (x1, y2) s := ⟨_, rfl⟩
      rw [← hSX, ← hSB, ← hSC] at CST
      have HSX := hid hSX
      have HSB := hid hSB
      have HSC := hid hSC
      have HD := hid hD
      have HY := hid hY
      clear hD hO he c0 c1 hA hA1 hA2 hY hSX hSB hSC
      go_wp2_with fail
      refine wp_region_stgx 9 10 (fun c w' => match c with | 0 => Below wr.heap.size wr w' | 1 => Below wr.heap.size wr w' | _ => Below wr.heap.size wr w') (fun c i v w' => match i with
            | 0 => v = .agg #[.slice sA.1 x1.length sC.1, .slice sA.2 y2.length sC.2]
            | 1 => v = .slice (some ⟨b, off, none⟩) l.length cap
            | 2 => v = .int .i64 k
            | 3 => v = .pointer (some ⟨b, off + k * 2, none⟩)
            | 4 => (match c with | 0 => Tup wr.heap.size SX SB SC v w' | 1 => Tup wr.heap.size SX SB SC v w' | _ => True)
            | 5 => (match c with | 0 => Tup wr.heap.size SX SB SC v w' | 1 => Tup wr.heap.size SX SB SC v w' | _ => Tup0 SB SC v)
            | 6 => (match c with | 0 => rPerceptron.own wr.heap.size w'.heap.size w' v SX | 1 => rPerceptron.own wr.heap.size w'.heap.size w' v SX | _ => True)
            | 7 => v = .bool SB
            | 8 => v = .int .i64 SC
            | 9 => (match c with | 0 => True | 1 => NewBox wr.heap.size v w' | _ => NxtBox wr.heap.size SX v w')
            | 10 => (match c with | 0 => True | 1 => True | _ => True)
            | 11 => v = .bool SB
            | 12 => v = .int .i64 SC
            | _ => True) (by kernel_rfl) (by kernel_rfl) (by kernel_rfl) (by kernel_rfl) (by kernel_rfl) ?_ ?_ ?_ ?_ ?_ ?_ (by decide) ?_
      · exact (Below.refl _ wr).drew
      · intro c w w' h hb
        match c, h with
        | 0, h => exact Below.trans (B := wr.heap.size) h (hb.mono (Below.size h))
        | 1, h => exact Below.trans (B := wr.heap.size) h (hb.mono (Below.size h))
        | (k + 2), h => exact (h.trans (hb.mono h.size))
      · intro c i v w w' h hb
        match i, h with
        | 0, h => exact h
        | 1, h => exact h
        | 2, h => exact h
        | 3, h => exact h
        | 4, h =>
          match c, h with
          | 0, h => exact (h.below hb)
          | 1, h => exact (h.below hb)
          | (k + 2), h => exact trivial
        | 5, h =>
          match c, h with
          | 0, h => exact (h.below hb)
          | 1, h => exact (h.below hb)
          | (k + 2), h => exact h
        | 6, h =>
          match c, h with
          | 0, h => exact (rPerceptron.own_now h hb)
          | 1, h => exact (rPerceptron.own_now h hb)
          | (k + 2), h => exact trivial
        | 7, h => exact h
        | 8, h => exact h
        | 9, h =>
          match c, h with
          | 0, h => exact trivial
          | 1, h => exact (h.below hb)
          | (k + 2), h => exact (h.below hb)
        | 10, h =>
          match c, h with
          | 0, h => exact trivial
          | 1, h => exact trivial
          | (k + 2), h => exact trivial
        | 11, h => exact h
        | 12, h => exact h
        | (k + 13), h => exact h
      · refine ⟨?_, ?_, ?_, ?_, ?_, ?_, ?_, ?_, ?_, ?_, ?_, ?_, ?_, trivial⟩
        · refine .inr (.inr ⟨fun _ => ?_, fun _ => ?_, can_no (by kernel_rfl)⟩)
          · intro ρ w' hbw ht hcs hfn hgl hdep G hG
            replace hbw : Below wr.heap.size wr w' := hbw
            refine ⟨fun _ => ?_, fun h => by cases h⟩
            have s7 : ρ (.tmp 7) = .pointer (some ⟨q, 0, none⟩) := ht 7 rfl
            have z0 := cell_later hbw z0
            have z1 := cell_later hbw z1
            clear ht hdep hgl
            go_simp
            exact hG _ _ (Below.refl _ _) rfl
          · intro ρ w' hbw ht hcs hfn hgl hdep G hG
            replace hbw : Below wr.heap.size wr w' := hbw
            refine ⟨fun _ => ?_, fun h => by cases h⟩
            have s7 : ρ (.tmp 7) = .pointer (some ⟨q, 0, none⟩) := ht 7 rfl
            have z0 := cell_later hbw z0
            have z1 := cell_later hbw z1
            clear ht hdep hgl
            go_simp
            exact hG _ _ (Below.refl _ _) rfl
        · refine .inr (.inr ⟨fun _ => ?_, fun _ => ?_, can_no (by kernel_rfl)⟩)
          · intro ρ w' hbw ht hcs hfn hgl hdep G hG
            replace hbw : Below wr.heap.size wr w' := hbw
            refine ⟨fun _ => ?_, fun h => by cases h⟩
            have s1 : ρ (.tmp 1) = .slice (some ⟨b, off, none⟩) l.length cap := ht 1 rfl
            clear ht hdep hgl
            go_simp
            exact hG _ _ (Below.refl _ _) rfl
          · intro ρ w' hbw ht hcs hfn hgl hdep G hG
            replace hbw : Below wr.heap.size wr w' := hbw
            refine ⟨fun _ => ?_, fun h => by cases h⟩
            have s1 : ρ (.tmp 1) = .slice (some ⟨b, off, none⟩) l.length cap := ht 1 rfl
            clear ht hdep hgl
            go_simp
            exact hG _ _ (Below.refl _ _) rfl
        · refine .inr (.inr ⟨fun _ => ?_, fun _ => ?_, can_no (by kernel_rfl)⟩)
          · intro ρ w' hbw ht hcs hfn hgl hdep G hG
            replace hbw : Below wr.heap.size wr w' := hbw
            refine ⟨fun _ => ?_, fun h => by cases h⟩
            have s9 : ρ (.tmp 9) = .int .i64 k := ht 9 rfl
            clear ht hdep hgl
            go_simp
            exact hG _ _ (Below.refl _ _) rfl
          · intro ρ w' hbw ht hcs hfn hgl hdep G hG
            replace hbw : Below wr.heap.size wr w' := hbw
            refine ⟨fun _ => ?_, fun h => by cases h⟩
            have s9 : ρ (.tmp 9) = .int .i64 k := ht 9 rfl
            clear ht hdep hgl
            go_simp
            exact hG _ _ (Below.refl _ _) rfl
        · refine .inr (.inr ⟨fun _ => ?_, fun _ => ?_, can_no (by kernel_rfl)⟩)
          · intro ρ w' hbw ht hcs hfn hgl hdep G hG
            replace hbw : Below wr.heap.size wr w' := hbw
            refine ⟨fun _ => ?_, fun h => by cases h⟩
            have s22 : ρ (.tmp 22) = .slice (some ⟨b, off, none⟩) l.length cap := hdep ⟨1, .data⟩ (by simp) rfl 22 rfl
            have s23 : ρ (.tmp 23) = .int .i64 k := hdep ⟨2, .data⟩ (by simp) rfl 23 rfl
            clear ht hdep hgl
            go_simp
            exact hG _ _ (Below.refl _ _) rfl
          · intro ρ w' hbw ht hcs hfn hgl hdep G hG
            replace hbw : Below wr.heap.size wr w' := hbw
            refine ⟨fun _ => ?_, fun h => by cases h⟩
            have s22 : ρ (.tmp 22) = .slice (some ⟨b, off, none⟩) l.length cap := hdep ⟨1, .data⟩ (by simp) rfl 22 rfl
            have s23 : ρ (.tmp 23) = .int .i64 k := hdep ⟨2, .data⟩ (by simp) rfl 23 rfl
            clear ht hdep hgl
            go_simp
            exact hG _ _ (Below.refl _ _) rfl
        · refine .inr (.inr ⟨fun _ => ?_, fun _ => ?_, can_no (by kernel_rfl)⟩)
          · intro ρ w' hbw ht hcs hfn hgl hdep G hG
            replace hbw : Below wr.heap.size wr w' := hbw
            refine ⟨fun _ => ?_, fun h => by cases h⟩
            have s21 : ρ (.tmp 21) = .agg #[.slice sA.1 x1.length sC.1, .slice sA.2 y2.length sC.2] := hdep ⟨0, .data⟩ (by simp) rfl 21 rfl
            have s24 : ρ (.tmp 24) = .pointer (some ⟨b, off + k * 2, none⟩) := hdep ⟨3, .data⟩ (by simp) rfl 24 rfl
            clear ht hdep hgl
            go_simp
            exact (CST w' hbw).mono fun e w'' ⟨u, he, ho, hb⟩ => ⟨_, he, hG _ _ hb ⟨u, rfl, rPerceptron.own_mono ho hbw.size (Nat.le_refl _)⟩⟩
          · intro ρ w' hbw ht hcs hfn hgl hdep G hG
            replace hbw : Below wr.heap.size wr w' := hbw
            refine ⟨fun _ => ?_, fun h => by cases h⟩
            have s21 : ρ (.tmp 21) = .agg #[.slice sA.1 x1.length sC.1, .slice sA.2 y2.length sC.2] := hdep ⟨0, .data⟩ (by simp) rfl 21 rfl
            have s24 : ρ (.tmp 24) = .pointer (some ⟨b, off + k * 2, none⟩) := hdep ⟨3, .data⟩ (by simp) rfl 24 rfl
            clear ht hdep hgl
            go_simp
            exact (CST w' hbw).mono fun e w'' ⟨u, he, ho, hb⟩ => ⟨_, he, hG _ _ hb ⟨u, rfl, rPerceptron.own_mono ho hbw.size (Nat.le_refl _)⟩⟩
        · refine .inr (.inr ⟨fun _ => ?_, fun _ => ?_, can_no (by kernel_rfl)⟩)
          · intro ρ w' hbw ht hcs hfn hgl hdep G hG
            replace hbw : Below wr.heap.size wr w' := hbw
            refine ⟨fun _ => ?_, fun h => by cases h⟩
            have d25 := hdep ⟨4, .data⟩ (by simp) rfl 25 rfl
            clear ht hdep hgl
            obtain ⟨u, s25, o25⟩ := d25
            go_simp
            exact hG _ _ (Below.refl _ _) ⟨u, rfl, o25⟩
          · intro ρ w' hbw ht hcs hfn hgl hdep G hG
            replace hbw : Below wr.heap.size wr w' := hbw
            refine ⟨fun _ => ?_, fun h => by cases h⟩
            have d25 := hdep ⟨4, .data⟩ (by simp) rfl 25 rfl
            clear ht hdep hgl
            obtain ⟨u, s25, o25⟩ := d25
            go_simp
            exact hG _ _ (Below.refl _ _) ⟨u, rfl, o25⟩
        · refine .inr (.inr ⟨fun _ => ?_, fun _ => ?_, can_no (by kernel_rfl)⟩)
          · intro ρ w' hbw ht hcs hfn hgl hdep G hG
            replace hbw : Below wr.heap.size wr w' := hbw
            refine ⟨fun _ => ?_, fun h => by cases h⟩
            have d20 := hdep ⟨5, .data⟩ (by simp) rfl 20 rfl
            clear ht hdep hgl
            obtain ⟨u, s20, o20⟩ := d20
            go_simp
            exact hG _ _ (Below.refl _ _) o20
          · intro ρ w' hbw ht hcs hfn hgl hdep G hG
            replace hbw : Below wr.heap.size wr w' := hbw
            refine ⟨fun _ => ?_, fun h => by cases h⟩
            have d20 := hdep ⟨5, .data⟩ (by simp) rfl 20 rfl
            clear ht hdep hgl
            obtain ⟨u, s20, o20⟩ := d20
            go_simp
            exact hG _ _ (Below.refl _ _) o20
        · refine .inr (.inr ⟨fun _ => ?_, fun _ => ?_, fun _ => ?_⟩)
          · intro ρ w' hbw ht hcs hfn hgl hdep G hG
            replace hbw : Below wr.heap.size wr w' := hbw
            refine ⟨fun _ => ?_, fun h => by cases h⟩
            have d20 := hdep ⟨5, .data⟩ (by simp) rfl 20 rfl
            clear ht hdep hgl
            have t20 : Tup0 SB SC (ρ (.tmp 20)) := (by first | exact d20 | exact d20.t0)
            obtain ⟨u, s20⟩ := t20
            clear d20
            go_simp
            exact hG _ _ (Below.refl _ _) rfl
          · intro ρ w' hbw ht hcs hfn hgl hdep G hG
            replace hbw : Below wr.heap.size wr w' := hbw
            refine ⟨fun _ => ?_, fun h => by cases h⟩
            have d20 := hdep ⟨5, .data⟩ (by simp) rfl 20 rfl
            clear ht hdep hgl
            have t20 : Tup0 SB SC (ρ (.tmp 20)) := (by first | exact d20 | exact d20.t0)
            obtain ⟨u, s20⟩ := t20
            clear d20
            go_simp
            exact hG _ _ (Below.refl _ _) rfl
          · intro ρ w' hbw ht hcs hfn hgl hdep G hG
            refine ⟨fun _ => ?_, fun h => by cases h⟩
            have d20 := hdep ⟨5, .data⟩ (by simp) rfl 20 rfl
            clear ht hdep hgl
            have t20 : Tup0 SB SC (ρ (.tmp 20)) := (by first | exact d20 | exact d20.t0)
            obtain ⟨u, s20⟩ := t20
            clear d20
            go_simp
            exact hG _ _ (Below.refl _ _) rfl
        · refine .inr (.inr ⟨fun _ => ?_, fun _ => ?_, fun _ => ?_⟩)
          · intro ρ w' hbw ht hcs hfn hgl hdep G hG
            replace hbw : Below wr.heap.size wr w' := hbw
            refine ⟨fun _ => ?_, fun h => by cases h⟩
            have d20 := hdep ⟨5, .data⟩ (by simp) rfl 20 rfl
            clear ht hdep hgl
            have t20 : Tup0 SB SC (ρ (.tmp 20)) := (by first | exact d20 | exact d20.t0)
            obtain ⟨u, s20⟩ := t20
            clear d20
            go_simp
            exact hG _ _ (Below.refl _ _) rfl
          · intro ρ w' hbw ht hcs hfn hgl hdep G hG
            replace hbw : Below wr.heap.size wr w' := hbw
            refine ⟨fun _ => ?_, fun h => by cases h⟩
            have d20 := hdep ⟨5, .data⟩ (by simp) rfl 20 rfl
            clear ht hdep hgl
            have t20 : Tup0 SB SC (ρ (.tmp 20)) := (by first | exact d20 | exact d20.t0)
            obtain ⟨u, s20⟩ := t20
            clear d20
            go_simp
            exact hG _ _ (Below.refl _ _) rfl
          · intro ρ w' hbw ht hcs hfn hgl hdep G hG
            refine ⟨fun _ => ?_, fun h => by cases h⟩
            have d20 := hdep ⟨5, .data⟩ (by simp) rfl 20 rfl
            clear ht hdep hgl
            have t20 : Tup0 SB SC (ρ (.tmp 20)) := (by first | exact d20 | exact d20.t0)
            obtain ⟨u, s20⟩ := t20
            clear d20
            go_simp
            exact hG _ _ (Below.refl _ _) rfl
        · exact .inl rfl
        · exact .inr (.inl rfl)
        · refine .inr (.inr ⟨fun _ => ?_, fun _ => ?_, fun _ => ?_⟩)
          · intro ρ w' hbw ht hcs hfn hgl hdep G hG
            replace hbw : Below wr.heap.size wr w' := hbw
            refine ⟨fun _ => ?_, fun h => by cases h⟩
            have s27 : ρ (.tmp 27) = .bool SB := hdep ⟨7, .data⟩ (by simp) rfl 27 rfl
            clear ht hdep hgl
            go_simp
            exact hG _ _ (Below.refl _ _) rfl
          · intro ρ w' hbw ht hcs hfn hgl hdep G hG
            replace hbw : Below wr.heap.size wr w' := hbw
            refine ⟨fun _ => ?_, fun h => by cases h⟩
            have s27 : ρ (.tmp 27) = .bool SB := hdep ⟨7, .data⟩ (by simp) rfl 27 rfl
            clear ht hdep hgl
            go_simp
            exact hG _ _ (Below.refl _ _) rfl
          · intro ρ w' hbw ht hcs hfn hgl hdep G hG
            refine ⟨fun _ => ?_, fun h => by cases h⟩
            have s27 : ρ (.tmp 27) = .bool SB := hdep ⟨7, .data⟩ (by simp) rfl 27 rfl
            clear ht hdep hgl
            go_simp
            exact hG _ _ (Below.refl _ _) rfl
        · refine .inr (.inr ⟨fun _ => ?_, fun _ => ?_, fun _ => ?_⟩)
          · intro ρ w' hbw ht hcs hfn hgl hdep G hG
            replace hbw : Below wr.heap.size wr w' := hbw
            refine ⟨fun _ => ?_, fun h => by cases h⟩
            have s28 : ρ (.tmp 28) = .int .i64 SC := hdep ⟨8, .data⟩ (by simp) rfl 28 rfl
            clear ht hdep hgl
            go_simp
            exact hG _ _ (Below.refl _ _) rfl
          · intro ρ w' hbw ht hcs hfn hgl hdep G hG
            replace hbw : Below wr.heap.size wr w' := hbw
            refine ⟨fun _ => ?_, fun h => by cases h⟩
            have s28 : ρ (.tmp 28) = .int .i64 SC := hdep ⟨8, .data⟩ (by simp) rfl 28 rfl
            clear ht hdep hgl
            go_simp
            exact hG _ _ (Below.refl _ _) rfl
          · intro ρ w' hbw ht hcs hfn hgl hdep G hG
            refine ⟨fun _ => ?_, fun h => by cases h⟩
            have s28 : ρ (.tmp 28) = .int .i64 SC := hdep ⟨8, .data⟩ (by simp) rfl 28 rfl
            clear ht hdep hgl
            go_simp
            exact hG _ _ (Below.refl _ _) rfl
      · intro o ho
        obtain rfl := Option.some.inj ho
        intro ρ w' hbw ht hcs hfn hgl hdep G hG
        replace hbw : Below wr.heap.size wr w' := hbw
        refine ⟨fun _ => ?_, fun h => by cases h⟩
        clear ht hdep hgl
        go_simp
        refine hG _ _ (hbw.trans ((below_alloc _ _).mono hbw.size)) ⟨_, rfl, Box.new _ _ _, hbw.size⟩ ?_
        intro j u hj hne h
        match j, h with
        | 0, h => exact h
        | 1, h => exact h
        | 2, h => exact h
        | 3, h => exact h
        | 4, h => exact h.below (below_alloc _ _)
        | 5, h => exact h.below (below_alloc _ _)
        | 6, h => exact rPerceptron.own_now h (below_alloc _ _)
        | 7, h => exact h
        | 8, h => exact h
        | 9, h => exact absurd rfl hne
        | 10, h => exact trivial
        | 11, h => exact h
        | 12, h => exact h
        | (k + 13), h => exact h
      · intro o ho
        obtain rfl := Option.some.inj ho
        intro ρ w' hbw ht hcs hfn hgl hdep G hG
        replace hbw : Below wr.heap.size wr w' := hbw
        refine ⟨fun _ => ?_, fun h => by cases h⟩
        have d10 := hdep ⟨9, .data⟩ (by simp) rfl 10 rfl
        have d26 := hdep ⟨6, .data⟩ (by simp) rfl 26 rfl
        clear ht hdep hgl
        obtain ⟨pb, s10, hbn, hge⟩ := d10
        obtain ⟨sb, sd, s26⟩ := shapePerceptron (rPerceptron.own_at d26)
        rw [s26] at d26
        have f0 := hbn.cell (j := 0) rfl
        have f1 := hbn.cell (j := 1) rfl
        have ff := hbn.free
        go_simp
        refine hG _ _ ((hbw.setCell hge _).setCell hge _) trivial ?_
        intro j u hj hne hru h
        match j, h with
        | 0, h => exact h
        | 1, h => exact h
        | 2, h => exact h
        | 3, h => exact h
        | 4, h => trivial
        | 5, h => exact h.t0
        | 6, h => trivial
        | 7, h => exact h
        | 8, h => exact h
        | 9, h => (have e := hru _ 10 rfl rfl; rw [s10] at e; exact ⟨pb, _, _, e.symm, (hbn.set 0 _).set 1 _, hge, own_put hbn d26 _ _⟩)
        | 10, h => exact trivial
        | 11, h => exact h
        | 12, h => exact h
        | (k + 13), h => exact h
      intro xx w6 hF hx
      have hx7 : xx 7 = .bool SB := hx 7 (by simp)
      have hx8 : xx 8 = .int .i64 SC := hx 8 (by simp)
      have hx11 : xx 11 = .bool SB := hx 11 (by simp)
      have hx12 : xx 12 = .int .i64 SC := hx 12 (by simp)
      have HNB := hx 9 (by simp)
      clear hx
      simp only [putAll, Act.put, List.setIfInBounds_toArray, List.set_cons_succ, List.set_cons_zero, Nat.zero_add, Nat.reduceAdd, hx7, hx8, hx11, hx12]
      clear hx7 hx8 hx11 hx12
      obtain ⟨pb, na, nb, hxv, hbn, hge, hon⟩ := HNB
      rw [hxv]
      obtain ⟨sn, sm, hsn⟩ := shapePerceptron (rPerceptron.own_at hon)
      simp at hsn
      obtain ⟨rfl, rfl⟩ := hsn
      have hbx6 := hbx.later hF
      have bx6 := hbxr.later hF
      have hs6 := hF.size
      have hbE6 := hbE.trans (hF.mono hbE.size)
      have hbl6 := hbl.trans (hF.mono (Nat.le_of_lt hbs))
      clear hbx hbxr hF CST z0 z1 ho hbl hbE
      cases hpc : pcOk (x1, Y)
      · have HN : Hid (O = none) := hid (by rw [HD.out, hpc]; rfl)
        have e2 : SC = 5 := by rw [HSC.out]; unfold stC; rw [HY.out, hpc]; rfl
        subst e2
        have f0 := bx6.cell (j := 0) rfl
        have f1 := bx6.cell (j := 1) rfl
        have ff := bx6.free
        go_wp2_with fail
        refine bodyPost_ret (v := .tuple #[.agg #[.slice none 0 0, .slice none 0 0], .int .i64 0, .int .i64 5]) (by simp [results, Tryz.results25, go_sem, f0, f1]) rfl ⟨.agg #[.slice none 0 0, .slice none 0 0], by rw [HN.out]; rfl, ?_, ?_⟩
        · rw [HN.out]
          exact nilOwn _ _
        · exact (hbE6.setCell hge2 _).setCell hge2 _
      · have e1 : SX = (x1, Y) := by rw [HSX.out]; unfold stX; rw [HY.out, hpc]; rfl
        subst e1
        have e2 : SC = 0 := by rw [HSC.out]; unfold stC; rw [HY.out, hpc]; rfl
        subst e2
        have e3 : SB = !hitB (x1, y2) s := by rw [HSB.out]; unfold stB; rw [HY.out, hpc]; rfl
        have b0 := hbn.cell (j := 0) rfl
        have b1 := hbn.cell (j := 1) rfl
        have f0 := hbx6.cell (j := 0) rfl
        have f1 := hbx6.cell (j := 1) rfl
        have ff := hbx6.free
        have HBX := hid hbx6
        have HON := hid (rPerceptron.own_mono hon (show W.heap.size ≤ wr.heap.size by omega) (Nat.le_refl _))
        have HBL := hid hbl6
        have HPC := hid hpc
        cases hit : hitB (x1, y2) s
        · rw [hit] at e3
          subst e3
          have HN : Hid (O = stepAll (x1, Y) (m + 1) (l.drop (k + 1))) := hid (by rw [HD.out, hpc, hit]; rfl)
          have hwrp : IntKind.i64.wrap (m + 1) = m + 1 := IntWalk.i64_in _ (by omega)
          clear hon hbx6 hbl6 hpc hit
          go_wp2_with fail
          go_roundw
          case rel => exact ⟨k + 1, m + 1, Y, _, _, by omega, by go_num, by go_num, by omega, by omega, HPC.out, HN.out, by simpa using (HBX.out.set 0 _).set 1 _, own_put HBX.out HON.out _ _, (HBL.out.setCell (Nat.le_refl _) _).setCell (Nat.le_refl _) _⟩
          case measure => simp [intOf]; omega
        · rw [hit] at e3
          subst e3
          have HN : Hid (O = stepAll (x1, Y) m (l.drop (k + 1))) := hid (by rw [HD.out, hpc, hit]; rfl)
          clear hon hbx6 hbl6 hpc hit
          go_wp2_with fail
          go_roundw
          case rel => exact ⟨k + 1, m, Y, _, _, by omega, by go_num, rfl, by omega, by omega, HPC.out, HN.out, by simpa using (HBX.out.set 0 _).set 1 _, own_put HBX.out HON.out _ _, (HBL.out.setCell (Nat.le_refl _) _).setCell (Nat.le_refl _) _⟩
          case measure => simp [intOf]; omega
    · obtain rfl : k = l.length := by omega
      have hli : ¬ ((l.length : Int) < (l.length : Int)) := by omega
      rw [stepAll_end] at hO
      have HN := hid hO
      clear hO
      have f0 := hbxr.cell (j := 0) rfl
      have f1 := hbxr.cell (j := 1) rfl
      have ff := hbxr.free
      have HON := hid (rPerceptron.own_mono ho hlW (Nat.le_refl _))
      go_wp2_with fail
      refine bodyPost_ret (v := .tuple #[.agg #[.slice sA.1 x1.length sC.1, .slice sA.2 y2.length sC.2], .int .i64 m, .int .i64 0]) (by simp [results, Tryz.results25, go_sem, f0, f1]) rfl ⟨.agg #[.slice sA.1 x1.length sC.1, .slice sA.2 y2.length sC.2], by rw [HN.out]; rfl, ?_, ?_⟩
      · rw [HN.out]
        exact own_put hbxr HON.out _ _
      · exact (hbE.setCell hge2 _).setCell hge2 _
set_option maxRecDepth 100000 in
set_option maxHeartbeats 8000000 in
theorem specTrainEpoch_any (v1 : Value) (x : XPerceptron) (v2 : Value) (l : XSampleS) (w : World) {lo1 hi1 lo2 hi2 : Nat} (h1 : rPerceptron.at_ lo1 hi1 w v1 x) (h2 : rSampleS.at_ lo2 hi2 w v2 l) (ok1 : okPerceptron x) (ok2 : okSampleS l) (g1 : goodPerceptron x) (g2 : goodSampleS l) :
    Calls Tryz.prog 7 #[v1, v2] w (RetNew rPerceptron (epX x l) #[.int .i64 (epN x l), .int .i64 (epC x l)] w) := by
  obtain ⟨u1, u2, rfl, h3, h4⟩ := h1
  obtain ⟨x1, x2⟩ := x
  obtain ⟨hn1, hn2⟩ := ok1
  unfold goodPerceptron at g1
  simp only at h3 h4 hn1 hn2 g1
  replace h3 := rStringS_arr h3
  replace h4 := rowsI_at h4
  replace h2 := (smps_at h2).at_
  obtain ⟨sv, scv, hv⟩ := shapeSampleS h2
  subst hv
  obtain ⟨W, hW⟩ : ∃ u, u = ((w.alloc (.cells #[u1, u2] 29)).alloc (.cells #[.slice none 0 0, .slice none 0 0] 29)) := ⟨_, rfl⟩
  have hbW : Below w.heap.size w W := by rw [hW]; exact belowA2 _ _ _
  have q1 : Box W (w.heap.size) #[u1, u2] 29 := by
    have hq := Box.new w #[u1, u2] 29
    rw [hW]
    exact (hq.alloc _)
  have q2 : Box W (w.heap.size + 1) #[.slice none 0 0, .slice none 0 0] 29 := by
    have hq := Box.new (w.alloc (.cells #[u1, u2] 29)) #[.slice none 0 0, .slice none 0 0] 29
    simp at hq
    rw [hW]
    exact hq
  obtain ⟨p1, hp1⟩ : ∃ p, p = w.heap.size := ⟨_, rfl⟩
  rw [← hp1] at q1
  have hge1 : w.heap.size ≤ p1 := by omega
  obtain ⟨p2, hp2⟩ : ∃ p, p = w.heap.size + 1 := ⟨_, rfl⟩
  rw [← hp2] at q2
  have hge2 : w.heap.size ≤ p2 := by omega
  have hlW : w.heap.size ≤ W.heap.size := hbW.size
  have hlp1 : p1 < W.heap.size := q1.lt
  have hlp2 : p2 < W.heap.size := q2.lt
  have hne12 : p1 ≠ p2 := by omega
  have HP1 := hid hp1
  have HP2 := hid hp2
  have HW := hid hW
  clear hW hp1 hp2
  have h3W := h3.below hbW
  have h4W := h4.below hbW
  have h2W := rSampleS.at_below h2 hbW
  have m0 := q1.cell (j := 0) rfl
  have m1 := q1.cell (j := 1) rfl
  have CO := l12Code_any p1 u1 u2 (.slice sv l.length scv) (x1, x2) l W m0 m1 h3W h4W (smps_at h2W) ⟨hn1, hn2⟩ g1 (okSl_of ok2) g2
  by_cases hc : trCode (x1, x2) l = 0
  case neg =>
    have HG : Hid (epX (x1, x2) l = ([], []) ∧ epN (x1, x2) l = 0 ∧ epC (x1, x2) l = trCode (x1, x2) l) := hid (by simp [epX, epN, epC, hc])
    generalize trCode (x1, x2) l = n at *
    have hc1 : (n == 0) = false := by rw [beq_eq_false_iff_ne]; exact hc
    have hc2 : (n != 0) = true := by rw [bne_iff_ne]; exact hc
    clear hc
    go_enter Tryz.func7, Tryz.ntmps7
    go_upto_region 1 with fail
    rw [← HP2.out, ← HP1.out, ← HW.out]
    go_wp2_with fail
    refine CO.mono ?_
    rintro e w2 ⟨rfl, hb⟩
    have bx2 := q2.later hb
    have f0 := bx2.cell (j := 0) rfl
    have f1 := bx2.cell (j := 1) rfl
    have ff := bx2.free
    have hbE := hbW.trans (hb.mono hlW)
    go_wp2_with fail
    refine bodyPost_ret (v := .tuple #[.agg #[.slice none 0 0, .slice none 0 0], .int .i64 0, .int .i64 n]) (by simp [results, Tryz.results7, go_sem, f0, f1]) rfl ⟨.agg #[.slice none 0 0, .slice none 0 0], by rw [HG.out.2.1, HG.out.2.2]; rfl, ?_, ?_⟩
    · rw [HG.out.1]
      exact nilOwn _ _
    · exact (hbE.setCell hge2 _).setCell hge2 _
  obtain ⟨hp, hsm, hkn, h40⟩ := trCode_zero hc
  have HG : Hid (epX (x1, x2) l = aX (stepAll (x1, x2) 0 l) ∧ epN (x1, x2) l = aN (stepAll (x1, x2) 0 l) ∧ epC (x1, x2) l = aC (stepAll (x1, x2) 0 l)) := hid (by simp [epX, epN, epC, hc])
  rw [hc] at CO
  have HSM := hid hsm
  have HKN := hid hkn
  clear hc hsm hkn
  rw [HG.out.1, HG.out.2.1, HG.out.2.2]
  generalize hO : stepAll (x1, x2) 0 l = O
  have HO := hid hO
  clear hO HG
  go_enter Tryz.func7, Tryz.ntmps7
  go_upto_region 1 with fail
  rw [← HP2.out, ← HP1.out, ← HW.out]
  go_wp2_with fail
  refine CO.mono ?_
  rintro e w2 ⟨rfl, hb2⟩
  have n0 := cell_later hb2 m0
  have n1 := cell_later hb2 m1
  have hs2 := hb2.size
  have CE := l12Epoch_any u1 u2 (.slice sv l.length scv) x1 x2 l w2 (h3W.below hb2) (h4W.below hb2) ((smps_at h2W).below hb2) hp HSM.out HKN.out h40 g1
  rw [HO.out] at CE
  obtain ⟨an, han⟩ : ∃ n, n = aN O := ⟨_, rfl⟩
  obtain ⟨ac, hac⟩ : ∃ n, n = aC O := ⟨_, rfl⟩
  rw [← han, ← hac] at CE
  have HAN := hid han
  have HAC := hid hac
  clear han hac
  go_wp2_with fail
  refine CE.mono ?_
  rintro e w3 ⟨vv, rfl, ho, hb3⟩
  obtain ⟨sb, sd, rfl⟩ := shapePerceptron (rPerceptron.own_at ho)
  have hb23 := hb2.trans (hb3.mono hs2)
  have bx3 := q2.later hb23
  have f0 := bx3.cell (j := 0) rfl
  have f1 := bx3.cell (j := 1) rfl
  have ff := bx3.free
  have hbE := hbW.trans (hb23.mono hlW)
  go_wp2_with fail
  refine bodyPost_ret (v := .tuple #[.agg #[.slice sb.1 (aX O).1.length sd.1, .slice sb.2 (aX O).2.length sd.2], .int .i64 an, .int .i64 ac]) (by simp [results, Tryz.results7, go_sem, f0, f1]) rfl ⟨.agg #[.slice sb.1 (aX O).1.length sd.1, .slice sb.2 (aX O).2.length sd.2], by rw [HAN.out, HAC.out]; rfl, ?_, ?_⟩
  · exact rPerceptron.own_mono (rPerceptron.own_chg (rPerceptron.own_chg ho (chg_set w3 p2 0 _) (.inl (by omega))) (chg_set _ p2 1 _) (.inl (by omega))) (by omega) (by simp)
  · exact (hbE.setCell hge2 _).setCell hge2 _
end Go.Proofs.YtdifhnckhocmdabGreat
