/- A lattice read from its text: the reference's reader of lines. -/
import Derived.Test.YtbgjojnjbplblaaGreatDoorRtLatS
namespace Go.Proofs.YtbgjojnjbplblaaGreatDoor
open Go.RowKit

def latV (h : List UInt8) (P : List (List UInt8)) : Option XLattice := match headN h, mapO lineG P with
  | some n, some x => if validLt (n, x) then some (n, x) else none
  | _, _ => none
theorem latV_head {h : List UInt8} {P : List (List UInt8)} (hl : headN h = none) : latV h P = none := by unfold latV; rw [hl]
theorem latV_line {h : List UInt8} {P : List (List UInt8)} {p : List UInt8} (hp : p ∈ P) (hl : lineG p = none) : latV h P = none := by
  unfold latV
  rw [mapO_none hp hl]
  cases headN h <;> rfl
theorem latV_is {h : List UInt8} {P : List (List UInt8)} {n : Int} {x : List DEdge} (hn : headN h = some n) (hx : mapO lineG P = some x) : latV h P = if validLt (n, x) then some (n, x) else none := by
  unfold latV; rw [hn, hx]
theorem readLt_cons {s : ByteArray} {h : List UInt8} {P : List (List UInt8)} (hP : linesL s.data.toList = some (h :: P)) : readLt s = latV h P := by
  unfold readLt latV; rw [hP]; rfl
def RetLat (h : List UInt8) (P : List (List UInt8)) (w : World) : Ending → World → Prop := fun e w' => Below w.heap.size w w' ∧ ∃ (n : Int) (u : Value) (X : List DEdge) (c : Bool), e = .returned (.tuple #[.agg #[.int .i64 n, u], .bool c]) ∧ Own eEdge 46 w.heap.size w' u X ∧ latV h P = if c then some (n, X) else none
def FinL (q : Nat) (w0 : World) (n : Int) (X : List DEdge) (w : World) : Prop := ∃ u, Box w q #[.int .i64 n, u] 24 ∧ Own eEdge 46 (q + 1) w u X ∧ Below q w0 w
theorem FinL.below {q : Nat} {w0 w w' : World} {n : Int} {X : List DEdge} (h : FinL q w0 n X w) (hb : Below w.heap.size w w') : FinL q w0 n X w' := by
  obtain ⟨u, h1, h2, h3⟩ := h
  exact ⟨u, h1.later hb, h2.below hb, h3.trans (hb.mono (Nat.le_of_lt h1.lt))⟩
theorem rdN_of {l : List UInt8} (h : rdNb l = true) : rdN l = some (rdNv l) := by
  unfold rdNb at h
  unfold rdNv
  cases hx : rdN l with
  | none => rw [hx] at h; cases h
  | some n => rfl
theorem rdN_ff {l : List UInt8} (h : rdNb l = false) : rdN l = none := by
  unfold rdNb at h
  cases hx : rdN l with
  | none => rfl
  | some n => rw [hx] at h; cases h
theorem lineG_all {p : List UInt8} {A B L C : ByteArray} (h : splL 32 p = [A.data.toList, B.data.toList, L.data.toList, C.data.toList]) : lineG p = if allN [A, B, C] then some ⟨rdNv A.data.toList, rdNv B.data.toList, L, rdNv C.data.toList⟩ else none := by
  unfold lineG allN
  rw [h]
  simp only [List.all_cons, List.all_nil, Bool.and_true]
  cases ha : rdNb A.data.toList
  · rw [rdN_ff ha]; rfl
  cases hb : rdNb B.data.toList
  · rw [rdN_of ha, rdN_ff hb]; rfl
  cases hc : rdNb C.data.toList
  · rw [rdN_of ha, rdN_of hb, rdN_ff hc]; rfl
  rw [rdN_of ha, rdN_of hb, rdN_of hc]
  rfl
set_option maxRecDepth 100000 in
set_option maxHeartbeats 8000000 in
theorem l15Read_any (g cap : Nat) (h : List UInt8) (P : List (List UInt8)) (w : World) (hg : g < w.heap.size) (hc : ∀ (k : Nat) (p : List UInt8), (h :: P)[k]? = some p → w.cell? ⟨g, k, none⟩ = some (.string ⟨p.toArray⟩))
    (hs : ∀ p ∈ h :: P, p.length ≤ 1048576) (hl : P.length ≤ 1048576) : Calls Tryz.prog 16 #[.slice (some ⟨g, 0, none⟩) (P.length + 1) cap] w (RetLat h P w) := by
  obtain ⟨W, hW⟩ : ∃ u, u = (w.alloc (.cells #[.int .i64 0, .slice none 0 0] 24)) := ⟨_, rfl⟩
  have hbW : Below w.heap.size w W := by rw [hW]; exact belowA1 _ _
  have q1 : Box W (w.heap.size) #[.int .i64 0, .slice none 0 0] 24 := by
    have hq := Box.new w #[.int .i64 0, .slice none 0 0] 24
    rw [hW]
    exact hq
  obtain ⟨p1, hp1⟩ : ∃ p, p = w.heap.size := ⟨_, rfl⟩
  rw [← hp1] at q1
  have hge1 : w.heap.size ≤ p1 := by omega
  have hlW : w.heap.size ≤ W.heap.size := hbW.size
  have hlp1 : p1 < W.heap.size := q1.lt
  have HP1 := hid hp1
  have HW := hid hW
  clear hW hp1
  have finish : ∀ (w' : World) (n : Int) (u : Value) (X : List DEdge) (c : Bool), Hid (latV h P = if c then some (n, X) else none) → Own eEdge 46 w.heap.size w' u X → Below w.heap.size w w' → RetLat h P w (.returned (.tuple #[.agg #[.int .i64 n, u], .bool c])) w' := by
    intro w' n u X c hz ho hb
    exact ⟨hb, n, u, X, c, rfl, ho, hz.out⟩
  have hcW : ∀ (k : Nat) (p : List UInt8), (h :: P)[k]? = some p → W.cell? ⟨g, k, none⟩ = some (.string ⟨p.toArray⟩) := fun k p hk => cell_later hbW (hc k p hk)
  have c0 := hcW 0 h rfl
  obtain ⟨pb, hpb⟩ : ∃ pb : ByteArray, pb = ⟨h.toArray⟩ := ⟨_, rfl⟩
  have hpl : pb.data.toList = h := by rw [hpb]
  rw [← hpb] at c0
  have hps : pb.size ≤ 1048576 := by
    have h1 := hs h List.mem_cons_self
    rw [hpb]
    show h.toArray.size ≤ _
    simpa using h1
  have CS := l01Split_any pb 32 W hps
  obtain ⟨R, hR⟩ : ∃ R, R = splL 32 h := ⟨_, rfl⟩
  rw [show splB 32 pb = ofS R by unfold splB; rw [hpl, hR]] at CS
  have hRl : (ofS R).length = R.length := ofS_len R
  have hR2 : R.length ≤ 1048577 := by
    have h1 := (splB_len 32 pb).2
    rw [show splB 32 pb = ofS R by unfold splB; rw [hpl, hR], hRl] at h1
    omega
  have HRE := hid hR
  have HRL := hid hRl
  have HCW := hid hcW
  have HS := hid hs
  clear hc hs hcW hpb hpl hR hRl hps
  have hgW : g < W.heap.size := by omega
  by_cases h2 : R.length = 2
  case neg =>
    have h2b : ((R.length : Int) != 2) = true := by rw [bne_iff_ne]; omega
    have HZ := hid (show latV h P = if false = true then some ((0 : Int), []) else none by
      rw [latV_head (headN_len (by rw [← HRE.out]; exact h2))]; rfl)
    clear h2
    go_enter Tryz.func16, Tryz.ntmps16
    go_upto_region 1 with fail
    rw [← HP1.out, ← HW.out]
    go_wp2_with fail
    refine CS.mono ?_
    rintro en w1 ⟨v1, rfl, ho1, hb1⟩
    obtain ⟨la, lc, hv1⟩ := ho1.isSlice
    rw [HRL.out] at hv1
    subst hv1
    have bx1 := q1.later hb1
    have b0 := bx1.cell (j := 0) rfl
    have b1 := bx1.cell (j := 1) rfl
    have bf := bx1.free
    go_wp2_with fail
    refine bodyPost_ret (v := .tuple #[.agg #[.int .i64 0, .slice none 0 0], .bool false]) (by simp [results, Tryz.results16, go_sem, b0, b1]) rfl (finish _ _ _ _ _ HZ (Own.nil _ _ _) ?_)
    exact ((hbW.trans (hb1.mono hlW)).setCell hge1 _).setCell hge1 _
  have h2b : ((R.length : Int) != 2) = false := by rw [h2]; rfl
  obtain ⟨fb, hfb⟩ : ∃ a, (ofS R)[0]? = some a := ⟨_, List.getElem?_eq_getElem (by rw [HRL.out]; omega)⟩
  obtain ⟨lb, hlb⟩ : ∃ a, (ofS R)[1]? = some a := ⟨_, List.getElem?_eq_getElem (by rw [HRL.out]; omega)⟩
  have hsp : splL 32 h = [fb.data.toList, lb.data.toList] := by
    rw [← HRE.out]
    have h5 := ofS_at hlb
    have h6 := ofS_at hfb
    match R, h2, h5, h6 with
    | [a, c], _, h5, h6 => simp at h5 h6; rw [h5, h6]
  have HFB := hid hfb
  have HLB := hid hlb
  have HSP := hid hsp
  have H2 := hid h2
  have hr0 : (0 : Int) < (R.length : Int) := by omega
  have hr1 : (1 : Int) < (R.length : Int) := by omega
  clear hfb hlb hsp h2
  cases hq : (fb.toList == [108, 97, 116, 116, 105, 99, 101])
  case false =>
    have HZ := hid (show latV h P = if false = true then some ((0 : Int), []) else none by
      have : headN h = none := by
        unfold headN
        rw [HSP.out]
        simp only
        rw [if_neg]
        intro e
        rw [ByteArray.toList_eq, e] at hq
        exact absurd hq (by decide)
      rw [latV_head this]; rfl)
    go_enter Tryz.func16, Tryz.ntmps16
    go_upto_region 1 with fail
    rw [← HP1.out, ← HW.out]
    go_wp2_with fail
    refine CS.mono ?_
    rintro en w1 ⟨v1, rfl, ho1, hb1⟩
    obtain ⟨g1, cap1, hv1, hg1, d0⟩ := own_str ho1 HFB.out
    rw [HRL.out] at hv1
    subst hv1
    have bx1 := q1.later hb1
    have b0 := bx1.cell (j := 0) rfl
    have b1 := bx1.cell (j := 1) rfl
    have bf := bx1.free
    go_wp2_with fail
    refine bodyPost_ret (v := .tuple #[.agg #[.int .i64 0, .slice none 0 0], .bool false]) (by simp [results, Tryz.results16, go_sem, b0, b1]) rfl (finish _ _ _ _ _ HZ (Own.nil _ _ _) ?_)
    exact ((hbW.trans (hb1.mono hlW)).setCell hge1 _).setCell hge1 _
  have CN := fun w' => l01Number_any lb w'
  obtain ⟨nv, hnv⟩ : ∃ n, n = rdNv lb.data.toList := ⟨_, rfl⟩
  obtain ⟨nb, hnb⟩ : ∃ n, n = rdNb lb.data.toList := ⟨_, rfl⟩
  rw [← hnv, ← hnb] at CN
  have hhd : headN h = if nb then some nv else none := by
    unfold headN
    rw [HSP.out]
    simp only
    rw [if_pos (by rw [beq_iff_eq, ByteArray.toList_eq] at hq; exact hq)]
    rw [hnv, hnb]
    cases hx : rdNb lb.data.toList
    · rw [rdN_ff hx]; rfl
    · rw [rdN_of hx]; rfl
  have HHD := hid hhd
  clear hnv hnb hhd
  go_enter Tryz.func16, Tryz.ntmps16
  go_upto_region 1 with fail
  rw [← HP1.out, ← HW.out]
  go_wp2_with fail
  refine CS.mono ?_
  rintro en w1 ⟨v1, rfl, ho1, hb1⟩
  obtain ⟨g1, cap1, hv1, hg1, d0⟩ := own_str ho1 HFB.out
  rw [HRL.out] at hv1
  subst hv1
  obtain ⟨g1', cap1', hv2, _, d1⟩ := own_str ho1 HLB.out
  simp only [Value.slice.injEq, Option.some.injEq, Addr.mk.injEq, and_true] at hv2
  obtain ⟨rfl, hx2, rfl⟩ := hv2
  clear hx2
  have bx1 := q1.later hb1
  have hbE1 := hbW.trans (hb1.mono hlW)
  have hbs1 := hb1.size
  go_wp2_with fail
  refine (CN w1).mono ?_
  rintro en w2 ⟨rfl, hb2⟩
  have bx2 := bx1.later hb2
  have hbE2 := hbE1.trans (hb2.mono hbE1.size)
  have hbs2 := hb2.size
  have hW2 := hb1.trans (hb2.mono hbs1)
  clear CS CN d0 d1 bx1 ho1
  go_upto_region 6 with fail
  obtain ⟨q, hqq⟩ : ∃ q, q = w2.heap.size := ⟨_, rfl⟩
  obtain ⟨w4, hw4⟩ : ∃ u, u = w2.alloc (.cells #[.int .i64 nv, .slice none 0 0] 24) := ⟨_, rfl⟩
  rw [← hw4, ← hqq]
  have hx4 : FinL q w4 nv [] w4 := by rw [hw4, hqq]; exact ⟨_, Box.new _ _ _, Own.nil _ _ _, Below.refl _ _⟩
  have hb4 : Below w2.heap.size w2 w4 := by rw [hw4]; exact below_alloc _ _
  have bx4 := bx2.later hb4
  have hpq : p1 < q := by have := bx2.lt; omega
  have hgq : g < q := by omega
  have hwq : w.heap.size ≤ q := by have := hbE2.size; omega
  have hbE4 := hbE2.trans (hb4.mono (by omega))
  have hPc : ∀ (u : World), Below q w4 u → ∀ (k : Nat) (p : List UInt8), (h :: P)[k]? = some p → u.cell? ⟨g, k, none⟩ = some (.string ⟨p.toArray⟩) := fun u hb k p hk => below_cell hb hgq (cell_later hb4 (cell_later hW2 (HCW.out k p hk)))
  have HPC := hid hPc
  have hXX4 : Hid (if nb = true then nb = true ∧ mapO lineG (P.take 0) = some [] else latV h P = none) := hid (by
    have h1 := HHD.out
    cases nb
    · rw [if_neg (by decide)] at h1 ⊢
      exact latV_head h1
    · exact ⟨rfl, rfl⟩)
  clear hw4 hqq hPc bx2 hW2 HCW
  go_wp2_with fail
  go_loopw [6, 8] (fun o i wr => ∃ (k : Nat) (X : List DEdge) (c : Bool), k ≤ P.length ∧ i = .int .i64 ((k : Int) + 1) ∧ o = .bool c ∧ FinL q w4 nv X wr ∧ Hid (if c = true then nb = true ∧ mapO lineG (P.take k) = some X else latV h P = none) ∧ X.length ≤ k) (fun _ i _ => P.length + 1 - (intOf i).toNat)
  case atStart => exact ⟨0, [], nb, Nat.zero_le _, rfl, rfl, hx4, hXX4, Nat.le_refl _⟩
  case round =>
    clear hx4 hXX4
    obtain ⟨k, X, c, hk, rfl, rfl, ⟨u, hbx, hoE, hbl⟩, HM, hXk⟩ := hrel
    obtain ⟨oa, oc, hu⟩ := hoE.isSlice
    subst hu
    have hbr := hbE4.trans (hbl.mono hwq)
    have bxr := bx4.below hbl hpq
    have hrq := hbx.lt
    have a0 := hbx.cell (j := 0) rfl
    have a1 := hbx.cell (j := 1) rfl
    cases c
    case false =>
      have HZ := hid (show latV h P = if false = true then some (nv, X) else none by rw [if_neg (by decide)]; exact HM.out)
      have b0 := bxr.cell (j := 0) rfl
      have b1 := bxr.cell (j := 1) rfl
      have bf := bxr.free
      by_cases hlt : k < P.length
      · have hli : (k : Int) + 1 < (P.length : Int) + 1 := by omega
        go_upto_region 15 with fail
        go_region_with fail
        all_goals
          go_wp2_with fail
          refine bodyPost_ret (v := .tuple #[.agg #[.int .i64 nv, .slice oa X.length oc], .bool false]) (by simp [results, Tryz.results16, go_sem, b0, b1]) rfl (finish _ _ _ _ _ HZ (((hoE.setBelow (a := ⟨p1, 0, none⟩) (by show p1 < q + 1; omega) _).setBelow (a := ⟨p1, 1, none⟩) (by show p1 < q + 1; omega) _).mono (by omega)) ?_)
          exact (hbr.drew.setCell hge1 _).setCell hge1 _
      · have hli : ¬ ((k : Int) + 1 < (P.length : Int) + 1) := by omega
        go_upto_region 15 with fail
        go_region_with fail
        all_goals
          go_wp2_with fail
          refine bodyPost_ret (v := .tuple #[.agg #[.int .i64 nv, .slice oa X.length oc], .bool false]) (by simp [results, Tryz.results16, go_sem, b0, b1]) rfl (finish _ _ _ _ _ HZ (((hoE.setBelow (a := ⟨p1, 0, none⟩) (by show p1 < q + 1; omega) _).setBelow (a := ⟨p1, 1, none⟩) (by show p1 < q + 1; omega) _).mono (by omega)) ?_)
          exact (hbr.drew.setCell hge1 _).setCell hge1 _
    case true =>
      have hM0 := HM.out
      rw [if_pos rfl] at hM0
      have HM' := hid hM0.2
      have hnb := hM0.1
      subst hnb
      have HHN := hid (show headN h = some nv by have := HHD.out; rw [if_pos rfl] at this; exact this)
      clear hM0 HM
      by_cases hlt : k < P.length
      · have hli : (k : Int) + 1 < (P.length : Int) + 1 := by omega
        have hk0 : (0 : Int) ≤ (k : Int) + 1 := by omega
        have hkt : ((k : Int) + 1).toNat = k + 1 := by omega
        obtain ⟨p, hp⟩ : ∃ p, P[k]? = some p := ⟨_, List.getElem?_eq_getElem hlt⟩
        have c0 := HPC.out wr hbl (k + 1) p (by simpa using hp)
        obtain ⟨pp, hpp⟩ : ∃ pb : ByteArray, pb = ⟨p.toArray⟩ := ⟨_, rfl⟩
        have hpl : pp.data.toList = p := by rw [hpp]
        rw [← hpp] at c0
        have hps : pp.size ≤ 1048576 := by
          have h1 := HS.out p (List.mem_cons_of_mem _ (List.mem_of_getElem? hp))
          rw [hpp]
          show p.toArray.size ≤ _
          simpa using h1
        have CS := fun w' => l01Split_any pp 32 w' hps
        obtain ⟨Q, hQ⟩ : ∃ R, R = splL 32 p := ⟨_, rfl⟩
        rw [show splB 32 pp = ofS Q by unfold splB; rw [hpl, hQ]] at CS
        have hQl : (ofS Q).length = Q.length := ofS_len Q
        have hQ2 : Q.length ≤ 1048577 := by
          have h1 := (splB_len 32 pp).2
          rw [show splB 32 pp = ofS Q by unfold splB; rw [hpl, hQ], hQl] at h1
          omega
        have HPK := hid hp
        have HQE := hid hQ
        have HQL := hid hQl
        have HBX := hid hbx
        have HOE := hid hoE
        have HBL := hid hbl
        have hbls := hbl.size
        clear hp hpp hpl hQ hQl hbx hoE hbl hps
        by_cases h4 : Q.length = 4
        case neg =>
          have h4b : ((Q.length : Int) != 4) = true := by rw [bne_iff_ne]; omega
          have HZ := hid (show latV h P = if false = true then some ((0 : Int), []) else none by
            rw [latV_line (List.mem_of_getElem? HPK.out) (lineG_len (by rw [← HQE.out]; exact h4))]; rfl)
          clear h4
          go_wp2_with fail
          refine (CS wr).mono ?_
          rintro en w5 ⟨v5, rfl, ho5, hb5⟩
          obtain ⟨la, lc, hv5⟩ := ho5.isSlice
          rw [HQL.out] at hv5
          subst hv5
          have bx5 := bxr.later hb5
          have b0 := bx5.cell (j := 0) rfl
          have b1 := bx5.cell (j := 1) rfl
          have bf := bx5.free
          go_wp2_with fail
          refine bodyPost_ret (v := .tuple #[.agg #[.int .i64 0, .slice none 0 0], .bool false]) (by simp [results, Tryz.results16, go_sem, b0, b1]) rfl (finish _ _ _ _ _ HZ (Own.nil _ _ _) ?_)
          exact ((hbr.trans (hb5.mono hbr.size)).setCell hge1 _).setCell hge1 _
        have h4b : ((Q.length : Int) != 4) = false := by rw [h4]; rfl
        obtain ⟨fA, hfA⟩ : ∃ a, (ofS Q)[0]? = some a := ⟨_, List.getElem?_eq_getElem (by rw [HQL.out]; omega)⟩
        obtain ⟨fB, hfB⟩ : ∃ a, (ofS Q)[1]? = some a := ⟨_, List.getElem?_eq_getElem (by rw [HQL.out]; omega)⟩
        obtain ⟨fL, hfL⟩ : ∃ a, (ofS Q)[2]? = some a := ⟨_, List.getElem?_eq_getElem (by rw [HQL.out]; omega)⟩
        obtain ⟨fC, hfC⟩ : ∃ a, (ofS Q)[3]? = some a := ⟨_, List.getElem?_eq_getElem (by rw [HQL.out]; omega)⟩
        have hsp : splL 32 p = [fA.data.toList, fB.data.toList, fL.data.toList, fC.data.toList] := by
          rw [← HQE.out]
          have h5 := ofS_at hfA
          have h6 := ofS_at hfB
          have h7 := ofS_at hfL
          have h8 := ofS_at hfC
          match Q, h4, h5, h6, h7, h8 with
          | [a, b, c, d], _, h5, h6, h7, h8 => simp at h5 h6 h7 h8; rw [h5, h6, h7, h8]
        have hln := lineG_all hsp
        obtain ⟨NV, hNV⟩ : ∃ x, x = valsN [fA, fB, fC] := ⟨_, rfl⟩
        obtain ⟨f3, hf3⟩ : ∃ x, x = allN [fA, fB, fC] := ⟨_, rfl⟩
        obtain ⟨na, hna⟩ : ∃ x, x = rdNv fA.data.toList := ⟨_, rfl⟩
        obtain ⟨nbb, hnbb⟩ : ∃ x, x = rdNv fB.data.toList := ⟨_, rfl⟩
        obtain ⟨nc, hnc⟩ : ∃ x, x = rdNv fC.data.toList := ⟨_, rfl⟩
        have hN0 : NV[0]? = some na := by rw [hNV, hna]; rfl
        have hN1 : NV[1]? = some nbb := by rw [hNV, hnbb]; rfl
        have hN2 : NV[2]? = some nc := by rw [hNV, hnc]; rfl
        have hN3 : NV.length = 3 := by rw [hNV]; rfl
        have CL := fun v w' (hA : Arr eStr w' v [fA, fB, fC]) => l03Numbers_any v _ w' hA (show 3 ≤ 1000000 by decide)
        rw [← hNV, ← hf3] at CL
        rw [← hf3, ← hna, ← hnbb, ← hnc] at hln
        have HLN := hid hln
        have HA := hid hfA
        have HB := hid hfB
        have HL := hid hfL
        have HC := hid hfC
        have HN0 := hid hN0
        have HN1 := hid hN1
        have HN2 := hid hN2
        have hq0 : (0 : Int) < (Q.length : Int) := by omega
        have hq1 : (1 : Int) < (Q.length : Int) := by omega
        have hq2 : (2 : Int) < (Q.length : Int) := by omega
        have hq3 : (3 : Int) < (Q.length : Int) := by omega
        have mq0 : 0 < Q.length := by omega
        have mq1 : 1 < Q.length := by omega
        have mq2 : 2 < Q.length := by omega
        have mq3 : 3 < Q.length := by omega
        have mn0 : 0 < NV.length := by omega
        have mn1 : 1 < NV.length := by omega
        have mn2 : 2 < NV.length := by omega
        have hn0 : (0 : Int) < (NV.length : Int) := by omega
        have hn1 : (1 : Int) < (NV.length : Int) := by omega
        have hn2 : (2 : Int) < (NV.length : Int) := by omega
        clear hfA hfB hfL hfC hsp hln hNV hf3 hna hnbb hnc hN0 hN1 hN2 hN3 h4
        go_wp2_with fail
        refine (CS wr).mono ?_
        rintro en w5 ⟨v5, rfl, ho5, hb5⟩
        obtain ⟨g5, cap5, hv5, hg5, dA⟩ := own_str ho5 HA.out
        rw [HQL.out] at hv5
        subst hv5
        have dB := ho5
        obtain ⟨g5', cap5', hv6, _, dB⟩ := own_str ho5 HB.out
        simp only [Value.slice.injEq, Option.some.injEq, Addr.mk.injEq, and_true] at hv6
        obtain ⟨rfl, hx6, rfl⟩ := hv6
        obtain ⟨g5', cap5', hv6, _, dL⟩ := own_str ho5 HL.out
        simp only [Value.slice.injEq, Option.some.injEq, Addr.mk.injEq, and_true] at hv6
        obtain ⟨rfl, hx7, rfl⟩ := hv6
        obtain ⟨g5', cap5', hv6, _, dC⟩ := own_str ho5 HC.out
        simp only [Value.slice.injEq, Option.some.injEq, Addr.mk.injEq, and_true] at hv6
        obtain ⟨rfl, hx8, rfl⟩ := hv6
        clear hx6 hx7 hx8 ho5
        have hs5 := hb5.size
        go_upto_region 12 with fail
        refine wp_region_rel (fun i v w' => match i with
              | 0 => v = .slice (some ⟨g5, 0, none⟩) Q.length cap5
              | 1 => v = .pointer (some ⟨g5, 0, none⟩)
              | 2 => v = .string fA
              | 3 => v = .slice (some ⟨g5, 0, none⟩) Q.length cap5
              | 4 => v = .pointer (some ⟨g5, 1, none⟩)
              | 5 => v = .string fB
              | 6 => v = .slice (some ⟨g5, 0, none⟩) Q.length cap5
              | 7 => v = .pointer (some ⟨g5, 3, none⟩)
              | 8 => v = .string fC
              | 9 => Arr eStr w' v [fA, fB, fC]
              | 10 => (∃ u, v = .tuple #[u, .bool f3] ∧ Own eI 2 w5.heap.size w' u NV)
              | 11 => (∃ u, v = .tuple #[u, .bool f3] ∧ Own eI 2 w5.heap.size w' u NV)
              | 12 => (Own eI 2 w5.heap.size w' v NV)
              | 13 => v = .bool f3
              | 14 => (Own eI 2 w5.heap.size w' v NV)
              | 15 => v = .bool f3
              | _ => True) (by kernel_rfl) (by kernel_rfl) (by kernel_rfl) (by kernel_rfl) ?_ ?_ ?_
        · intro i v w w' h hb
          match i, h with
          | 0, h => exact h
          | 1, h => exact h
          | 2, h => exact h
          | 3, h => exact h
          | 4, h => exact h
          | 5, h => exact h
          | 6, h => exact h
          | 7, h => exact h
          | 8, h => exact h
          | 9, h => exact h.below hb
          | 10, h => exact (h.imp fun _ h => ⟨h.1, h.2.below hb⟩)
          | 11, h => exact (h.imp fun _ h => ⟨h.1, h.2.below hb⟩)
          | 12, h => exact h.below hb
          | 13, h => exact h
          | 14, h => exact h.below hb
          | 15, h => exact h
          | (k + 16), h => exact h
        · refine ⟨?_, ?_, ?_, ?_, ?_, ?_, ?_, ?_, ?_, ?_, ?_, ?_, ?_, ?_, ?_, ?_, trivial⟩
          · intro ρ w' hbw ht hcs hfn hgl hdep
            refine ⟨fun _ => ?_, fun h => by cases h⟩
            have s4 : ρ (.tmp 4) = .slice (some ⟨g5, 0, none⟩) Q.length cap5 := ht 4 rfl
            clear ht hdep hgl
            go_simp
            exact ⟨Below.refl _ _, rfl⟩
          · intro ρ w' hbw ht hcs hfn hgl hdep
            refine ⟨fun _ => ?_, fun h => by cases h⟩
            have s53 : ρ (.tmp 53) = .slice (some ⟨g5, 0, none⟩) Q.length cap5 := hdep ⟨0, .data⟩ (by simp) rfl 53 rfl
            clear ht hdep hgl
            go_simp
            exact ⟨Below.refl _ _, rfl⟩
          · intro ρ w' hbw ht hcs hfn hgl hdep
            refine ⟨fun _ => ?_, fun h => by cases h⟩
            have s54 : ρ (.tmp 54) = .pointer (some ⟨g5, 0, none⟩) := hdep ⟨1, .data⟩ (by simp) rfl 54 rfl
            have dA := cell_later hbw dA
            have dB := cell_later hbw dB
            have dC := cell_later hbw dC
            clear ht hdep hgl
            go_simp
            exact ⟨Below.refl _ _, rfl⟩
          · intro ρ w' hbw ht hcs hfn hgl hdep
            refine ⟨fun _ => ?_, fun h => by cases h⟩
            have s4 : ρ (.tmp 4) = .slice (some ⟨g5, 0, none⟩) Q.length cap5 := ht 4 rfl
            clear ht hdep hgl
            go_simp
            exact ⟨Below.refl _ _, rfl⟩
          · intro ρ w' hbw ht hcs hfn hgl hdep
            refine ⟨fun _ => ?_, fun h => by cases h⟩
            have s56 : ρ (.tmp 56) = .slice (some ⟨g5, 0, none⟩) Q.length cap5 := hdep ⟨3, .data⟩ (by simp) rfl 56 rfl
            clear ht hdep hgl
            go_simp
            exact ⟨Below.refl _ _, rfl⟩
          · intro ρ w' hbw ht hcs hfn hgl hdep
            refine ⟨fun _ => ?_, fun h => by cases h⟩
            have s57 : ρ (.tmp 57) = .pointer (some ⟨g5, 1, none⟩) := hdep ⟨4, .data⟩ (by simp) rfl 57 rfl
            have dA := cell_later hbw dA
            have dB := cell_later hbw dB
            have dC := cell_later hbw dC
            clear ht hdep hgl
            go_simp
            exact ⟨Below.refl _ _, rfl⟩
          · intro ρ w' hbw ht hcs hfn hgl hdep
            refine ⟨fun _ => ?_, fun h => by cases h⟩
            have s4 : ρ (.tmp 4) = .slice (some ⟨g5, 0, none⟩) Q.length cap5 := ht 4 rfl
            clear ht hdep hgl
            go_simp
            exact ⟨Below.refl _ _, rfl⟩
          · intro ρ w' hbw ht hcs hfn hgl hdep
            refine ⟨fun _ => ?_, fun h => by cases h⟩
            have s59 : ρ (.tmp 59) = .slice (some ⟨g5, 0, none⟩) Q.length cap5 := hdep ⟨6, .data⟩ (by simp) rfl 59 rfl
            clear ht hdep hgl
            go_simp
            exact ⟨Below.refl _ _, rfl⟩
          · intro ρ w' hbw ht hcs hfn hgl hdep
            refine ⟨fun _ => ?_, fun h => by cases h⟩
            have s60 : ρ (.tmp 60) = .pointer (some ⟨g5, 3, none⟩) := hdep ⟨7, .data⟩ (by simp) rfl 60 rfl
            have dA := cell_later hbw dA
            have dB := cell_later hbw dB
            have dC := cell_later hbw dC
            clear ht hdep hgl
            go_simp
            exact ⟨Below.refl _ _, rfl⟩
          · intro ρ w' hbw ht hcs hfn hgl hdep
            refine ⟨fun _ => ?_, fun h => by cases h⟩
            have s55 : ρ (.tmp 55) = .string fA := hdep ⟨2, .data⟩ (by simp) rfl 55 rfl
            have s58 : ρ (.tmp 58) = .string fB := hdep ⟨5, .data⟩ (by simp) rfl 58 rfl
            have s61 : ρ (.tmp 61) = .string fC := hdep ⟨8, .data⟩ (by simp) rfl 61 rfl
            clear ht hdep hgl
            go_simp
            exact ⟨below_alloc _ _, arr_block (E := eStr) (n := 3) [fA, fB, fC] #[.string fA, .string fB, .string fC] rfl rfl (by decide)⟩
          · intro ρ w' hbw ht hcs hfn hgl hdep
            refine ⟨fun _ => ?_, fun h => by cases h⟩
            have d62 := hdep ⟨9, .data⟩ (by simp) rfl 62 rfl
            clear ht hdep hgl
            go_simp
            exact (CL _ w' d62).mono fun e w'' ⟨u, he, ho, hb⟩ => ⟨_, he, hb, u, rfl, ho.mono hbw.size⟩
          · intro ρ w' hbw ht hcs hfn hgl hdep
            refine ⟨fun _ => ?_, fun h => by cases h⟩
            have d63 := hdep ⟨10, .data⟩ (by simp) rfl 63 rfl
            clear ht hdep hgl
            go_simp
            exact ⟨Below.refl _ _, d63⟩
          · intro ρ w' hbw ht hcs hfn hgl hdep
            refine ⟨fun _ => ?_, fun h => by cases h⟩
            have d52 := hdep ⟨11, .data⟩ (by simp) rfl 52 rfl
            clear ht hdep hgl
            obtain ⟨u, he, ho⟩ := d52
            go_simp
            exact ⟨Below.refl _ _, ho⟩
          · intro ρ w' hbw ht hcs hfn hgl hdep
            refine ⟨fun _ => ?_, fun h => by cases h⟩
            have d52 := hdep ⟨11, .data⟩ (by simp) rfl 52 rfl
            clear ht hdep hgl
            obtain ⟨u, he, ho⟩ := d52
            go_simp
            exact ⟨Below.refl _ _, rfl⟩
          · intro ρ w' hbw ht hcs hfn hgl hdep
            refine ⟨fun _ => ?_, fun h => by cases h⟩
            have d64 := hdep ⟨12, .data⟩ (by simp) rfl 64 rfl
            clear ht hdep hgl
            go_simp
            exact ⟨Below.refl _ _, d64⟩
          · intro ρ w' hbw ht hcs hfn hgl hdep
            refine ⟨fun _ => ?_, fun h => by cases h⟩
            have s65 : ρ (.tmp 65) = .bool f3 := hdep ⟨13, .data⟩ (by simp) rfl 65 rfl
            clear ht hdep hgl
            go_simp
            exact ⟨Below.refl _ _, rfl⟩
        intro xx w6 hb6 hx
        have hx14 := hx 14 (by simp)
        have hx15 : xx 15 = .bool f3 := hx 15 (by simp)
        clear hx
        simp only [putAll, Act.put, List.setIfInBounds_toArray, List.set_cons_succ, List.set_cons_zero, Nat.zero_add, Nat.reduceAdd, hx15]
        clear hx15
        replace hx14 : Own eI 2 w5.heap.size w6 (xx 14) NV := hx14
        obtain ⟨gn, capn, hvn, hgn, e0⟩ := own_i64 hx14 HN0.out
        obtain ⟨gn', capn', hvm, _, e1⟩ := own_i64 hx14 HN1.out
        rw [hvn] at hvm
        simp only [Value.slice.injEq, Option.some.injEq, Addr.mk.injEq, and_true] at hvm
        obtain ⟨rfl, hx7, rfl⟩ := hvm
        obtain ⟨gn', capn', hvm, _, e2⟩ := own_i64 hx14 HN2.out
        rw [hvn] at hvm
        simp only [Value.slice.injEq, Option.some.injEq, Addr.mk.injEq, and_true] at hvm
        obtain ⟨rfl, hx8, rfl⟩ := hvm
        clear hx7 hx8 hx14
        generalize xx 9 = k9 at *
        generalize xx 10 = k10 at *
        generalize xx 11 = k11 at *
        generalize xx 12 = k12 at *
        generalize xx 14 = k14 at *
        subst hvn
        have hb56 := hb5.trans (hb6.mono hs5)
        have hbx6 := HBX.out.later hb56
        have hoE6 := HOE.out.below hb56
        have hbl6 := HBL.out.trans (hb56.mono (Nat.le_of_lt hrq))
        have dL6 := cell_later hb6 dL
        have a16 := hbx6.cell (j := 1) rfl
        have hlt6 := hbx6.lt
        have HBX6 := hid hbx6
        have HO6 := hid hoE6
        have HBL6 := hid hbl6
        have HNX : Hid (if f3 = true then True ∧ mapO lineG (P.take (k + 1)) = some (X ++ [⟨na, nbb, fL, nc⟩]) else latV h P = none) := hid (by
          have h1 := HLN.out
          cases f3
          · rw [if_neg (by decide)] at h1 ⊢
            exact latV_line (List.mem_of_getElem? HPK.out) h1
          · exact ⟨trivial, mapO_take HM'.out HPK.out h1⟩)
        clear hbx6 hoE6 hbl6 CS CL dA dB dC dL a0 a1
        go_upto_region 14 with fail
        refine wp_region_stg 16 18 (fun c w' => match c with | 0 => Below w6.heap.size w6 w' | 1 => (Box w' q #[.int .i64 nv, .slice oa X.length oc] 24 ∧ Below q w6 w') | _ => FinL q w4 nv (X ++ [(⟨na, nbb, fL, nc⟩ : DEdge)]) w') (fun c i v w' => match i with
              | 0 => v = .pointer (some ⟨q, 1, none⟩)
              | 1 => v = .slice oa X.length oc
              | 2 => v = .slice (some ⟨gn, 0, none⟩) NV.length capn
              | 3 => v = .pointer (some ⟨gn, 0, none⟩)
              | 4 => v = .int .i64 na
              | 5 => v = .slice (some ⟨gn, 0, none⟩) NV.length capn
              | 6 => v = .pointer (some ⟨gn, 1, none⟩)
              | 7 => v = .int .i64 nbb
              | 8 => v = .slice (some ⟨g5, 0, none⟩) Q.length cap5
              | 9 => v = .pointer (some ⟨g5, 2, none⟩)
              | 10 => v = .string fL
              | 11 => v = .slice (some ⟨gn, 0, none⟩) NV.length capn
              | 12 => v = .pointer (some ⟨gn, 2, none⟩)
              | 13 => v = .int .i64 nc
              | 14 => v = .agg #[.int .i64 na, .int .i64 nbb, .string fL, .int .i64 nc]
              | 15 => (match c with | 0 => (Arr eEdge w' v [(⟨na, nbb, fL, nc⟩ : DEdge)]) | 1 => True | _ => True)
              | 16 => (match c with | 0 => True | 1 => (Own eEdge 46 (q + 1) w' v (X ++ [(⟨na, nbb, fL, nc⟩ : DEdge)])) | _ => True)
              | 17 => v = .pointer (some ⟨q, 1, none⟩)
              | 18 => (match c with | 0 => True | 1 => True | _ => True)
              | _ => True) (by kernel_rfl) (by kernel_rfl) (by kernel_rfl) (by kernel_rfl) (by kernel_rfl) ?_ ?_ ?_ ?_ ?_ ?_ (by decide) ?_
        · exact (Below.refl _ w6).drew
        · intro c w w' h hb
          match c, h with
          | 0, h => exact Below.trans (B := w6.heap.size) h (hb.mono (Below.size h))
          | 1, h => exact ⟨h.1.later hb, h.2.trans (hb.mono (Nat.le_of_lt h.1.lt))⟩
          | (k + 2), h => exact (FinL.below h hb)
        · intro c i v w w' h hb
          match i, h with
          | 0, h => exact h
          | 1, h => exact h
          | 2, h => exact h
          | 3, h => exact h
          | 4, h => exact h
          | 5, h => exact h
          | 6, h => exact h
          | 7, h => exact h
          | 8, h => exact h
          | 9, h => exact h
          | 10, h => exact h
          | 11, h => exact h
          | 12, h => exact h
          | 13, h => exact h
          | 14, h => exact h
          | 15, h =>
            match c, h with
            | 0, h => exact h.below hb
            | 1, h => exact trivial
            | (k + 2), h => exact trivial
          | 16, h =>
            match c, h with
            | 0, h => exact trivial
            | 1, h => exact h.below hb
            | (k + 2), h => exact trivial
          | 17, h => exact h
          | 18, h =>
            match c, h with
            | 0, h => exact trivial
            | 1, h => exact trivial
            | (k + 2), h => exact trivial
          | (k + 19), h => exact h
        · refine ⟨?_, ?_, ?_, ?_, ?_, ?_, ?_, ?_, ?_, ?_, ?_, ?_, ?_, ?_, ?_, ?_, ?_, ?_, ?_, trivial⟩
          · refine .inr (.inr ⟨fun _ => ?_, can_no (by kernel_rfl), can_no (by kernel_rfl)⟩)
            · intro ρ w' hbw ht hcs hfn hgl hdep G hG
              replace hbw : Below w6.heap.size w6 w' := hbw
              refine ⟨fun _ => ?_, fun h => by cases h⟩
              have s7 : ρ (.tmp 7) = .pointer (some ⟨q, 0, none⟩) := ht 7 rfl
              clear ht hdep hgl
              go_simp
              exact hG _ _ (Below.refl _ _) rfl
          · refine .inr (.inr ⟨fun _ => ?_, can_no (by kernel_rfl), can_no (by kernel_rfl)⟩)
            · intro ρ w' hbw ht hcs hfn hgl hdep G hG
              replace hbw : Below w6.heap.size w6 w' := hbw
              refine ⟨fun _ => ?_, fun h => by cases h⟩
              have s67 : ρ (.tmp 67) = .pointer (some ⟨q, 1, none⟩) := hdep ⟨0, .data⟩ (by simp) rfl 67 rfl
              have a16 := cell_later hbw a16
              have e0 := cell_later hbw e0
              have e1 := cell_later hbw e1
              have e2 := cell_later hbw e2
              have dL6 := cell_later hbw dL6
              clear ht hdep hgl
              go_simp
              exact hG _ _ (Below.refl _ _) rfl
          · refine .inr (.inr ⟨fun _ => ?_, can_no (by kernel_rfl), can_no (by kernel_rfl)⟩)
            · intro ρ w' hbw ht hcs hfn hgl hdep G hG
              replace hbw : Below w6.heap.size w6 w' := hbw
              refine ⟨fun _ => ?_, fun h => by cases h⟩
              have s9 : ρ (.tmp 9) = .slice (some ⟨gn, 0, none⟩) NV.length capn := ht 9 rfl
              clear ht hdep hgl
              go_simp
              exact hG _ _ (Below.refl _ _) rfl
          · refine .inr (.inr ⟨fun _ => ?_, can_no (by kernel_rfl), can_no (by kernel_rfl)⟩)
            · intro ρ w' hbw ht hcs hfn hgl hdep G hG
              replace hbw : Below w6.heap.size w6 w' := hbw
              refine ⟨fun _ => ?_, fun h => by cases h⟩
              have s69 : ρ (.tmp 69) = .slice (some ⟨gn, 0, none⟩) NV.length capn := hdep ⟨2, .data⟩ (by simp) rfl 69 rfl
              clear ht hdep hgl
              go_simp
              exact hG _ _ (Below.refl _ _) rfl
          · refine .inr (.inr ⟨fun _ => ?_, can_no (by kernel_rfl), can_no (by kernel_rfl)⟩)
            · intro ρ w' hbw ht hcs hfn hgl hdep G hG
              replace hbw : Below w6.heap.size w6 w' := hbw
              refine ⟨fun _ => ?_, fun h => by cases h⟩
              have s70 : ρ (.tmp 70) = .pointer (some ⟨gn, 0, none⟩) := hdep ⟨3, .data⟩ (by simp) rfl 70 rfl
              have a16 := cell_later hbw a16
              have e0 := cell_later hbw e0
              have e1 := cell_later hbw e1
              have e2 := cell_later hbw e2
              have dL6 := cell_later hbw dL6
              clear ht hdep hgl
              go_simp
              exact hG _ _ (Below.refl _ _) rfl
          · refine .inr (.inr ⟨fun _ => ?_, can_no (by kernel_rfl), can_no (by kernel_rfl)⟩)
            · intro ρ w' hbw ht hcs hfn hgl hdep G hG
              replace hbw : Below w6.heap.size w6 w' := hbw
              refine ⟨fun _ => ?_, fun h => by cases h⟩
              have s9 : ρ (.tmp 9) = .slice (some ⟨gn, 0, none⟩) NV.length capn := ht 9 rfl
              clear ht hdep hgl
              go_simp
              exact hG _ _ (Below.refl _ _) rfl
          · refine .inr (.inr ⟨fun _ => ?_, can_no (by kernel_rfl), can_no (by kernel_rfl)⟩)
            · intro ρ w' hbw ht hcs hfn hgl hdep G hG
              replace hbw : Below w6.heap.size w6 w' := hbw
              refine ⟨fun _ => ?_, fun h => by cases h⟩
              have s72 : ρ (.tmp 72) = .slice (some ⟨gn, 0, none⟩) NV.length capn := hdep ⟨5, .data⟩ (by simp) rfl 72 rfl
              clear ht hdep hgl
              go_simp
              exact hG _ _ (Below.refl _ _) rfl
          · refine .inr (.inr ⟨fun _ => ?_, can_no (by kernel_rfl), can_no (by kernel_rfl)⟩)
            · intro ρ w' hbw ht hcs hfn hgl hdep G hG
              replace hbw : Below w6.heap.size w6 w' := hbw
              refine ⟨fun _ => ?_, fun h => by cases h⟩
              have s73 : ρ (.tmp 73) = .pointer (some ⟨gn, 1, none⟩) := hdep ⟨6, .data⟩ (by simp) rfl 73 rfl
              have a16 := cell_later hbw a16
              have e0 := cell_later hbw e0
              have e1 := cell_later hbw e1
              have e2 := cell_later hbw e2
              have dL6 := cell_later hbw dL6
              clear ht hdep hgl
              go_simp
              exact hG _ _ (Below.refl _ _) rfl
          · refine .inr (.inr ⟨fun _ => ?_, can_no (by kernel_rfl), can_no (by kernel_rfl)⟩)
            · intro ρ w' hbw ht hcs hfn hgl hdep G hG
              replace hbw : Below w6.heap.size w6 w' := hbw
              refine ⟨fun _ => ?_, fun h => by cases h⟩
              have s4 : ρ (.tmp 4) = .slice (some ⟨g5, 0, none⟩) Q.length cap5 := ht 4 rfl
              clear ht hdep hgl
              go_simp
              exact hG _ _ (Below.refl _ _) rfl
          · refine .inr (.inr ⟨fun _ => ?_, can_no (by kernel_rfl), can_no (by kernel_rfl)⟩)
            · intro ρ w' hbw ht hcs hfn hgl hdep G hG
              replace hbw : Below w6.heap.size w6 w' := hbw
              refine ⟨fun _ => ?_, fun h => by cases h⟩
              have s75 : ρ (.tmp 75) = .slice (some ⟨g5, 0, none⟩) Q.length cap5 := hdep ⟨8, .data⟩ (by simp) rfl 75 rfl
              clear ht hdep hgl
              go_simp
              exact hG _ _ (Below.refl _ _) rfl
          · refine .inr (.inr ⟨fun _ => ?_, can_no (by kernel_rfl), can_no (by kernel_rfl)⟩)
            · intro ρ w' hbw ht hcs hfn hgl hdep G hG
              replace hbw : Below w6.heap.size w6 w' := hbw
              refine ⟨fun _ => ?_, fun h => by cases h⟩
              have s76 : ρ (.tmp 76) = .pointer (some ⟨g5, 2, none⟩) := hdep ⟨9, .data⟩ (by simp) rfl 76 rfl
              have a16 := cell_later hbw a16
              have e0 := cell_later hbw e0
              have e1 := cell_later hbw e1
              have e2 := cell_later hbw e2
              have dL6 := cell_later hbw dL6
              clear ht hdep hgl
              go_simp
              exact hG _ _ (Below.refl _ _) rfl
          · refine .inr (.inr ⟨fun _ => ?_, can_no (by kernel_rfl), can_no (by kernel_rfl)⟩)
            · intro ρ w' hbw ht hcs hfn hgl hdep G hG
              replace hbw : Below w6.heap.size w6 w' := hbw
              refine ⟨fun _ => ?_, fun h => by cases h⟩
              have s9 : ρ (.tmp 9) = .slice (some ⟨gn, 0, none⟩) NV.length capn := ht 9 rfl
              clear ht hdep hgl
              go_simp
              exact hG _ _ (Below.refl _ _) rfl
          · refine .inr (.inr ⟨fun _ => ?_, can_no (by kernel_rfl), can_no (by kernel_rfl)⟩)
            · intro ρ w' hbw ht hcs hfn hgl hdep G hG
              replace hbw : Below w6.heap.size w6 w' := hbw
              refine ⟨fun _ => ?_, fun h => by cases h⟩
              have s78 : ρ (.tmp 78) = .slice (some ⟨gn, 0, none⟩) NV.length capn := hdep ⟨11, .data⟩ (by simp) rfl 78 rfl
              clear ht hdep hgl
              go_simp
              exact hG _ _ (Below.refl _ _) rfl
          · refine .inr (.inr ⟨fun _ => ?_, can_no (by kernel_rfl), can_no (by kernel_rfl)⟩)
            · intro ρ w' hbw ht hcs hfn hgl hdep G hG
              replace hbw : Below w6.heap.size w6 w' := hbw
              refine ⟨fun _ => ?_, fun h => by cases h⟩
              have s79 : ρ (.tmp 79) = .pointer (some ⟨gn, 2, none⟩) := hdep ⟨12, .data⟩ (by simp) rfl 79 rfl
              have a16 := cell_later hbw a16
              have e0 := cell_later hbw e0
              have e1 := cell_later hbw e1
              have e2 := cell_later hbw e2
              have dL6 := cell_later hbw dL6
              clear ht hdep hgl
              go_simp
              exact hG _ _ (Below.refl _ _) rfl
          · refine .inr (.inr ⟨fun _ => ?_, can_no (by kernel_rfl), can_no (by kernel_rfl)⟩)
            · intro ρ w' hbw ht hcs hfn hgl hdep G hG
              replace hbw : Below w6.heap.size w6 w' := hbw
              refine ⟨fun _ => ?_, fun h => by cases h⟩
              have s71 : ρ (.tmp 71) = .int .i64 na := hdep ⟨4, .data⟩ (by simp) rfl 71 rfl
              have s74 : ρ (.tmp 74) = .int .i64 nbb := hdep ⟨7, .data⟩ (by simp) rfl 74 rfl
              have s77 : ρ (.tmp 77) = .string fL := hdep ⟨10, .data⟩ (by simp) rfl 77 rfl
              have s80 : ρ (.tmp 80) = .int .i64 nc := hdep ⟨13, .data⟩ (by simp) rfl 80 rfl
              clear ht hdep hgl
              go_simp
              exact hG _ _ (Below.refl _ _) rfl
          · refine .inr (.inr ⟨fun _ => ?_, can_no (by kernel_rfl), can_no (by kernel_rfl)⟩)
            · intro ρ w' hbw ht hcs hfn hgl hdep G hG
              replace hbw : Below w6.heap.size w6 w' := hbw
              refine ⟨fun _ => ?_, fun h => by cases h⟩
              have s81 : ρ (.tmp 81) = .agg #[.int .i64 na, .int .i64 nbb, .string fL, .int .i64 nc] := hdep ⟨14, .data⟩ (by simp) rfl 81 rfl
              clear ht hdep hgl
              go_simp
              exact hG _ _ (below_alloc _ _) (arr_block1 (E := eEdge) (n := 1) [(⟨na, nbb, fL, nc⟩ : DEdge)] #[.int .i64 na, .int .i64 nbb, .string fL, .int .i64 nc] rfl rfl (by decide) (by simp))
          · exact .inl rfl
          · refine .inr (.inr ⟨fun _ => ?_, fun _ => ?_, can_no (by kernel_rfl)⟩)
            · intro ρ w' hbw ht hcs hfn hgl hdep G hG
              replace hbw : Below w6.heap.size w6 w' := hbw
              refine ⟨fun _ => ?_, fun h => by cases h⟩
              have s7 : ρ (.tmp 7) = .pointer (some ⟨q, 0, none⟩) := ht 7 rfl
              clear ht hdep hgl
              go_simp
              exact hG _ _ (Below.refl _ _) rfl
            · intro ρ w' hbw ht hcs hfn hgl hdep G hG
              replace hbw : (Box w' q #[.int .i64 nv, .slice oa X.length oc] 24 ∧ Below q w6 w') := hbw
              refine ⟨fun _ => ?_, fun h => by cases h⟩
              have s7 : ρ (.tmp 7) = .pointer (some ⟨q, 0, none⟩) := ht 7 rfl
              clear ht hdep hgl
              go_simp
              exact hG _ _ (Below.refl _ _) rfl
          · exact .inr (.inl rfl)
        · intro o ho
          obtain rfl := Option.some.inj ho
          intro ρ w' hbw ht hcs hfn hgl hdep G hG
          replace hbw : Below w6.heap.size w6 w' := hbw
          refine ⟨fun _ => ?_, fun h => by cases h⟩
          have s68 : ρ (.tmp 68) = .slice oa X.length oc := hdep ⟨1, .data⟩ (by simp) rfl 68 rfl
          have d82 := hdep ⟨15, .data⟩ (by simp) rfl 82 rfl
          clear ht hdep hgl
          refine upon_appO _ _ 22 (by rfl) (q + 1) 46 _ 40 infEdgR Tryz.underlying22 rfl _ X s68 (HO6.out.below hbw) [(⟨na, nbb, fL, nc⟩ : DEdge)] d82 (by unfold maxLen; simp <;> omega) (by simp <;> omega) (by have := hbw.size; omega) ?_
          intro v' wA hoA hgA hlA
          refine hG _ _ ⟨grownBoxX (HBX6.out.later hbw) hgA (by intro hh; have := (World.ownsRow.lt (HO6.out.below hbw) q hh).1; omega), (hbw.mono (Nat.le_of_lt hlt6)).grown hgA (by have := hbw.size; omega) (fun kk hh => by have := (World.ownsRow.lt (HO6.out.below hbw) kk hh).1; omega)⟩ hoA ?_
          intro j u hj hne h
          match j, h with
          | 0, h => exact h
          | 1, h => exact h
          | 2, h => exact h
          | 3, h => exact h
          | 4, h => exact h
          | 5, h => exact h
          | 6, h => exact h
          | 7, h => exact h
          | 8, h => exact h
          | 9, h => exact h
          | 10, h => exact h
          | 11, h => exact h
          | 12, h => exact h
          | 13, h => exact h
          | 14, h => exact h
          | 15, h => exact trivial
          | 16, h => exact absurd rfl hne
          | 17, h => exact h
          | 18, h => exact trivial
          | (k + 19), h => exact h
        · intro o ho
          obtain rfl := Option.some.inj ho
          intro ρ w' hbw ht hcs hfn hgl hdep G hG
          replace hbw : (Box w' q #[.int .i64 nv, .slice oa X.length oc] 24 ∧ Below q w6 w') := hbw
          refine ⟨fun _ => ?_, fun h => by cases h⟩
          have s84 : ρ (.tmp 84) = .pointer (some ⟨q, 1, none⟩) := hdep ⟨17, .data⟩ (by simp) rfl 84 rfl
          have d83 := hdep ⟨16, .data⟩ (by simp) rfl 83 rfl
          clear ht hdep hgl
          have h83 : Own eEdge 46 (q + 1) w' (ρ (.tmp 83)) (X ++ [(⟨na, nbb, fL, nc⟩ : DEdge)]) := d83
          obtain ⟨ua, uc, hu⟩ := h83.isSlice
          rw [show (X ++ [(⟨na, nbb, fL, nc⟩ : DEdge)]).length = X.length + 1 by simp] at hu
          rw [hu] at h83
          have f0 := hbw.1.cell (j := 1) rfl
          have ff := hbw.1.free
          have hx := hid (show FinL q w4 nv (X ++ [(⟨na, nbb, fL, nc⟩ : DEdge)]) (w'.setCell ⟨q, 1, none⟩ (.slice ua (X.length + 1) uc)) from ⟨_, hbw.1.set 1 _, h83.setBelow (Nat.lt_succ_self q) _, (HBL6.out.trans hbw.2).setCell (Nat.le_refl _) _⟩)
          clear h83
          go_simp
          refine hG _ _ hx.out trivial ?_
          intro j u hj hne h
          match j, h with
          | 0, h => exact h
          | 1, h => exact h
          | 2, h => exact h
          | 3, h => exact h
          | 4, h => exact h
          | 5, h => exact h
          | 6, h => exact h
          | 7, h => exact h
          | 8, h => exact h
          | 9, h => exact h
          | 10, h => exact h
          | 11, h => exact h
          | 12, h => exact h
          | 13, h => exact h
          | 14, h => exact h
          | 15, h => exact trivial
          | 16, h => exact trivial
          | 17, h => exact h
          | 18, h => exact trivial
          | (k + 19), h => exact h
        intro xx w8 hF hx
        clear hx
        simp only [putAll, Act.put, List.setIfInBounds_toArray, List.set_cons_succ, List.set_cons_zero, Nat.zero_add, Nat.reduceAdd]
        go_wp2_with fail
        go_roundw
        case rel => exact ⟨k + 1, X ++ [⟨na, nbb, fL, nc⟩], f3, by omega, by go_num, rfl, hF, HNX, by simp; omega⟩
        case measure => simp [intOf]; omega
      · obtain rfl : k = P.length := by omega
        have hli : ¬ ((P.length : Int) + 1 < (P.length : Int) + 1) := by omega
        have hM : mapO lineG P = some X := by have := HM'.out; rw [List.take_length] at this; exact this
        have hLV := latV_is HHN.out hM
        have gX : goodLattice (nv, X) := by rw [← (mapO_candG hM).1]; exact goodCandG fun p hp => HS.out p (List.mem_cons_of_mem _ hp)
        have okX : okLattice (nv, X) := by show X.length ≤ 1048576; omega
        obtain ⟨vb, hvb⟩ : ∃ b, b = validLt (nv, X) := ⟨_, rfl⟩
        have HZ := hid (show ∀ c, c = vb → latV h P = if c = true then some (nv, X) else none from fun c hc => by rw [hc, hvb]; exact hLV)
        have CV : ∀ w', Below wr.heap.size wr w' → Calls Tryz.prog 36 #[.pointer (some ⟨q, 0, none⟩)] w' (fun e w'' => e = .returned (.bool vb) ∧ Below wr.heap.size wr w'') := fun w' hb => by
          rw [hvb]
          exact (l15Ok_any q nv _ X w' (cell_later hb a0) (cell_later hb a1) (hoE.arr.below hb) okX gX).mono fun e w'' ⟨he, hb2⟩ => ⟨he, hb.trans (hb2.mono hb.size)⟩
        clear hM hLV hvb
        cases vb
        · go_upto_region 15 with fail
          go_region_with (go_at_call 36; refine (CV _ (Below.refl _ _).drew).mono ?_; rintro en w7 ⟨rfl, hb7⟩; have z0 := cell_later hb7 a0; have z1 := cell_later hb7 a1; have bx7 := bxr.later hb7; have b0 := bx7.cell (j := 0) rfl; have b1 := bx7.cell (j := 1) rfl; have bf := bx7.free)
          all_goals
            have ho7 := hoE.below hb7
            go_wp2_with fail
            refine bodyPost_ret (v := .tuple #[.agg #[.int .i64 nv, .slice oa X.length oc], .bool false]) (by simp [results, Tryz.results16, go_sem, b0, b1]) rfl (finish _ _ _ _ _ (hid (HZ.out false rfl)) (((ho7.setBelow (a := ⟨p1, 0, none⟩) (by show p1 < q + 1; omega) _).setBelow (a := ⟨p1, 1, none⟩) (by show p1 < q + 1; omega) _).mono (by omega)) ?_)
            exact ((hbr.trans (hb7.mono hbr.size)).setCell hge1 _).setCell hge1 _
        · go_upto_region 15 with fail
          go_region_with (go_at_call 36; refine (CV _ (Below.refl _ _).drew).mono ?_; rintro en w7 ⟨rfl, hb7⟩; have z0 := cell_later hb7 a0; have z1 := cell_later hb7 a1; have bx7 := bxr.later hb7; have b0 := bx7.cell (j := 0) rfl; have b1 := bx7.cell (j := 1) rfl; have bf := bx7.free)
          all_goals
            have ho7 := hoE.below hb7
            go_wp2_with fail
            refine bodyPost_ret (v := .tuple #[.agg #[.int .i64 nv, .slice oa X.length oc], .bool true]) (by simp [results, Tryz.results16, go_sem, b0, b1]) rfl (finish _ _ _ _ _ (hid (HZ.out true rfl)) (((ho7.setBelow (a := ⟨p1, 0, none⟩) (by show p1 < q + 1; omega) _).setBelow (a := ⟨p1, 1, none⟩) (by show p1 < q + 1; omega) _).mono (by omega)) ?_)
            exact ((hbr.trans (hb7.mono hbr.size)).setCell hge1 _).setCell hge1 _
end Go.Proofs.YtbgjojnjbplblaaGreatDoor
