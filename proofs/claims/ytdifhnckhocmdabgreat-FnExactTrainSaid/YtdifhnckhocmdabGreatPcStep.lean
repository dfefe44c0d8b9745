/- spec.l12Step: one step of the training, on a copy. -/
import Derived.Test.YtdifhnckhocmdabGreatPcMisP
import Derived.Test.YtdifhnckhocmdabGreatPcCopy
import Derived.Test.YtdifhnckhocmdabGreatPcGrow
import Derived.Test.YtdifhnckhocmdabGreatPcTrain
import Derived.Test.YtdifhnckhocmdabGreatPcTr2
import Derived.Deep.Cut
import Derived.Deep.DrawnRows
import Derived.StillTailTactics
import Derived.IntWalk
namespace Go.Proofs.YtdifhnckhocmdabGreat
open Go.RowKit

theorem pcpOwn {lo q0 hi : Nat} {v1 v2 : Value} {vs : List SV} {x1 : XStringS} {Y : XInt64SS} {w' : World} (hL : OwnIn eStr 9 lo q0 w' v1 x1) (hst : NestSt eI 2 40 q0 hi v2 vs Y w') (hq : lo ≤ q0) (hq2 : q0 ≤ w'.heap.size) (hhi : hi ≤ w'.heap.size) :
    rPerceptron.own lo w'.heap.size w' (.agg #[v1, v2]) (x1, Y) := ⟨_, _, rfl, hL.mono (Nat.le_refl _) hq2, rInt64SS.own_mono hst.own hq hhi⟩
theorem nilOwn (lo : Nat) (w' : World) : rPerceptron.own lo w'.heap.size w' (.agg #[.slice none 0 0, .slice none 0 0]) ([], []) := ⟨_, _, rfl, ((Own.nil _ _ lo).in_), (NestSt.emp _).own⟩
theorem NestSt.drew' {lo hi : Nat} {u : Value} {vs : List SV} {Y : XInt64SS} {w : World} (h : NestSt eI 2 40 lo hi u vs Y w) : NestSt eI 2 40 lo hi u vs Y w.drew := h.below (Below.refl _ w).drew
theorem Box.chg {a b : Nat} {w w' : World} {q : Nat} {cs : Array Value} {T : TypeId} (h : Box w q cs T) (hc : Chg a b w w') (hd : q < a ∨ b ≤ q) : Box w' q cs T := (hc.block q h.lt hd).trans h
set_option maxRecDepth 100000 in
set_option maxHeartbeats 8000000 in
theorem l12Step_any (u1 u2 : Value) (x1 : XStringS) (x2 : XInt64SS) (s : XSample) (ps os : Nat) (sa : Option Addr) (sc : Nat) (w : World) (h1 : Arr eStr w u1 x1) (h2 : RowsI w u2 x2) (c0 : w.cell? ⟨ps, os, none⟩ = some (.string s.1)) (c1 : w.cell? ⟨ps, os + 1, none⟩ = some (.slice sa s.2.length sc)) (hA : Arr eFeat w (.slice sa s.2.length sc) s.2)
    (hp : pcOk (x1, x2) = true) (hs : smpOk s = true) (hkn : known (x1, x2) s = true) (g : goodStringS x1) :
    Calls Tryz.prog 49 #[.agg #[u1, u2], .pointer (some ⟨ps, os, none⟩)] w (RetNew rPerceptron (stX (x1, x2) s) #[.bool (stB (x1, x2) s), .int .i64 (stC (x1, x2) s)] w) := by
  have HP : Hid ((∀ r ∈ x2, rowOk r = true) ∧ x2.length = x1.length ∧ 1 ≤ x1.length ∧ x1.length ≤ 12) := hid (pcOk_rows hp)
  have hf := smpOk_feats hs
  obtain ⟨W, hW⟩ : ∃ u, u = ((w.alloc (.cells #[u1, u2] 29)).alloc (.cells #[.slice none 0 0, .slice none 0 0] 29)) := ⟨_, rfl⟩
  have hbW : Below w.heap.size w W := by rw [hW]; exact belowA2 _ _ _
  have q1 : Box W (w.heap.size) #[u1, u2] 29 := by
    have hq := Box.new w #[u1, u2] 29
    rw [hW]
    exact (hq.alloc _)
  have q2 : Box W (w.heap.size + 1) #[.slice none 0 0, .slice none 0 0] 29 := by
    have hq := Box.new (w.alloc (.cells #[u1, u2] 29)) #[.slice none 0 0, .slice none 0 0] 29
    simp at hq
    rw [hW]
    exact hq
  obtain ⟨p1, hp1⟩ : ∃ p, p = w.heap.size := ⟨_, rfl⟩
  rw [← hp1] at q1
  have hge1 : w.heap.size ≤ p1 := by omega
  obtain ⟨p2, hp2⟩ : ∃ p, p = w.heap.size + 1 := ⟨_, rfl⟩
  rw [← hp2] at q2
  have hge2 : w.heap.size ≤ p2 := by omega
  have hlW : w.heap.size ≤ W.heap.size := hbW.size
  have hlp1 : p1 < W.heap.size := q1.lt
  have hlp2 : p2 < W.heap.size := q2.lt
  have hne12 : p1 ≠ p2 := by omega
  have HP1 := hid hp1
  have HP2 := hid hp2
  have HW := hid hW
  clear hW hp1 hp2
  have h1W := h1.below hbW
  have h2W := h2.below hbW
  have m10 := q1.cell (j := 0) rfl
  have m11 := q1.cell (j := 1) rfl
  have d0W := cell_later hbW c0
  have d1W := cell_later hbW c1
  have CIN := l12Input_any _ s.2 W (hA.below hbW) hf
  obtain ⟨X, hX⟩ : ∃ X, X = inpF s.2 := ⟨_, rfl⟩
  have hXo : okInp X := by rw [hX]; exact okInp_of hf
  rw [← hX] at CIN
  obtain ⟨S, hS⟩ : ∃ S, S = scoresF x2 X := ⟨_, rfl⟩
  have hS1 : 1 ≤ S.length := by rw [hS, scoresF_len]; have := HP.out.2; omega
  have hS12 : S.length ≤ 12 := by rw [hS, scoresF_len]; have := HP.out.2; omega
  obtain ⟨B, hB⟩ : ∃ B, B = bestI S := ⟨_, rfl⟩
  have hI : clsI (x1, x2) s.2 = B := by rw [hB, hS, hX]; rfl
  have hBl : B < x2.length := by have := bestI_lt hS1; rw [← hB, hS, scoresF_len] at this; exact this
  obtain ⟨a, ha⟩ : ∃ a, labIx x1 s.1 = some a := Option.isSome_iff_exists.1 hkn
  have hal : a < x2.length := by rw [HP.out.2.1]; exact (List.findIdx?_eq_some_iff_getElem.1 ha).1
  have HHIT : Hid (hitB (x1, x2) s = ((B : Int) == (a : Int))) := hid (by
    unfold hitB; rw [hI, ha]
    by_cases e : a = B
    · subst e; simp
    · rw [beq_eq_false_iff_ne.2 (show some a ≠ some B from by simpa using e), beq_eq_false_iff_ne.2 (by omega)])
  have HST : Hid (hitB (x1, x2) s = false → stepX (x1, x2) s = (x1, rowsTo x2 X a B 25)) := hid (fun h => by unfold stepX; rw [if_neg (by rw [h]; exact Bool.false_ne_true)]; simp only [rightI, hI, ha, hX, Option.getD_some])
  have HSS : Hid (hitB (x1, x2) s = true → stepX (x1, x2) s = (x1, x2)) := hid (fun h => by unfold stepX; rw [if_pos h])
  have hxl : x1.length ≤ 1048576 := by have := HP.out.2; omega
  have CF := fun w' m0 hA' => l12Find_any p1 u1 x1 s.1 w' m0 hA' hxl
  rw [ha, show posOf (some a) = (a : Int) from rfl] at CF
  have HX := hid hX
  have HS := hid hS
  have HB := hid hB
  clear hX hS hB hI
  go_enter Tryz.func49, Tryz.ntmps49
  go_upto_region 1 with fail
  rw [← HP2.out, ← HP1.out, ← HW.out]
  go_wp2_with fail
  refine CIN.mono ?_
  rintro e w2 ⟨ui, rfl, hoi, hb2⟩
  have hAI := rInt64S_arr (rInt64S.own_at hoi)
  obtain ⟨gI, capI, hgI0, hgI1, hcI⟩ : ∃ gI capI, ui = .slice (some ⟨gI, 0, none⟩) X.length capI ∧ W.heap.size ≤ gI ∧ ∀ (k : Nat) (c : Int), X[k]? = some c → w2.cell? ⟨gI, k, none⟩ = some (.int .i64 c) := by
    have hoi1 := hoi.1
    rcases hoi1.shape with ⟨_, e⟩ | ⟨g, cap, hv, h5, _⟩
    · have := hXo.1; rw [e] at this; simp at this
    · subst hv
      exact ⟨g, cap, rfl, h5, fun k c hc => ownE_get hoi1 hc⟩
  have hgI2 : gI < w2.heap.size := by
    have := hcI 0 (X[0]'(by rw [hXo.1]; decide)) (List.getElem?_eq_getElem _)
    exact cell_lt this
  obtain ⟨ai, hai⟩ : ∃ ai : Option Addr, ai = some ⟨gI, 0, none⟩ := ⟨_, rfl⟩
  obtain ⟨ci, hci⟩ : ∃ ci, ci = capI := ⟨_, rfl⟩
  have hui : ui = .slice ai X.length ci := by rw [hai, hci]; exact hgI0
  have HAI := hid hai
  clear hgI0 hai hci
  rw [hXo.1] at hui
  subst hui
  have n10 := cell_later hb2 m10
  have n11 := cell_later hb2 m11
  have n20 := cell_later hb2 d0W
  have n21 := cell_later hb2 d1W
  have hbs2 := hb2.size
  have h12 := h1W.below hb2
  have h22 := h2W.below hb2
  go_wp2_with fail
  refine (CF w2 n10 h12).mono ?_
  rintro e w2' ⟨rfl, rfl⟩
  go_wp2_with fail
  refine (l12Scores_any p1 u2 (.slice ai 25 ci) x2 X w2 n11 h22 hAI hXo HP.out.1 (by have := HP.out.2; omega)).mono ?_
  rw [← HS.out]
  rintro e w3 ⟨us, rfl, hos, hb3⟩
  go_wp2_with fail
  refine (l12Best_any us S w3 (rInt64S_arr (rInt64S.own_at hos)) hS1 (by omega)).mono ?_
  rw [← HB.out]
  rintro e w4 ⟨rfl, hb4⟩
  have hb34 := hb3.trans (hb4.mono hb3.size)
  have hs34 := hb34.size
  go_wp2_with fail
  refine (l12Own_any p1 u1 u2 x1 x2 w4 (cell_later hb34 n10) (cell_later hb34 n11) (h12.below hb34) (h22.below hb34) (by have := HP.out.2; omega) (by have := HP.out.2; omega) (fun r hr => by have := rowOk_len (HP.out.1 r hr); omega)).mono ?_
  rintro e w5 ⟨v1, v2, vs, q0, rfl, hq0, hoL, hst, hb5⟩
  obtain ⟨la, lc, hv1⟩ := hoL.1.isSlice
  subst hv1
  have hb25 := hb34.trans (hb5.mono hs34)
  have hbE5 : Below w.heap.size w w5 := hbW.trans ((hb2.trans (hb25.mono hbs2)).mono hlW)
  have hs5 := hb5.size
  have hq5 : q0 ≤ w5.heap.size := by
    obtain ⟨go, capO, _, h3, h4, _⟩ := nestSt_head hst (by omega)
    omega
  obtain ⟨q, hq⟩ : ∃ q, q = w5.heap.size := ⟨_, rfl⟩
  have bx2 : Box w5 p2 #[.slice none 0 0, .slice none 0 0] 29 := (q2.later hb2).later hb25
  have hcI5 := fun (k : Nat) (c : Int) (h : X[k]? = some c) => cell_later hb25 (hcI k c h)
  clear CIN CF hcI h12 h22 hAI hos hoi n10 n11 n20 n21 m10 m11 d0W d1W hb3 hb4 hb5
  rw [← hq] at hst
  obtain ⟨go, capO, hu2, hgo0, hgo1, HDC⟩ := nestSt_head hst (by omega)
  subst hu2
  have hwq0 : w.heap.size ≤ q0 := by omega
  cases hit : ((B : Int) == (a : Int))
  · have hab : a ≠ B := by
      intro e
      rw [e] at hit
      simp at hit
    have HH := hid (HHIT.out.trans hit)
    have HSX := hid (HST.out HH.out)
    go_wp2_with fail
    rw [← hq]
    obtain ⟨w6, hw6⟩ : ∃ w6, w6 = w5.alloc (.cells #[.slice la x1.length lc, .slice (some ⟨go, 0, none⟩) x2.length capO] 29) := ⟨_, rfl⟩
    rw [← hw6]
    have hbx : Box w6 q #[.slice la x1.length lc, .slice (some ⟨go, 0, none⟩) x2.length capO] 29 := by rw [hw6, hq]; exact Box.new _ _ _
    have bx6 : Box w6 p2 #[.slice none 0 0, .slice none 0 0] 29 := by rw [hw6]; exact bx2.alloc _
    have hst6 : NestSt eI 2 40 q0 q (.slice (some ⟨go, 0, none⟩) x2.length capO) vs x2 w6 := by rw [hw6]; exact hst.below (below_alloc _ _)
    have oL6 : OwnIn eStr 9 W.heap.size q0 w6 (.slice la x1.length lc) x1 := by rw [hw6]; exact (hoL.chg (Chg.of_below (a := 0) (b := 0) (below_alloc _ _)) (.inl (Nat.zero_le _))).mono (by omega) (Nat.le_refl _)
    have hbw6 : Below w.heap.size w w6 := by rw [hw6]; exact hbE5.trans ((below_alloc _ _).mono (by omega))
    have hcI6 : ∀ (k : Nat) (c : Int), X[k]? = some c → w6.cell? ⟨gI, k, none⟩ = some (.int .i64 c) := fun k c h => by rw [hw6]; exact cell_alloc (hcI5 k c h) _
    have b10 := hbx.cell (j := 0) rfl
    have b11 := hbx.cell (j := 1) rfl
    have hlt6 := hbx.lt
    have HCI := hid hcI6
    have HDR := hid HDC
    have HBX := hid hbx
    have HB6 := hid bx6
    have HQ := hid hq
    have HOL := hid oL6
    have HBW := hid hbw6
    rw [HAI.out]
    clear hcI5 hcI6 HDC hw6 hq bx2 hoL hst hbx bx6 oL6 hbw6 hbE5 q1 q2
    obtain ⟨ra, hra⟩ : ∃ ra, ra = x2.getD a [] := ⟨_, rfl⟩
    obtain ⟨rb, hrb⟩ : ∃ rb, rb = x2.getD B [] := ⟨_, rfl⟩
    have hra2 : x2[a]? = some ra := by rw [hra, List.getD, List.getElem?_eq_getElem hal, Option.getD_some]
    have hrb2 : x2[B]? = some rb := by rw [hrb, List.getD, List.getElem?_eq_getElem hBl, Option.getD_some]
    have hao := HP.out.1 ra (List.mem_of_getElem? hra2)
    have hbo := HP.out.1 rb (List.mem_of_getElem? hrb2)
    have HRA := hid hra
    have HRB := hid hrb
    have HAO := hid hao
    have HBO := hid hbo
    have HXO := hid hXo
    have HPO := hid (show p1 ≠ go ∧ gI ≠ go from ⟨by omega, by omega⟩)
    have hli : (a : Int) < (x2.length : Int) := by omega
    have hlb : (B : Int) < (x2.length : Int) := by omega
    clear hra hrb hra2 hrb2 hao hbo hXo
    go_loopw [11] (fun i wr => ∃ k : Nat, k ≤ 25 ∧ i = .int .i64 k ∧ NestSt eI 2 40 q0 q (.slice (some ⟨go, 0, none⟩) x2.length capO) vs (rowsTo x2 X a B k) wr ∧ Mk tyW q0 q w6 wr) (fun i _ => 25 - (intOf i).toNat)
    case atStart => exact ⟨0, Nat.zero_le _, rfl, by rw [rowsTo_zero X hal hBl]; exact hst6, Mk.refl _ _ _ _⟩
    case round =>
      clear hst6
      obtain ⟨k, hk, rfl, hst, hmk⟩ := hrel
      have hc := hmk.1
      have r11 := chg_cell hc b11 (by first | (left; omega) | (right; omega))
      by_cases hlt : k < 25
      · have hlti : (k : Int) < 25 := by omega
        have hla := rowOk_len HAO.out
        have hlbl := rowOk_len HBO.out
        obtain ⟨xk, hxk⟩ : ∃ c, X[k]? = some c := ⟨_, List.getElem?_eq_getElem (by rw [HXO.out.1]; exact hlt)⟩
        obtain ⟨ca, hca⟩ : ∃ c, ra[k]? = some c := ⟨_, List.getElem?_eq_getElem (by omega)⟩
        obtain ⟨cb, hcb⟩ : ∃ c, rb[k]? = some c := ⟨_, List.getElem?_eq_getElem (by omega)⟩
        have eX := chg_cell hc (HCI.out k xk hxk) (by first | (left; omega) | (right; omega))
        have bX := HXO.out.2 k
        have bA := rowOk_bd HAO.out k
        have bB := rowOk_bd HBO.out k
        rw [List.getD, hxk, Option.getD_some] at bX
        rw [List.getD, hca, Option.getD_some] at bA
        rw [List.getD, hcb, Option.getD_some] at bB
        have hA0 := rowsTo_a X k hal hab
        have hB0 := rowsTo_b (a := a) X k hBl
        rw [← HRA.out] at hA0
        rw [← HRB.out] at hB0
        have hAk := mixTo_get (addF ra X) hca
        have hBk := mixTo_get (subF rb X) hcb
        have hfa : addF ra X k = ca + xk := by simp [addF, hca, hxk]
        have hfb : subF rb X k = cb - xk := by simp [subF, hcb, hxk]
        obtain ⟨sA, gA, capA, hsA, hvA, hgA0, hgA1, hgA2, eA, fA, pA⟩ := hst.put hA0 hAk
        have dA := HDR.out wr _ a sA hst hsA
        rw [hvA, mixTo_len _ _ (by omega), hla] at dA
        have pA1 := pA (ca + xk)
        have HSTEP := hid (rowsTo_step (W := x2) X (a := a) (b := B) (k := k) hab (by rw [← HRA.out]; omega) (by rw [← HRB.out]; omega))
        rw [← HRA.out, ← HRB.out, hfa, hfb] at HSTEP
        have HA0 := hid hA0
        have HB0 := hid hB0
        have HBK := hid hBk
        have HMK := hid hmk
        have HMX := hid (mixTo_len (subF rb X) rb (k := k) (by omega))
        have HLB := hid hlbl
        clear hxk hca hcb hA0 hB0 hAk hBk hfa hfb pA hst hsA hvA hmk hc hla hlbl
        go_wp2
        have hwr : IntKind.i64.wrap (ca + xk) = ca + xk := IntWalk.i64_in _ (by omega)
        refine wp_region_still_tail 14 (by kernel_rfl) (by kernel_rfl) ?_
        simp only [List.take_succ_cons, List.take_zero, List.drop_succ_cons, List.drop_zero]
        repeat (first | still_step)
        refine wpStill_nil ?_
        change wpList _ _ _ _ _ (World.drew _)
        clear hwr
        go_wp2
        obtain ⟨w7, hw7⟩ : ∃ w7, w7 = (wr.setCell ⟨gA, k, none⟩ (.int .i64 (ca + xk))).drew := ⟨_, rfl⟩
        rw [← hw7]
        replace pA1 : NestSt eI 2 40 q0 q (.slice (some ⟨go, 0, none⟩) x2.length capO) vs ((rowsTo x2 X a B k).set a ((mixTo (addF ra X) ra k).set k (ca + xk))) w7 ∧ Mk tyW q0 q wr w7 := by
          rw [hw7]
          exact ⟨pA1.1.drew', pA1.2.trans (Mk.of_below (Below.refl _ _).drew)⟩
        have t11 : w7.cell? ⟨q, 1, none⟩ = some (.slice (some ⟨go, 0, none⟩) x2.length capO) := chg_cell pA1.2.1 r11 (by first | (left; omega) | (right; omega))
        have tX : w7.cell? ⟨gI, k, none⟩ = some (.int .i64 xk) := chg_cell pA1.2.1 eX (by first | (left; omega) | (right; omega))
        obtain ⟨sB, gB, capB, hsB, hvB, hgB0, hgB1, hgB2, eB, fB, pB⟩ := pA1.1.put (a := B) (by rw [List.getElem?_set_ne hab]; exact HB0.out) HBK.out
        have dB := HDR.out w7 _ B sB pA1.1 hsB
        rw [hvB, HMX.out, HLB.out] at dB
        have pB1 := pB (cb - xk)
        have HPB := hid pB1
        have HPA := hid pA1
        clear pB1 pB pA1 hsB hvB hw7 r11 dA eA fA eX
        have hwr : IntKind.i64.wrap (cb - xk) = cb - xk := IntWalk.i64_in _ (by omega)
        refine wp_region_still_tail 14 (by kernel_rfl) (by kernel_rfl) ?_
        simp only [List.take_succ_cons, List.take_zero, List.drop_succ_cons, List.drop_zero]
        repeat (first | still_step)
        refine wpStill_nil ?_
        change wpList _ _ _ _ _ (World.drew _)
        clear hwr
        go_wp2
        go_roundw
        case rel =>
          have h7 := HPB.out.1.drew'
          rw [HSTEP.out] at h7
          exact ⟨k + 1, by omega, by go_num, h7, ((HMK.out.trans HPA.out.2).trans HPB.out.2).trans (Mk.of_below (Below.refl _ _).drew)⟩
        case measure => simp [intOf]; omega
      · obtain rfl : k = 25 := by omega
        have t10 := chg_cell hc b10 (by first | (left; omega) | (right; omega))
        have bx7 : Box wr p2 #[.slice none 0 0, .slice none 0 0] 29 := HB6.out.chg hc (by first | (left; omega) | (right; omega))
        have oL7 := HOL.out.chg hc (.inr (Nat.le_refl _))
        have hbw7 : Below w.heap.size w wr := below_chg HBW.out hc hwq0
        have hs7 := hc.size
        obtain ⟨Y, hY⟩ : ∃ Y, Y = rowsTo x2 X a B 25 := ⟨_, rfl⟩
        rw [← hY] at hst
        have hYl : Y.length = x2.length := by rw [hY]; exact rowsTo_len _ _ _ _ _
        have hY25 : ∀ r ∈ Y, r.length = 25 := by rw [hY]; exact rowsTo_25 X hal hBl (fun r hr => rowOk_len (HP.out.1 r hr))
        have HYS : Hid (stepX (x1, x2) s = (x1, Y)) := hid (by rw [HSX.out, hY])
        have CO := l12Ok_any q (.slice la x1.length lc) (.slice (some ⟨go, 0, none⟩) x2.length capO) x1 Y wr t10 r11 oL7.1.arr (nestSt_rows hst) hxl (okRows25 hY25 (by rw [hYl]; have := HP.out.2; omega)) g
        clear hY hY25
        cases hpc : pcOk (x1, Y)
        · rw [hpc] at CO
          have HG : Hid (stX (x1, x2) s = ([], []) ∧ stB (x1, x2) s = false ∧ stC (x1, x2) s = 5) := hid (by unfold stX stB stC; rw [HYS.out, hpc]; exact ⟨rfl, rfl, rfl⟩)
          go_wp2_with fail
          refine CO.mono ?_
          rintro e w8 ⟨rfl, hb8⟩
          have bx8 := bx7.later hb8
          have f0 := bx8.cell (j := 0) rfl
          have f1 := bx8.cell (j := 1) rfl
          have ff := bx8.free
          have hbE := hbw7.trans (hb8.mono hbw7.size)
          go_wp2_with fail
          refine bodyPost_ret (v := .tuple #[.agg #[.slice none 0 0, .slice none 0 0], .bool false, .int .i64 5]) (by simp [results, Tryz.results49, go_sem, f0, f1]) rfl ⟨.agg #[.slice none 0 0, .slice none 0 0], by rw [HG.out.2.1, HG.out.2.2]; rfl, ?_, ?_⟩
          · rw [HG.out.1]
            exact nilOwn _ _
          · exact (hbE.setCell hge2 _).setCell hge2 _
        · rw [hpc] at CO
          have HG : Hid (stX (x1, x2) s = (x1, Y) ∧ stB (x1, x2) s = true ∧ stC (x1, x2) s = 0) := hid (by unfold stX stB stC; rw [HYS.out, hpc, HH.out]; exact ⟨rfl, rfl, rfl⟩)
          go_wp2_with fail
          refine CO.mono ?_
          rintro e w8 ⟨rfl, hb8⟩
          have bx8 := bx7.later hb8
          have f0 := bx8.cell (j := 0) rfl
          have f1 := bx8.cell (j := 1) rfl
          have ff := bx8.free
          have b0 := cell_later hb8 t10
          have b1 := cell_later hb8 r11
          have hbE := hbw7.trans (hb8.mono hbw7.size)
          have oL8 := oL7.chg (Chg.of_below (a := 0) (b := 0) hb8) (.inl (Nat.zero_le _))
          have hst8 := hst.below hb8
          have hs8 := hb8.size
          go_wp2_with fail
          refine bodyPost_ret (v := .tuple #[.agg #[.slice la x1.length lc, .slice (some ⟨go, 0, none⟩) x2.length capO], .bool true, .int .i64 0]) (by simp [results, Tryz.results49, go_sem, f0, f1]) rfl ⟨.agg #[.slice la x1.length lc, .slice (some ⟨go, 0, none⟩) x2.length capO], by rw [HG.out.2.1, HG.out.2.2]; rfl, ?_, ?_⟩
          · rw [HG.out.1]
            exact pcpOwn (((oL8.chg (chg_set w8 p2 0 _) (.inl (by omega))).chg (chg_set _ p2 1 _) (.inl (by omega))).mono hlW (Nat.le_refl _)) ((hst8.chg (chg_set w8 p2 0 (.slice la x1.length lc)) (.inl (by omega))).chg (chg_set _ p2 1 (.slice (some ⟨go, 0, none⟩) x2.length capO)) (.inl (by omega))) hwq0 (by simp; omega) (by simp; omega)
          · exact (hbE.setCell hge2 _).setCell hge2 _
  · have HH := hid (HHIT.out.trans hit)
    have HSX := hid (HSS.out HH.out)
    have HG : Hid (stX (x1, x2) s = (x1, x2) ∧ stB (x1, x2) s = false ∧ stC (x1, x2) s = 0) := hid (by unfold stX stB stC; rw [HSX.out, hp, HH.out]; exact ⟨rfl, rfl, rfl⟩)
    go_upto_region 5 with fail
    rw [← hq]
    obtain ⟨w6, hw6⟩ : ∃ w6, w6 = w5.alloc (.cells #[.slice la x1.length lc, .slice (some ⟨go, 0, none⟩) x2.length capO] 29) := ⟨_, rfl⟩
    rw [← hw6]
    have hbx : Box w6 q #[.slice la x1.length lc, .slice (some ⟨go, 0, none⟩) x2.length capO] 29 := by rw [hw6, hq]; exact Box.new _ _ _
    have bx6 : Box w6 p2 #[.slice none 0 0, .slice none 0 0] 29 := by rw [hw6]; exact bx2.alloc _
    have hst6 : NestSt eI 2 40 q0 q (.slice (some ⟨go, 0, none⟩) x2.length capO) vs x2 w6 := by rw [hw6]; exact hst.below (below_alloc _ _)
    have oL6 : OwnIn eStr 9 W.heap.size q0 w6 (.slice la x1.length lc) x1 := by rw [hw6]; exact (hoL.chg (Chg.of_below (a := 0) (b := 0) (below_alloc _ _)) (.inl (Nat.zero_le _))).mono (by omega) (Nat.le_refl _)
    have hbE : Below w.heap.size w w6 := by rw [hw6]; exact hbE5.trans ((below_alloc _ _).mono (by omega))
    have b0 := hbx.cell (j := 0) rfl
    have b1 := hbx.cell (j := 1) rfl
    have f0 := bx6.cell (j := 0) rfl
    have f1 := bx6.cell (j := 1) rfl
    have ff := bx6.free
    have hlt6 := hbx.lt
    clear hcI5 HDC hw6 hq bx2 hoL hst hbx bx6 hbE5 q1 q2
    go_wp2_with fail
    refine bodyPost_ret (v := .tuple #[.agg #[.slice la x1.length lc, .slice (some ⟨go, 0, none⟩) x2.length capO], .bool false, .int .i64 0]) (by simp [results, Tryz.results49, go_sem, f0, f1]) rfl ⟨.agg #[.slice la x1.length lc, .slice (some ⟨go, 0, none⟩) x2.length capO], by rw [HG.out.2.1, HG.out.2.2]; rfl, ?_, ?_⟩
    · rw [HG.out.1]
      exact pcpOwn (((oL6.chg (chg_set w6 p2 0 _) (.inl (by omega))).chg (chg_set _ p2 1 _) (.inl (by omega))).mono hlW (Nat.le_refl _)) ((hst6.chg (chg_set w6 p2 0 (.slice la x1.length lc)) (.inl (by omega))).chg (chg_set _ p2 1 (.slice (some ⟨go, 0, none⟩) x2.length capO)) (.inl (by omega))) hwq0 (by simp; omega) (by simp; omega)
    · exact (hbE.setCell hge2 _).setCell hge2 _
end Go.Proofs.YtdifhnckhocmdabGreat
