/- impl.train: one step of the training, on weights that the caller owns. Written by gentrain.py. -/
import Derived.Test.YtdifhnckhocmdabGreatPcMisP
import Derived.Test.YtdifhnckhocmdabGreatPcGrow
import Derived.Test.YtdifhnckhocmdabGreatPcTr2
namespace Go.Proofs.YtdifhnckhocmdabGreat
open Go.RowKit

theorem nestSt_rows {lo hi : Nat} {u : Value} {vs : List SV} {Y : XInt64SS} {w : World} (h : NestSt eI 2 40 lo hi u vs Y w) : RowsI w u Y := rowsI_at (rInt64SS.own_at h.own)
/-- the header of row a in the outer slice -/
theorem nestSt_head {lo hi : Nat} {u : Value} {vs : List SV} {Y : XInt64SS} {w : World} (h : NestSt eI 2 40 lo hi u vs Y w) (h0 : 0 < Y.length) :
    ∃ g cap, u = .slice (some ⟨g, 0, none⟩) Y.length cap ∧ lo ≤ g ∧ g < hi ∧ ∀ (w' : World) (Y' : XInt64SS) (a : Nat) (s : SV), NestSt eI 2 40 lo hi u vs Y' w' → vs[a]? = some s → w'.cell? ⟨g, a, none⟩ = some s.val := by
  have hl := h.len
  rcases h.outer.1.shape with ⟨_, e⟩ | ⟨g, cap, hv, hg, _⟩
  · rw [e] at hl; simp at hl; omega
  · rw [hl] at hv
    subst hv
    refine ⟨g, cap, rfl, hg, h.outer.2 g (by simp [Value.ownBlock]), fun w' Y' a s h' hs => ?_⟩
    obtain ⟨b, off, ao, cap', hv, _, _, hb0, hcl⟩ := h'.outer.1.arr
    simp at hv
    obtain ⟨rfl, _, rfl⟩ := hv
    have := hb0 (by have := (List.getElem?_eq_some_iff.1 hs).1; omega)
    simp at this
    obtain ⟨⟨rfl, rfl⟩, _⟩ := this
    have := eS1_cells hcl hs
    rwa [Nat.zero_add] at this
abbrev tyW : TypeId → Bool := fun T => T == 2 || T == 40
theorem eql_some (o : Option Nat) (n : Nat) : (posOf o == (n : Int)) = (o == some n) := by
  cases o with
  | none => rw [beq_eq_false_iff_ne.2 (by show (-1 : Int) ≠ n; omega)]; rfl
  | some k =>
    by_cases h : k = n
    · subst h; simp [posOf]
    · rw [beq_eq_false_iff_ne.2 (by show (k : Int) ≠ n; omega), beq_eq_false_iff_ne.2 (by simp; exact h)]

set_option maxRecDepth 100000 in
set_option maxHeartbeats 8000000 in
theorem train_any (u1 u2 : Value) (x1 : XStringS) (x2 : XInt64SS) (vs : List SV) (s : XSample) (sa : Option Addr) (sc lo hi : Nat) (w : World) (h1 : Arr eStr w u1 x1) (h2 : NestSt eI 2 40 lo hi u2 vs x2 w) (hA : Arr eFeat w (.slice sa s.2.length sc) s.2)
    (hp : pcOk (x1, x2) = true) (hs : smpOk s = true) (hkn : known (x1, x2) s = true) (hhi : hi ≤ w.heap.size) :
    Calls Tryz.prog 60 #[.agg #[u1, u2], .agg #[.string s.1, .slice sa s.2.length sc]] w fun e w' => e = .returned (.bool (!hitB (x1, x2) s)) ∧ NestSt eI 2 40 lo hi u2 vs (stepX (x1, x2) s).2 w' ∧ Mk tyW lo hi w w' := by
  have HP : Hid ((∀ r ∈ x2, rowOk r = true) ∧ x2.length = x1.length ∧ 1 ≤ x1.length ∧ x1.length ≤ 12) := hid (pcOk_rows hp)
  have hf := smpOk_feats hs
  obtain ⟨W, hW⟩ : ∃ u, u = ((w.alloc (.cells #[u1, u2] 29)).alloc (.cells #[.string s.1, .slice sa s.2.length sc] 58)) := ⟨_, rfl⟩
  have hbW : Below w.heap.size w W := by rw [hW]; exact belowA2 _ _ _
  have q1 : Box W (w.heap.size) #[u1, u2] 29 := by
    have hq := Box.new w #[u1, u2] 29
    rw [hW]
    exact (hq.alloc _)
  have q2 : Box W (w.heap.size + 1) #[.string s.1, .slice sa s.2.length sc] 58 := by
    have hq := Box.new (w.alloc (.cells #[u1, u2] 29)) #[.string s.1, .slice sa s.2.length sc] 58
    simp at hq
    rw [hW]
    exact hq
  obtain ⟨p1, hp1⟩ : ∃ p, p = w.heap.size := ⟨_, rfl⟩
  rw [← hp1] at q1
  have hge1 : w.heap.size ≤ p1 := by omega
  obtain ⟨p2, hp2⟩ : ∃ p, p = w.heap.size + 1 := ⟨_, rfl⟩
  rw [← hp2] at q2
  have hge2 : w.heap.size ≤ p2 := by omega
  have hlW : w.heap.size ≤ W.heap.size := hbW.size
  have hlp1 : p1 < W.heap.size := q1.lt
  have hlp2 : p2 < W.heap.size := q2.lt
  have hne12 : p1 ≠ p2 := by omega
  have HP1 := hid hp1
  have HP2 := hid hp2
  have HW := hid hW
  clear hW hp1 hp2
  have h1W := h1.below hbW
  have h2W := h2.below hbW
  have m10 := q1.cell (j := 0) rfl
  have m11 := q1.cell (j := 1) rfl
  have m20 := q2.cell (j := 0) rfl
  have m21 := q2.cell (j := 1) rfl
  have CIN := inputOf_any _ s.2 W (hA.below hbW) hf
  obtain ⟨X, hX⟩ : ∃ X, X = inpF s.2 := ⟨_, rfl⟩
  have hXo : okInp X := by rw [hX]; exact okInp_of hf
  rw [← hX] at CIN
  obtain ⟨S, hS⟩ : ∃ S, S = scoresF x2 X := ⟨_, rfl⟩
  have hS1 : 1 ≤ S.length := by rw [hS, scoresF_len]; have := HP.out.2; omega
  have hS12 : S.length ≤ 12 := by rw [hS, scoresF_len]; have := HP.out.2; omega
  obtain ⟨B, hB⟩ : ∃ B, B = bestI S := ⟨_, rfl⟩
  have hI : clsI (x1, x2) s.2 = B := by rw [hB, hS, hX]; rfl
  have hBl : B < x2.length := by have := bestI_lt hS1; rw [← hB, hS, scoresF_len] at this; exact this
  obtain ⟨a, ha⟩ : ∃ a, labIx x1 s.1 = some a := Option.isSome_iff_exists.1 hkn
  have hal : a < x2.length := by rw [HP.out.2.1]; exact (List.findIdx?_eq_some_iff_getElem.1 ha).1
  obtain ⟨ri, hri⟩ : ∃ ri : Int, ri = posOf (labIx x1 s.1) := ⟨_, rfl⟩
  have hria : ri = (a : Int) := by rw [hri, ha]; rfl
  have HHIT : Hid (hitB (x1, x2) s = (ri == (B : Int))) := hid (by unfold hitB; rw [hI, hri, eql_some])
  have HST : Hid (hitB (x1, x2) s = false → (stepX (x1, x2) s).2 = rowsTo x2 X a B 25) := hid (fun h => by unfold stepX; rw [if_neg (by rw [h]; exact Bool.false_ne_true)]; simp only [rightI, hI, ha, hX, Option.getD_some])
  have HSS : Hid (hitB (x1, x2) s = true → (stepX (x1, x2) s).2 = x2) := hid (fun h => by unfold stepX; rw [if_pos h])
  have HX := hid hX
  have HS := hid hS
  have HB := hid hB
  have HRI := hid hri
  clear hX hS hB hri hI
  go_enter Tryz.func60, Tryz.ntmps60
  go_upto_region 1 with fail
  rw [← HP2.out, ← HP1.out, ← HW.out]
  go_wp2_with fail
  refine CIN.mono ?_
  rintro e w2 ⟨ui, rfl, hoi, hb2⟩
  have hAI := rInt64S_arr (rInt64S.own_at hoi)
  obtain ⟨gI, capI, hgI0, hgI1, hcI⟩ : ∃ gI capI, ui = .slice (some ⟨gI, 0, none⟩) X.length capI ∧ W.heap.size ≤ gI ∧ ∀ (k : Nat) (c : Int), X[k]? = some c → w2.cell? ⟨gI, k, none⟩ = some (.int .i64 c) := by
    have hoi1 := hoi.1
    rcases hoi1.shape with ⟨_, e⟩ | ⟨g, cap, hv, h5, _⟩
    · have := hXo.1; rw [e] at this; simp at this
    · subst hv
      exact ⟨g, cap, rfl, h5, fun k c hc => ownE_get hoi1 hc⟩
  obtain ⟨ai, hai⟩ : ∃ ai : Option Addr, ai = some ⟨gI, 0, none⟩ := ⟨_, rfl⟩
  obtain ⟨ci, hci⟩ : ∃ ci, ci = capI := ⟨_, rfl⟩
  have hui : ui = .slice ai X.length ci := by rw [hai, hci]; exact hgI0
  have HAI := hid hai
  clear hgI0 hai hci
  rw [hXo.1] at hui
  subst hui
  have n10 := cell_later hb2 m10
  have n11 := cell_later hb2 m11
  have n20 := cell_later hb2 m20
  have hbs2 := hb2.size
  have hxl : x1.length ≤ 1048576 := by have := HP.out.2; omega
  have CI := fun w' (hbw : Below w2.heap.size w2 w') => indexStr_any u1 x1 s.1 w' (h1W.below (hb2.trans (hbw.mono hbs2))) hxl
  have CS := fun w' (hbw : Below w2.heap.size w2 w') => scoresOf_any u1 u2 (.slice ai 25 ci) x2 X w' (nestSt_rows (h2W.below (hb2.trans (hbw.mono hbs2)))) (hAI.below hbw) hXo HP.out.1 (by have := HP.out.2; omega)
  have CB := fun u w' (hA : Arr eI w' u S) => winner_any u S w' hA hS1 (by omega)
  rw [← HS.out] at CS
  rw [← HB.out] at CB
  rw [← HRI.out] at CI
  have h22 := h2W.below hb2
  clear CIN m10 m11 m20 m21
  subst hria
  cases hit : ((a : Int) == (B : Int))
  · have hab : a ≠ B := by
      intro e
      rw [e] at hit
      simp at hit
    have HH := hid (HHIT.out.trans hit)
    go_wp2_with fail
    refine wp_region_rel (fun i v w' => match i with
        | 0 => v = .pointer (some ⟨p1, 0, none⟩)
        | 1 => v = u1
        | 2 => v = .pointer (some ⟨p2, 0, none⟩)
        | 3 => v = .string s.1
        | 4 => v = .int .i64 a
        | 5 => v = .agg #[u1, u2]
        | 6 => v = .slice ai 25 ci
        | 7 => rInt64S.own w2.heap.size w'.heap.size w' v (S)
        | 8 => v = .int .i64 B
        | 9 => v = .int .i64 a
        | _ => v = .int .i64 B) (by kernel_rfl) (by kernel_rfl) (by kernel_rfl) (by kernel_rfl) ?_ ?_ ?_
    · intro i v w w' h hb
      match i, h with
      | 0, h => exact h
      | 1, h => exact h
      | 2, h => exact h
      | 3, h => exact h
      | 4, h => exact h
      | 5, h => exact h
      | 6, h => exact h
      | 7, h => exact rInt64S.own_now h hb
      | 8, h => exact h
      | 9, h => exact h
      | (m + 10), h => exact h
    · refine ⟨?_, ?_, ?_, ?_, ?_, ?_, ?_, ?_, ?_, ?_, ?_, trivial⟩
      · intro ρ w' hbw ht hcs hfn hgl hdep
        refine ⟨fun _ => ?_, fun h => by cases h⟩
        have s2 : ρ (.tmp 2) = .pointer (some ⟨p1, 0, none⟩) := ht 2 rfl
        clear ht hdep
        go_simp
        exact ⟨Below.refl _ _, rfl⟩
      · intro ρ w' hbw ht hcs hfn hgl hdep
        refine ⟨fun _ => ?_, fun h => by cases h⟩
        have s13 : ρ (.tmp 13) = .pointer (some ⟨p1, 0, none⟩) := hdep ⟨0, .data⟩ (by simp) rfl 13 rfl
        have d0 := cell_later hbw n10
        clear ht hdep
        go_simp
        exact ⟨Below.refl _ _, rfl⟩
      · intro ρ w' hbw ht hcs hfn hgl hdep
        refine ⟨fun _ => ?_, fun h => by cases h⟩
        have s3 : ρ (.tmp 3) = .pointer (some ⟨p2, 0, none⟩) := ht 3 rfl
        clear ht hdep
        go_simp
        exact ⟨Below.refl _ _, rfl⟩
      · intro ρ w' hbw ht hcs hfn hgl hdep
        refine ⟨fun _ => ?_, fun h => by cases h⟩
        have s15 : ρ (.tmp 15) = .pointer (some ⟨p2, 0, none⟩) := hdep ⟨2, .data⟩ (by simp) rfl 15 rfl
        have d0 := cell_later hbw n20
        clear ht hdep
        go_simp
        exact ⟨Below.refl _ _, rfl⟩
      · intro ρ w' hbw ht hcs hfn hgl hdep
        refine ⟨fun _ => ?_, fun h => by cases h⟩
        have s14 : ρ (.tmp 14) = u1 := hdep ⟨1, .data⟩ (by simp) rfl 14 rfl
        have s16 : ρ (.tmp 16) = .string s.1 := hdep ⟨3, .data⟩ (by simp) rfl 16 rfl
        clear ht hdep
        go_simp
        exact (CI w' hbw).mono fun e w'' ⟨he, hw⟩ => ⟨_, he, hw ▸ Below.refl _ _, rfl⟩
      · intro ρ w' hbw ht hcs hfn hgl hdep
        refine ⟨fun _ => ?_, fun h => by cases h⟩
        have s2 : ρ (.tmp 2) = .pointer (some ⟨p1, 0, none⟩) := ht 2 rfl
        have d0 := cell_later hbw n10
        have d1 := cell_later hbw n11
        clear ht hdep
        go_simp
        exact ⟨Below.refl _ _, rfl⟩
      · intro ρ w' hbw ht hcs hfn hgl hdep
        refine ⟨fun _ => ?_, fun h => by cases h⟩
        have s5 : ρ (.tmp 5) = .slice ai 25 ci := ht 5 rfl
        clear ht hdep
        go_simp
        exact ⟨Below.refl _ _, rfl⟩
      · intro ρ w' hbw ht hcs hfn hgl hdep
        refine ⟨fun _ => ?_, fun h => by cases h⟩
        have s18 : ρ (.tmp 18) = .agg #[u1, u2] := hdep ⟨5, .data⟩ (by simp) rfl 18 rfl
        have s19 : ρ (.tmp 19) = .slice ai 25 ci := hdep ⟨6, .data⟩ (by simp) rfl 19 rfl
        clear ht hdep
        go_simp
        exact (CS w' hbw).mono fun e w'' ⟨u, he, ho, hb⟩ => ⟨_, he, hb, rInt64S.own_mono ho hbw.size (Nat.le_refl _)⟩
      · intro ρ w' hbw ht hcs hfn hgl hdep
        refine ⟨fun _ => ?_, fun h => by cases h⟩
        have o20 := hdep ⟨7, .data⟩ (by simp) rfl 20 rfl
        clear ht hdep
        go_simp
        exact (CB _ w' (rInt64S_arr (rInt64S.own_at o20))).mono fun e w'' ⟨he, hw⟩ => ⟨_, he, hw ▸ Below.refl _ _, rfl⟩
      · intro ρ w' hbw ht hcs hfn hgl hdep
        refine ⟨fun _ => ?_, fun h => by cases h⟩
        have s17 : ρ (.tmp 17) = .int .i64 a := hdep ⟨4, .data⟩ (by simp) rfl 17 rfl
        clear ht hdep
        go_simp
        exact ⟨Below.refl _ _, rfl⟩
      · intro ρ w' hbw ht hcs hfn hgl hdep
        refine ⟨fun _ => ?_, fun h => by cases h⟩
        have s21 : ρ (.tmp 21) = .int .i64 B := hdep ⟨8, .data⟩ (by simp) rfl 21 rfl
        clear ht hdep
        go_simp
        exact ⟨Below.refl _ _, rfl⟩
    · intro z w3 hbR hx
      have hx0 : z 0 = .pointer (some ⟨p1, 0, none⟩) := hx 0 (by simp)
      have hx1 : z 1 = u1 := hx 1 (by simp)
      have hx2 : z 2 = .pointer (some ⟨p2, 0, none⟩) := hx 2 (by simp)
      have hx3 : z 3 = .string s.1 := hx 3 (by simp)
      have hx4 : z 4 = .int .i64 a := hx 4 (by simp)
      have hx5 : z 5 = .agg #[u1, u2] := hx 5 (by simp)
      have hx6 : z 6 = .slice ai 25 ci := hx 6 (by simp)
      have hx8 : z 8 = .int .i64 B := hx 8 (by simp)
      have hx9 : z 9 = .int .i64 a := hx 9 (by simp)
      have hx10 : z 10 = .int .i64 B := hx 10 (by simp)
      clear hx
      simp only [putAll, Act.put, List.setIfInBounds_toArray, List.set_cons_succ, List.set_cons_zero, Nat.zero_add, Nat.reduceAdd, hx0, hx1, hx2, hx3, hx4, hx5, hx6, hx8, hx9, hx10]
      generalize z 7 = kz7 at *
      clear hx0 hx1 hx2 hx3 hx4 hx5 hx6 hx8 hx9 hx10
      have h23 := h22.below hbR
      have k11 := cell_later hbR n11
      have HW3 := hid (show Below w.heap.size w w3 from hbW.trans ((hb2.trans (hbR.mono hbs2)).mono hlW))
      have hcI3 := fun (k : Nat) (c : Int) (h : X[k]? = some c) => cell_later hbR (hcI k c h)
      have HCI := hid hcI3
      rw [HAI.out]
      clear hcI hcI3 h22 hbR n10 n11 n20 CI CS CB hAI hoi
      obtain ⟨go, capO, hu2, hgo0, hgo1, HDC⟩ := nestSt_head h23 (by omega)
      subst hu2
      have HDR := hid HDC
      obtain ⟨ra, hra⟩ : ∃ ra, ra = x2.getD a [] := ⟨_, rfl⟩
      obtain ⟨rb, hrb⟩ : ∃ rb, rb = x2.getD B [] := ⟨_, rfl⟩
      have hra2 : x2[a]? = some ra := by rw [hra, List.getD, List.getElem?_eq_getElem hal, Option.getD_some]
      have hrb2 : x2[B]? = some rb := by rw [hrb, List.getD, List.getElem?_eq_getElem hBl, Option.getD_some]
      have hao := HP.out.1 ra (List.mem_of_getElem? hra2)
      have hbo := HP.out.1 rb (List.mem_of_getElem? hrb2)
      have HRA := hid hra
      have HRB := hid hrb
      have HAO := hid hao
      have HBO := hid hbo
      have HXO := hid hXo
      have HPO := hid (show p1 ≠ go ∧ gI ≠ go from ⟨by omega, by omega⟩)
      have hli : (a : Int) < (x2.length : Int) := by omega
      have hlb : (B : Int) < (x2.length : Int) := by omega
      clear hra hrb hra2 hrb2 hao hbo hXo HDC
      go_wp2_with fail
      go_loopw [27] (fun i wr => ∃ k : Nat, k ≤ 25 ∧ i = .int .i64 k ∧ NestSt eI 2 40 lo hi (.slice (some ⟨go, 0, none⟩) x2.length capO) vs (rowsTo x2 X a B k) wr ∧ Mk tyW lo hi w3 wr) (fun i _ => 25 - (intOf i).toNat)
      case atStart => exact ⟨0, Nat.zero_le _, rfl, by rw [rowsTo_zero X hal hBl]; exact h23, Mk.refl _ _ _ _⟩
      case round =>
        clear h23
        obtain ⟨k, hk, rfl, hst, hmk⟩ := hrel
        have hc := hmk.1
        have r11 := chg_cell hc k11 (by first | (left; omega) | (right; omega))
        by_cases hlt : k < 25
        · have hlti : (k : Int) < 25 := by omega
          have hla := rowOk_len HAO.out
          have hlbl := rowOk_len HBO.out
          obtain ⟨xk, hxk⟩ : ∃ c, X[k]? = some c := ⟨_, List.getElem?_eq_getElem (by rw [HXO.out.1]; exact hlt)⟩
          obtain ⟨ca, hca⟩ : ∃ c, ra[k]? = some c := ⟨_, List.getElem?_eq_getElem (by omega)⟩
          obtain ⟨cb, hcb⟩ : ∃ c, rb[k]? = some c := ⟨_, List.getElem?_eq_getElem (by omega)⟩
          have eX := chg_cell hc (HCI.out k xk hxk) (by first | (left; omega) | (right; omega))
          have bX := HXO.out.2 k
          have bA := rowOk_bd HAO.out k
          have bB := rowOk_bd HBO.out k
          rw [List.getD, hxk, Option.getD_some] at bX
          rw [List.getD, hca, Option.getD_some] at bA
          rw [List.getD, hcb, Option.getD_some] at bB
          have hA0 := rowsTo_a X k hal hab
          have hB0 := rowsTo_b (a := a) X k hBl
          rw [← HRA.out] at hA0
          rw [← HRB.out] at hB0
          have hAk := mixTo_get (addF ra X) hca
          have hBk := mixTo_get (subF rb X) hcb
          have hfa : addF ra X k = ca + xk := by simp [addF, hca, hxk]
          have hfb : subF rb X k = cb - xk := by simp [subF, hcb, hxk]
          obtain ⟨sA, gA, capA, hsA, hvA, hgA0, hgA1, hgA2, eA, fA, pA⟩ := hst.put hA0 hAk
          have dA := HDR.out wr _ a sA hst hsA
          rw [hvA, mixTo_len _ _ (by omega), hla] at dA
          have pA1 := pA (ca + xk)
          have HSTEP := hid (rowsTo_step (W := x2) X (a := a) (b := B) (k := k) hab (by rw [← HRA.out]; omega) (by rw [← HRB.out]; omega))
          rw [← HRA.out, ← HRB.out, hfa, hfb] at HSTEP
          have HA0 := hid hA0
          have HB0 := hid hB0
          have HBK := hid hBk
          have HMK := hid hmk
          have HMX := hid (mixTo_len (subF rb X) rb (k := k) (by omega))
          have HLB := hid hlbl
          clear hxk hca hcb hA0 hB0 hAk hBk hfa hfb pA hst hsA hvA hmk hc hla hlbl
          go_upto_region 9 with fail
          obtain ⟨w5, hw5⟩ : ∃ w5, w5 = wr.setCell ⟨gA, k, none⟩ (.int .i64 (ca + xk)) := ⟨_, rfl⟩
          rw [← hw5] at pA1 ⊢
          have t11 := chg_cell pA1.2.1 r11 (by first | (left; omega) | (right; omega))
          obtain ⟨sB, gB, capB, hsB, hvB, hgB0, hgB1, hgB2, eB, fB, pB⟩ := pA1.1.put (a := B) (by rw [List.getElem?_set_ne hab]; exact HB0.out) HBK.out
          have dB := HDR.out w5 _ B sB pA1.1 hsB
          rw [hvB, HMX.out, HLB.out] at dB
          have pB1 := pB (cb - xk)
          have HPB := hid pB1
          have HPA := hid pA1
          clear pB1 pB pA1 hsB hvB hw5 r11 dA eA fA eX
          go_wp2
          go_roundw
          case rel =>
            have h7 := HPB.out.1
            rw [HSTEP.out] at h7
            exact ⟨k + 1, by omega, by go_num, h7, (HMK.out.trans HPA.out.2).trans HPB.out.2⟩
          case measure => simp [intOf]; omega
        · obtain rfl : k = 25 := by omega
          go_wp2_with fail
          go_ret
          exact ⟨by rw [HH.out]; rfl, by rw [HST.out HH.out]; exact hst, (Mk.of_below HW3.out).trans hmk⟩
  · have HH := hid (HHIT.out.trans hit)
    go_wp2_with fail
    refine wp_region_rel (fun i v w' => match i with
        | 0 => v = .pointer (some ⟨p1, 0, none⟩)
        | 1 => v = u1
        | 2 => v = .pointer (some ⟨p2, 0, none⟩)
        | 3 => v = .string s.1
        | 4 => v = .int .i64 a
        | 5 => v = .agg #[u1, u2]
        | 6 => v = .slice ai 25 ci
        | 7 => rInt64S.own w2.heap.size w'.heap.size w' v (S)
        | 8 => v = .int .i64 B
        | 9 => v = .int .i64 a
        | _ => v = .int .i64 B) (by kernel_rfl) (by kernel_rfl) (by kernel_rfl) (by kernel_rfl) ?_ ?_ ?_
    · intro i v w w' h hb
      match i, h with
      | 0, h => exact h
      | 1, h => exact h
      | 2, h => exact h
      | 3, h => exact h
      | 4, h => exact h
      | 5, h => exact h
      | 6, h => exact h
      | 7, h => exact rInt64S.own_now h hb
      | 8, h => exact h
      | 9, h => exact h
      | (m + 10), h => exact h
    · refine ⟨?_, ?_, ?_, ?_, ?_, ?_, ?_, ?_, ?_, ?_, ?_, trivial⟩
      · intro ρ w' hbw ht hcs hfn hgl hdep
        refine ⟨fun _ => ?_, fun h => by cases h⟩
        have s2 : ρ (.tmp 2) = .pointer (some ⟨p1, 0, none⟩) := ht 2 rfl
        clear ht hdep
        go_simp
        exact ⟨Below.refl _ _, rfl⟩
      · intro ρ w' hbw ht hcs hfn hgl hdep
        refine ⟨fun _ => ?_, fun h => by cases h⟩
        have s13 : ρ (.tmp 13) = .pointer (some ⟨p1, 0, none⟩) := hdep ⟨0, .data⟩ (by simp) rfl 13 rfl
        have d0 := cell_later hbw n10
        clear ht hdep
        go_simp
        exact ⟨Below.refl _ _, rfl⟩
      · intro ρ w' hbw ht hcs hfn hgl hdep
        refine ⟨fun _ => ?_, fun h => by cases h⟩
        have s3 : ρ (.tmp 3) = .pointer (some ⟨p2, 0, none⟩) := ht 3 rfl
        clear ht hdep
        go_simp
        exact ⟨Below.refl _ _, rfl⟩
      · intro ρ w' hbw ht hcs hfn hgl hdep
        refine ⟨fun _ => ?_, fun h => by cases h⟩
        have s15 : ρ (.tmp 15) = .pointer (some ⟨p2, 0, none⟩) := hdep ⟨2, .data⟩ (by simp) rfl 15 rfl
        have d0 := cell_later hbw n20
        clear ht hdep
        go_simp
        exact ⟨Below.refl _ _, rfl⟩
      · intro ρ w' hbw ht hcs hfn hgl hdep
        refine ⟨fun _ => ?_, fun h => by cases h⟩
        have s14 : ρ (.tmp 14) = u1 := hdep ⟨1, .data⟩ (by simp) rfl 14 rfl
        have s16 : ρ (.tmp 16) = .string s.1 := hdep ⟨3, .data⟩ (by simp) rfl 16 rfl
        clear ht hdep
        go_simp
        exact (CI w' hbw).mono fun e w'' ⟨he, hw⟩ => ⟨_, he, hw ▸ Below.refl _ _, rfl⟩
      · intro ρ w' hbw ht hcs hfn hgl hdep
        refine ⟨fun _ => ?_, fun h => by cases h⟩
        have s2 : ρ (.tmp 2) = .pointer (some ⟨p1, 0, none⟩) := ht 2 rfl
        have d0 := cell_later hbw n10
        have d1 := cell_later hbw n11
        clear ht hdep
        go_simp
        exact ⟨Below.refl _ _, rfl⟩
      · intro ρ w' hbw ht hcs hfn hgl hdep
        refine ⟨fun _ => ?_, fun h => by cases h⟩
        have s5 : ρ (.tmp 5) = .slice ai 25 ci := ht 5 rfl
        clear ht hdep
        go_simp
        exact ⟨Below.refl _ _, rfl⟩
      · intro ρ w' hbw ht hcs hfn hgl hdep
        refine ⟨fun _ => ?_, fun h => by cases h⟩
        have s18 : ρ (.tmp 18) = .agg #[u1, u2] := hdep ⟨5, .data⟩ (by simp) rfl 18 rfl
        have s19 : ρ (.tmp 19) = .slice ai 25 ci := hdep ⟨6, .data⟩ (by simp) rfl 19 rfl
        clear ht hdep
        go_simp
        exact (CS w' hbw).mono fun e w'' ⟨u, he, ho, hb⟩ => ⟨_, he, hb, rInt64S.own_mono ho hbw.size (Nat.le_refl _)⟩
      · intro ρ w' hbw ht hcs hfn hgl hdep
        refine ⟨fun _ => ?_, fun h => by cases h⟩
        have o20 := hdep ⟨7, .data⟩ (by simp) rfl 20 rfl
        clear ht hdep
        go_simp
        exact (CB _ w' (rInt64S_arr (rInt64S.own_at o20))).mono fun e w'' ⟨he, hw⟩ => ⟨_, he, hw ▸ Below.refl _ _, rfl⟩
      · intro ρ w' hbw ht hcs hfn hgl hdep
        refine ⟨fun _ => ?_, fun h => by cases h⟩
        have s17 : ρ (.tmp 17) = .int .i64 a := hdep ⟨4, .data⟩ (by simp) rfl 17 rfl
        clear ht hdep
        go_simp
        exact ⟨Below.refl _ _, rfl⟩
      · intro ρ w' hbw ht hcs hfn hgl hdep
        refine ⟨fun _ => ?_, fun h => by cases h⟩
        have s21 : ρ (.tmp 21) = .int .i64 B := hdep ⟨8, .data⟩ (by simp) rfl 21 rfl
        clear ht hdep
        go_simp
        exact ⟨Below.refl _ _, rfl⟩
    · intro z w3 hbR hx
      have hx0 : z 0 = .pointer (some ⟨p1, 0, none⟩) := hx 0 (by simp)
      have hx1 : z 1 = u1 := hx 1 (by simp)
      have hx2 : z 2 = .pointer (some ⟨p2, 0, none⟩) := hx 2 (by simp)
      have hx3 : z 3 = .string s.1 := hx 3 (by simp)
      have hx4 : z 4 = .int .i64 a := hx 4 (by simp)
      have hx5 : z 5 = .agg #[u1, u2] := hx 5 (by simp)
      have hx6 : z 6 = .slice ai 25 ci := hx 6 (by simp)
      have hx8 : z 8 = .int .i64 B := hx 8 (by simp)
      have hx9 : z 9 = .int .i64 a := hx 9 (by simp)
      have hx10 : z 10 = .int .i64 B := hx 10 (by simp)
      clear hx
      simp only [putAll, Act.put, List.setIfInBounds_toArray, List.set_cons_succ, List.set_cons_zero, Nat.zero_add, Nat.reduceAdd, hx0, hx1, hx2, hx3, hx4, hx5, hx6, hx8, hx9, hx10]
      generalize z 7 = kz7 at *
      clear hx0 hx1 hx2 hx3 hx4 hx5 hx6 hx8 hx9 hx10
      go_wp2_with fail
      go_ret
      exact ⟨by rw [HH.out]; rfl, by rw [HSS.out HH.out]; exact h22.below hbR, Mk.of_below (hbW.trans ((hb2.trans (hbR.mono hbs2)).mono hlW))⟩
end Go.Proofs.YtdifhnckhocmdabGreat
