/- Train: both calls. -/
import Derived.Test.YtdifhnckhocmdabGreatPcAllS
import Derived.Test.YtdifhnckhocmdabGreatAppO
namespace Go.Proofs.YtdifhnckhocmdabGreat
open Go.RowKit

/-- the call returns two values of its own, one behind the other in memory, and plain results behind them -/
def RetNew2 {X Y : Type} (R1 : Rep X) (x : X) (R2 : Rep Y) (y : Y) (rest : Array Value) (W : World) (e : Ending) (w' : World) : Prop :=
  ∃ v u mid, e = .returned (.tuple (#[v, u] ++ rest)) ∧ R1.own W.heap.size mid w' v x ∧ R2.own mid w'.heap.size w' u y ∧ W.heap.size ≤ mid ∧ mid ≤ w'.heap.size ∧ Below W.heap.size W w'
/-- the call returns two values that can be read, in new memory, and plain results behind them -/
def RetAt2 {X Y : Type} (R1 : Rep X) (x : X) (R2 : Rep Y) (y : Y) (rest : Array Value) (W : World) (e : Ending) (w' : World) : Prop :=
  ∃ v u, e = .returned (.tuple (#[v, u] ++ rest)) ∧ R1.at_ W.heap.size w'.heap.size w' v x ∧ R2.at_ W.heap.size w'.heap.size w' u y ∧ Below W.heap.size W w'
theorem wpList_appO {α : Type} {E : Enc α} {P : Program} {w : World} {ops : Array Oper} {rest : List Oper} {o : Oper} {a : Act} {Q : Exit → Act → World → Prop} (hgd : o.guard = none) (s x : Operand) (t : TypeId)
    (ho : o.op = .call { callee := .builtin .append, args := #[s, x], argTypes := #[t, t] })
    (B : Nat) (e : TypeId) (z : Value) (bytes : Nat) (hi : (P.info? e).map (fun i => (i.zero, i.size, i.bytes)) = some (some z, E.sz, bytes)) (ht : P.underlying t = some (.slice e)) (hzs : z.cells.size = E.sz)
    (v : Value) (xs : List α) (hs : a.eval s = v) (hown : Own E e B w v xs) (vx : Value) (ys : List α) (hx : a.eval x = vx) (hy : Arr E w vx ys)
    (h63 : xs.length + ys.length ≤ maxLen) (hbytes : (xs.length + ys.length) * bytes ≤ 140737488355328) (hB : B ≤ w.heap.size)
    (h : ∀ v' w', Own E e B w' v' (xs ++ ys) → w.grownBy w' v.ownBlock → (v'.ownBlock = v.ownBlock ∨ v'.ownBlock = some w.heap.size) → wpList P ops Q rest (a.put o.dst v') w') : wpList P ops Q (o :: rest) a w := by
  refine wpList_plain hgd fun K hK => ?_
  obtain ⟨v', w', hr, h1, h2, h3⟩ := run_append_arrO (P := P) t o.type B e z bytes hi ht hzs v xs hown vx ys hy h63 hbytes hB
  unfold Oper.wp execOp
  simp only [ho, resolve, invoke, builtin, Sem.run_bind, Sem.run_pure, Result.andThen_ok, List.map_toArray, List.map_cons, List.map_nil, hs, hx, hr]
  exact hK _ _ (h v' w' h1 h2 h3)
theorem pcpOwnM {lo q0 hi m : Nat} {v1 v2 : Value} {vs : List SV} {x1 : XStringS} {Y : XInt64SS} {w' : World} (hL : OwnIn eStr 9 lo q0 w' v1 x1) (hst : NestSt eI 2 40 q0 hi v2 vs Y w') (hq : lo ≤ q0) (hq2 : q0 ≤ m) (hhi : hi ≤ m) :
    rPerceptron.own lo m w' (.agg #[v1, v2]) (x1, Y) := ⟨_, _, rfl, hL.mono (Nat.le_refl _) hq2, rInt64SS.own_mono hst.own hq hhi⟩
theorem nilOwnM (lo m : Nat) (w' : World) : rPerceptron.own lo m w' (.agg #[.slice none 0 0, .slice none 0 0]) ([], []) := ⟨_, _, rfl, ⟨(Own.nil _ _ lo), fun g hg => by simp [Value.ownBlock] at hg⟩, (NestSt.emp _).own⟩
theorem nilI (lo m : Nat) (w' : World) : rInt64S.own lo m w' (.slice none 0 0) [] := ⟨(Own.nil _ _ lo), fun g hg => by simp [Value.ownBlock] at hg⟩
theorem own_nowI {B a b : Nat} {w w' : World} {u : Value} {L : List Int} (h : Own eI 2 B w u L) (hc : Chg a b w w') (hb : b ≤ B) : Own eI 2 B w' u L := (h.in_.chg hc (.inl hb)).1
theorem chg_grown {a b B : Nat} {w w1 w2 : World} {u : Value} {L : List Int} (hc : Chg a b w w1) (hg : w1.grownBy w2 u.ownBlock) (ho : Own eI 2 B w1 u L) (hB : w.heap.size ≤ B) : Chg a b w w2 :=
  ⟨hg.os.trans hc.os, hg.tape.trans hc.tape, hg.output.trans hc.output, Nat.le_trans hc.size hg.size, fun k hk hj => (hg.block k (Nat.lt_of_lt_of_le hk hc.size) (fun e => by have := (World.ownsRow.lt ho k e.symm).1; omega)).trans (hc.block k hk hj)⟩

theorem chg_of_grown {B : Nat} {w1 w2 : World} {u : Value} {L : List Int} (hg : w1.grownBy w2 u.ownBlock) (ho : Own eI 2 B w1 u L) : Chg B w1.heap.size w1 w2 :=
  ⟨hg.os, hg.tape, hg.output, hg.size, fun k hk hj => hg.block k hk (fun e => by have := World.ownsRow.lt ho k e.symm; omega)⟩
set_option maxRecDepth 100000 in
set_option maxHeartbeats 8000000 in
theorem implTrain_any (v1 : Value) (x : XPerceptron) (v2 : Value) (l : XSampleS) (E : Int) (w : World) {lo1 hi1 lo2 hi2 : Nat} (h1 : rPerceptron.at_ lo1 hi1 w v1 x) (h2 : rSampleS.at_ lo2 hi2 w v2 l) (ok1 : okPerceptron x) (ok2 : okSampleS l) (g1 : goodPerceptron x) (g2 : goodSampleS l) :
    Calls Tryz.prog 17 #[v1, v2, .int .i64 E] w (RetNew2 rPerceptron (trX x l E) rInt64S (trL x l E) #[.int .i64 (trC x l E)] w) := by
  obtain ⟨u1, u2, rfl, h3, h4⟩ := h1
  obtain ⟨x1, x2⟩ := x
  obtain ⟨hn1, hn2⟩ := ok1
  unfold goodPerceptron at g1
  simp only at h3 h4 hn1 hn2 g1
  replace h3 := rStringS_arr h3
  replace h4 := rowsI_at h4
  replace h2 := (smps_at h2).at_
  obtain ⟨sv, scv, hv⟩ := shapeSampleS h2
  subst hv
  obtain ⟨W, hW⟩ : ∃ u, u = ((w.alloc (.cells #[u1, u2] 29)).alloc (.cells #[.slice none 0 0, .slice none 0 0] 29)) := ⟨_, rfl⟩
  have hbW : Below w.heap.size w W := by rw [hW]; exact belowA2 _ _ _
  have q1 : Box W (w.heap.size) #[u1, u2] 29 := by
    have hq := Box.new w #[u1, u2] 29
    rw [hW]
    exact (hq.alloc _)
  have q2 : Box W (w.heap.size + 1) #[.slice none 0 0, .slice none 0 0] 29 := by
    have hq := Box.new (w.alloc (.cells #[u1, u2] 29)) #[.slice none 0 0, .slice none 0 0] 29
    simp at hq
    rw [hW]
    exact hq
  obtain ⟨p1, hp1⟩ : ∃ p, p = w.heap.size := ⟨_, rfl⟩
  rw [← hp1] at q1
  have hge1 : w.heap.size ≤ p1 := by omega
  obtain ⟨p2, hp2⟩ : ∃ p, p = w.heap.size + 1 := ⟨_, rfl⟩
  rw [← hp2] at q2
  have hge2 : w.heap.size ≤ p2 := by omega
  have hlW : w.heap.size ≤ W.heap.size := hbW.size
  have hlp1 : p1 < W.heap.size := q1.lt
  have hlp2 : p2 < W.heap.size := q2.lt
  have hne12 : p1 ≠ p2 := by omega
  have HP1 := hid hp1
  have HP2 := hid hp2
  have HW := hid hW
  clear hW hp1 hp2
  have h3W := h3.below hbW
  have h4W := h4.below hbW
  have h2W := rSampleS.at_below h2 hbW
  have m0 := q1.cell (j := 0) rfl
  have m1 := q1.cell (j := 1) rfl
  have CO := trainable_any u1 u2 (.slice sv l.length scv) (x1, x2) l W h3W h4W (smps_at h2W) ⟨hn1, hn2⟩ g1 (okSl_of ok2) g2
  by_cases hc : trCode (x1, x2) l = 0
  case neg =>
    have HG : Hid (trX (x1, x2) l E = ([], []) ∧ trL (x1, x2) l E = [] ∧ trC (x1, x2) l E = trCode (x1, x2) l) := hid (by simp [trX, trL, trC, hc])
    generalize trCode (x1, x2) l = n at *
    have hc1 : (n == 0) = false := by rw [beq_eq_false_iff_ne]; exact hc
    have hc2 : (n != 0) = true := by rw [bne_iff_ne]; exact hc
    clear hc
    go_enter Tryz.func17, Tryz.ntmps17
    go_upto_region 1 with fail
    rw [← HP2.out, ← HP1.out, ← HW.out]
    go_wp2_with fail
    refine CO.mono ?_
    rintro e w2 ⟨rfl, hb⟩
    have bx2 := q2.later hb
    have f0 := bx2.cell (j := 0) rfl
    have f1 := bx2.cell (j := 1) rfl
    have ff := bx2.free
    have hbE := hbW.trans (hb.mono hlW)
    go_wp2_with fail
    refine bodyPost_ret (v := .tuple #[.agg #[.slice none 0 0, .slice none 0 0], .slice none 0 0, .int .i64 n]) (by simp [results, Tryz.results17, go_sem, f0, f1]) rfl ⟨.agg #[.slice none 0 0, .slice none 0 0], .slice none 0 0, w.heap.size, by rw [HG.out.2.2]; rfl, ?_, ?_, Nat.le_refl _, ?_, ?_⟩
    · rw [HG.out.1]
      exact nilOwnM _ _ _
    · rw [HG.out.2.1]
      exact nilI _ _ _
    · exact ((hbE.setCell hge2 _).setCell hge2 _).size
    · exact (hbE.setCell hge2 _).setCell hge2 _
  obtain ⟨hp, hsm, hkn, h40⟩ := trCode_zero hc
  have HP : Hid ((∀ r ∈ x2, rowOk r = true) ∧ x2.length = x1.length ∧ 1 ≤ x1.length ∧ x1.length ≤ 12) := hid (pcOk_rows hp)
  have HSM := hid hsm
  have HKN := hid hkn
  cases hE : inB E 0 20
  · have HG : Hid (trX (x1, x2) l E = ([], []) ∧ trL (x1, x2) l E = [] ∧ trC (x1, x2) l E = 2) := hid (by simp [trX, trL, trC, hc, hE])
    rw [hc] at CO
    have CW := within_any E 0 20
    rw [hE] at CW
    clear hc hsm hkn hE
    go_enter Tryz.func17, Tryz.ntmps17
    go_upto_region 1 with fail
    rw [← HP2.out, ← HP1.out, ← HW.out]
    go_wp2_with fail
    refine CO.mono ?_
    rintro e w2 ⟨rfl, hb⟩
    have bx2 := q2.later hb
    have f0 := bx2.cell (j := 0) rfl
    have f1 := bx2.cell (j := 1) rfl
    have ff := bx2.free
    have hbE := hbW.trans (hb.mono hlW)
    go_wp2_with fail
    refine (CW _).mono ?_
    rintro e w3 ⟨rfl, rfl⟩
    go_wp2_with fail
    refine bodyPost_ret (v := .tuple #[.agg #[.slice none 0 0, .slice none 0 0], .slice none 0 0, .int .i64 2]) (by simp [results, Tryz.results17, go_sem, f0, f1]) rfl ⟨.agg #[.slice none 0 0, .slice none 0 0], .slice none 0 0, w.heap.size, by rw [HG.out.2.2]; rfl, ?_, ?_, Nat.le_refl _, ?_, ?_⟩
    · rw [HG.out.1]
      exact nilOwnM _ _ _
    · rw [HG.out.2.1]
      exact nilI _ _ _
    · exact ((hbE.setCell hge2 _).setCell hge2 _).size
    · exact (hbE.setCell hge2 _).setCell hge2 _
  have hE2 := hE
  rw [inB_true] at hE2
  obtain ⟨T, hT⟩ : ∃ T : Nat, E = T := ⟨E.toNat, by omega⟩
  subst hT
  have hT20 : T ≤ 20 := by omega
  obtain ⟨O, hO⟩ : ∃ O, O = trainTo T (x1, x2) [] l := ⟨_, rfl⟩
  have HG : Hid (trX (x1, x2) l T = tX O ∧ trL (x1, x2) l T = tL O ∧ trC (x1, x2) l T = tC O) := hid (by simp [trX, trL, trC, hc, hE, hO])
  have HO := hid hO
  rw [hc] at CO
  have CW := within_any T 0 20
  rw [hE] at CW
  clear hc hsm hkn hE hE2 hO
  go_enter Tryz.func17, Tryz.ntmps17
  go_upto_region 1 with fail
  rw [← HP2.out, ← HP1.out, ← HW.out]
  go_wp2_with fail
  refine CO.mono ?_
  rintro e w2 ⟨rfl, hb2⟩
  have n0 := cell_later hb2 m0
  have n1 := cell_later hb2 m1
  have hs2 := hb2.size
  go_wp2_with fail
  refine (CW _).mono ?_
  rintro e w2' ⟨rfl, rfl⟩
  go_wp2_with fail
  refine (copyPerceptron_any u1 u2 x1 x2 w2 (h3W.below hb2) (h4W.below hb2) (by have := HP.out.2; omega) (by have := HP.out.2; omega) (fun r hr => by have := rowOk_len (HP.out.1 r hr); omega)).mono ?_
  rintro e w3 ⟨va, vb, vs, q0, rfl, hq0, hoL, hst, hb3⟩
  obtain ⟨la, lc, hva⟩ := hoL.1.isSlice
  subst hva
  obtain ⟨ob, oc, hvb⟩ := hst.outer.1.isSlice
  rw [hst.len] at hvb
  subst hvb
  have hs3 := hb3.size
  have hq3 : q0 ≤ w3.heap.size := by
    obtain ⟨go, capO, _, h5, h6, _⟩ := nestSt_head hst (by have := HP.out.2; omega)
    omega
  have hb23 := hb2.trans (hb3.mono hs2)
  obtain ⟨q, hq⟩ : ∃ q, q = w3.heap.size := ⟨_, rfl⟩
  go_upto_region 7 with fail
  rw [← hq]
  rw [← hq] at hst
  obtain ⟨w4, hw4⟩ : ∃ w4, w4 = w3.alloc (.cells #[.slice la x1.length lc, .slice ob x2.length oc] 29) := ⟨_, rfl⟩
  rw [← hw4]
  have hb4 : Below W.heap.size W w4 := by rw [hw4]; exact hb23.trans ((below_alloc _ _).mono (by omega))
  have hbx : Box w4 q #[.slice la x1.length lc, .slice ob x2.length oc] 29 := by rw [hw4, hq]; exact Box.new _ _ _
  have hw4s : w4.heap.size = q + 1 := by rw [hw4, hq]; simp
  have bx4 := q2.later hb4
  have hst4 : NestSt eI 2 40 q0 q (.slice ob x2.length oc) vs x2 w4 := by rw [hw4]; exact hst.below (below_alloc _ _)
  have oL4 : OwnIn eStr 9 W.heap.size q0 w4 (.slice la x1.length lc) x1 := by rw [hw4]; exact (hoL.chg (Chg.of_below (a := 0) (b := 0) (below_alloc _ _)) (.inl (Nat.zero_le _))).mono (by omega) (Nat.le_refl _)
  have a1 : rStringS.at_ 0 q0 w4 (.slice la x1.length lc) x1 := rStringS.at_mono (rStringS.own_at (show rStringS.own W.heap.size q0 w4 _ x1 from oL4)) (Nat.zero_le _) (Nat.le_refl _)
  have a3 : rSampleS.at_ 0 q0 w4 (.slice sv l.length scv) l := rSampleS.at_mono (rSampleS.at_below h2W hb4) (Nat.le_refl _) (by omega)
  have b0 := hbx.cell (j := 0) rfl
  have b1 := hbx.cell (j := 1) rfl
  have hbE4 := hbW.trans (hb4.mono hlW)
  have hq0q : q0 ≤ q := by omega
  have HS4 := hid hw4s
  have hp2q0 : p2 < q0 := by omega
  have hwq0 : w.heap.size ≤ q0 := by omega
  clear hw4 hq hst hoL CO CW m0 m1 n0 n1 q1 q2 hbx hw4s
  go_wp2_with fail
  go_loopw [2, 11] (fun e u wr => ∃ (j : Nat) (y2 : XInt64SS) (L : List Int), j ≤ 20 ∧ e = .int .i64 j ∧ L.length + j ≤ 20 ∧ Own eI 2 (q + 1) wr u L ∧ pcOk (x1, y2) = true ∧ O = trainTo j (x1, y2) L l ∧ NestSt eI 2 40 q0 q (.slice ob x2.length oc) vs y2 wr ∧ Chg q0 q w4 wr) (fun e _ _ => (intOf e).toNat)
  case atStart => exact ⟨T, x2, [], hT20, rfl, by simp; omega, Own.nil _ _ _, hp, HO.out, hst4, Chg.refl _ _ _⟩
  case round =>
    clear hst4
    obtain ⟨j, y2, L, hj, rfl, hjL, hown, hpy, hO, hst, hc⟩ := hrel
    have hs4 := HS4.out
    have hsz := hc.size
    have c0 := chg_cell hc b0 (.inr (Nat.le_refl _))
    have c1 := chg_cell hc b1 (.inr (Nat.le_refl _))
    have bxr := bx4.chg hc (.inl hp2q0)
    have a1r := rStringS.at_chg a1 hc (.inr (Nat.le_refl _))
    have a3r := rSampleS.at_chg a3 hc (.inr (Nat.le_refl _))
    have HYL := hid (pcOk_rows hpy).2.1
    have hbE := below_chg hbE4 hc hwq0
    by_cases h0 : 0 < j
    · obtain ⟨i, rfl⟩ : ∃ i, j = i + 1 := ⟨j - 1, by omega⟩
      have hgt : (0 : Int) < ((i + 1 : Nat) : Int) := by omega
      have CT := trainAll_any (.slice la x1.length lc) (.slice ob x2.length oc) (.slice sv l.length scv) x1 y2 vs l q0 q wr a1r hst a3r hpy HSM.out HKN.out h40 (by omega) (by omega) g1
      have HBE := hid hbE
      have HC := hid hc
      have HOW := hid hown
      clear hst hown hbE hc hs4 a1r a3r
      obtain ⟨J, hJ⟩ : ∃ J : Int, J = ((i + 1 : Nat) : Int) := ⟨_, rfl⟩
      rw [← hJ] at hgt ⊢
      have hdec : IntKind.i64.wrap (J - 1) = (i : Int) := by rw [hJ]; exact (IntWalk.i64_in _ (by omega)).trans (by omega)
      have HJ := hid hJ
      clear hJ
      cases hs : stepAll (x1, y2) 0 l with
      | none =>
        have HN : Hid (O = none) := hid (by rw [hO, trainTo, hs])
        rw [hs] at CT
        clear hO hs
        go_wp2_with fail
        refine (CT.mono fun e w' h => allPost_none h).mono ?_
        rintro e w5 ⟨rfl, hmk⟩
        have bx5 := bxr.chg hmk.1 (.inl hp2q0)
        have f0 := bx5.cell (j := 0) rfl
        have f1 := bx5.cell (j := 1) rfl
        have ff := bx5.free
        have hbE5 := below_chg HBE.out hmk.1 hwq0
        clear hmk
        go_wp2_with fail
        refine bodyPost_ret (v := .tuple #[.agg #[.slice none 0 0, .slice none 0 0], .slice none 0 0, .int .i64 5]) (by simp [results, Tryz.results17, go_sem, f0, f1]) rfl ⟨.agg #[.slice none 0 0, .slice none 0 0], .slice none 0 0, w.heap.size, by rw [HG.out.2.2, HN.out]; rfl, ?_, ?_, Nat.le_refl _, ?_, ?_⟩
        · rw [HG.out.1, HN.out]
          exact nilOwnM _ _ _
        · rw [HG.out.2.1, HN.out]
          exact nilI _ _ _
        · exact ((hbE5.setCell hge2 _).setCell hge2 _).size
        · exact (hbE5.setCell hge2 _).setCell hge2 _
      | some p =>
        obtain ⟨⟨y1, y3⟩, n⟩ := p
        obtain ⟨rfl, hpy3, hn0, hn1'⟩ := stepAll_inv l (x1, y2) 0 _ _ hpy hs
        have HN : Hid (O = if n = 0 then some ((y1, y3), L ++ [n]) else trainTo i (y1, y3) (L ++ [n]) l) := hid (by rw [hO, trainTo, hs])
        rw [hs] at CT
        clear hO hs
        go_wp2_with fail
        refine (CT.mono fun e w' h => allPost_some h).mono ?_
        rintro e w5 ⟨rfl, hst5, hmk⟩
        have own5 := own_nowI HOW.out hmk.1 (by omega)
        have hc5 := HC.out.trans hmk.1
        have hsz5 := hmk.1.size
        clear CT c0 c1 bxr hmk
        go_upto_region 14 with (at_builtin; (refine wpList_appO rfl _ _ 40 rfl (q + 1) 2 _ 8 infoI Tryz.underlying40 rfl _ _ rfl (own5.alloc _) _ [n] rfl (by exact arr_block1 (E := eI) (n := 1) [n] #[.int .i64 n] rfl rfl (by decide) (by simp)) (by unfold maxLen; simp <;> omega) (by simp <;> omega) (by have := HS4.out; simp; omega) ?_; intro u' w6 ho6 hg6 hl6))
        have hc6 := chg_grown (hc5.trans (Chg.of_below (below_alloc _ _))) hg6 (own5.alloc _) (by rw [HS4.out]; omega)
        have hst6 := (hst5.below (below_alloc _ _)).chg (chg_of_grown hg6 (own5.alloc _)) (.inr (by omega))
        have HHC := hid hc6
        have HHS := hid hst6
        have HHO := hid ho6
        cases hn : (n == 0)
        · have HN2 : Hid (O = trainTo i (y1, y3) (L ++ [n]) l) := hid (by rw [HN.out, if_neg (by simpa using hn)])
          clear hc6 hst6 ho6 hg6 hl6 hst5 hc5 own5
          go_wp2_with fail
          go_roundw
          case rel => exact ⟨i, y3, L ++ [n], by omega, by first | rfl | go_num, by simp; omega, HHO.out, hpy3, HN2.out, HHS.out, HHC.out⟩
          case measure => have := HJ.out; simp [intOf]; omega
        · have HN2 : Hid (O = some ((y1, y3), L ++ [n])) := hid (by rw [HN.out, if_pos (by simpa using hn)])
          have c0 := chg_cell hc6 b0 (.inr (Nat.le_refl _))
          have c1 := chg_cell hc6 b1 (.inr (Nat.le_refl _))
          have bx6 := bx4.chg hc6 (.inl hp2q0)
          have f0 := bx6.cell (j := 0) rfl
          have f1 := bx6.cell (j := 1) rfl
          have ff := bx6.free
          have oL6 := oL4.chg hc6 (.inr (Nat.le_refl _))
          have hbE6 := below_chg hbE4 hc6 hwq0
          have hsz6 := hc6.size
          have HS4' := HS4.out
          clear hc6 hg6 hl6 hst5 hc5 own5 bx6
          go_wp2_with fail
          refine bodyPost_ret (v := .tuple #[.agg #[.slice la y1.length lc, .slice ob x2.length oc], u', .int .i64 0]) (by simp [results, Tryz.results17, go_sem, f0, f1]) rfl ⟨.agg #[.slice la y1.length lc, .slice ob x2.length oc], u', q + 1, by rw [HG.out.2.2, HN2.out]; rfl, ?_, ?_, by omega, ?_, ?_⟩
          · rw [HG.out.1, HN2.out]
            exact pcpOwnM (((oL6.chg (chg_set w6 p2 0 _) (.inl (by omega))).chg (chg_set _ p2 1 _) (.inl (by omega))).mono hlW (Nat.le_refl _)) ((hst6.chg (chg_set w6 p2 0 (.slice la y1.length lc)) (.inl (by omega))).chg (chg_set _ p2 1 (.slice ob x2.length oc)) (.inl (by omega))) hwq0 (by omega) (by omega)
          · rw [HG.out.2.1, HN2.out]
            exact (own_nowI (own_nowI ho6 (chg_set w6 p2 0 (.slice la y1.length lc)) (by omega)) (chg_set _ p2 1 (.slice ob x2.length oc)) (by omega)).in_
          · simp; omega
          · exact (hbE6.setCell hge2 _).setCell hge2 _
    · obtain rfl : j = 0 := by omega
      have hgt : ¬ ((0 : Int) < ((0 : Nat) : Int)) := by omega
      have HN : Hid (O = some ((x1, y2), L)) := hid (by rw [hO, trainTo])
      have f0 := bxr.cell (j := 0) rfl
      have f1 := bxr.cell (j := 1) rfl
      have ff := bxr.free
      have oLr := oL4.chg hc (.inr (Nat.le_refl _))
      clear hO bxr
      go_wp2_with fail
      refine bodyPost_ret (v := .tuple #[.agg #[.slice la x1.length lc, .slice ob x2.length oc], u11, .int .i64 0]) (by simp [results, Tryz.results17, go_sem, f0, f1]) rfl ⟨.agg #[.slice la x1.length lc, .slice ob x2.length oc], u11, q + 1, by rw [HG.out.2.2, HN.out]; rfl, ?_, ?_, by omega, ?_, ?_⟩
      · rw [HG.out.1, HN.out]
        exact pcpOwnM (((oLr.chg (chg_set wr p2 0 _) (.inl (by omega))).chg (chg_set _ p2 1 _) (.inl (by omega))).mono hlW (Nat.le_refl _)) ((hst.chg (chg_set wr p2 0 (.slice la x1.length lc)) (.inl (by omega))).chg (chg_set _ p2 1 (.slice ob x2.length oc)) (.inl (by omega))) hwq0 (by omega) (by omega)
      · rw [HG.out.2.1, HN.out]
        exact (own_nowI (own_nowI hown (chg_set wr p2 0 (.slice la x1.length lc)) (by omega)) (chg_set _ p2 1 (.slice ob x2.length oc)) (by omega)).in_
      · simp; omega
      · exact (hbE.setCell hge2 _).setCell hge2 _
theorem pcpAtChg {a b : Nat} {w w' : World} {u v1 v2 : Value} {Y : XPerceptron} {B : Nat} {L : List Int} (h : rPerceptron.at_ a b w (.agg #[v1, v2]) Y) (hg : w.grownBy w' u.ownBlock) (_ : Own eI 2 B w u L) (hd : ∀ g, u.ownBlock = some g → g < a ∨ b ≤ g) (_ : b ≤ w.heap.size) : rPerceptron.at_ a b w' (.agg #[v1, v2]) Y := by
  cases e : u.ownBlock with
  | none =>
    rw [e] at hg
    exact rPerceptron.at_chg h (a := 0) (b := 0) ⟨hg.os, hg.tape, hg.output, hg.size, fun k hk _ => hg.block k hk (by simp)⟩ (.inl (Nat.zero_le _))
  | some g =>
    rw [e] at hg
    exact rPerceptron.at_chg h (a := g) (b := g + 1) ⟨hg.os, hg.tape, hg.output, hg.size, fun k hk hj => hg.block k hk (fun e => by cases e; omega)⟩ (by have := hd g e; omega)
def nxtT (k : Nat) (l : XSampleS) (L : List Int) (o : Option (XPerceptron × Int)) : Option (XPerceptron × List Int) := match o with
  | none => none
  | some p => if p.2 = 0 then some (p.1, L ++ [p.2]) else trainTo k p.1 (L ++ [p.2]) l
theorem trainTo_succ (k : Nat) (x : XPerceptron) (L : List Int) (l : XSampleS) : trainTo (k + 1) x L l = nxtT k l L (stepAll x 0 l) := by
  rw [trainTo]
  unfold nxtT
  cases stepAll x 0 l <;> rfl
set_option maxRecDepth 100000 in
set_option maxHeartbeats 8000000 in
theorem specTrain_any (v1 : Value) (x : XPerceptron) (v2 : Value) (l : XSampleS) (E : Int) (w : World) {lo1 hi1 lo2 hi2 : Nat} (h1 : rPerceptron.at_ lo1 hi1 w v1 x) (h2 : rSampleS.at_ lo2 hi2 w v2 l) (ok1 : okPerceptron x) (ok2 : okSampleS l) (g1 : goodPerceptron x) (g2 : goodSampleS l) :
    Calls Tryz.prog 16 #[v1, v2, .int .i64 E] w (RetAt2 rPerceptron (trX x l E) rInt64S (trL x l E) #[.int .i64 (trC x l E)] w) := by
  obtain ⟨u1, u2, rfl, h3, h4⟩ := h1
  obtain ⟨x1, x2⟩ := x
  obtain ⟨hn1, hn2⟩ := ok1
  unfold goodPerceptron at g1
  simp only at h3 h4 hn1 hn2 g1
  replace h3 := rStringS_arr h3
  replace h4 := rowsI_at h4
  replace h2 := (smps_at h2).at_
  obtain ⟨sv, scv, hv⟩ := shapeSampleS h2
  subst hv
  obtain ⟨W, hW⟩ : ∃ u, u = ((w.alloc (.cells #[u1, u2] 29)).alloc (.cells #[.slice none 0 0, .slice none 0 0] 29)) := ⟨_, rfl⟩
  have hbW : Below w.heap.size w W := by rw [hW]; exact belowA2 _ _ _
  have q1 : Box W (w.heap.size) #[u1, u2] 29 := by
    have hq := Box.new w #[u1, u2] 29
    rw [hW]
    exact (hq.alloc _)
  have q2 : Box W (w.heap.size + 1) #[.slice none 0 0, .slice none 0 0] 29 := by
    have hq := Box.new (w.alloc (.cells #[u1, u2] 29)) #[.slice none 0 0, .slice none 0 0] 29
    simp at hq
    rw [hW]
    exact hq
  obtain ⟨p1, hp1⟩ : ∃ p, p = w.heap.size := ⟨_, rfl⟩
  rw [← hp1] at q1
  have hge1 : w.heap.size ≤ p1 := by omega
  obtain ⟨p2, hp2⟩ : ∃ p, p = w.heap.size + 1 := ⟨_, rfl⟩
  rw [← hp2] at q2
  have hge2 : w.heap.size ≤ p2 := by omega
  have hlW : w.heap.size ≤ W.heap.size := hbW.size
  have hlp1 : p1 < W.heap.size := q1.lt
  have hlp2 : p2 < W.heap.size := q2.lt
  have hne12 : p1 ≠ p2 := by omega
  have HP1 := hid hp1
  have HP2 := hid hp2
  have HW := hid hW
  clear hW hp1 hp2
  have h3W := h3.below hbW
  have h4W := h4.below hbW
  have h2W := rSampleS.at_below h2 hbW
  have m0 := q1.cell (j := 0) rfl
  have m1 := q1.cell (j := 1) rfl
  have CO := l12Code_any p1 u1 u2 (.slice sv l.length scv) (x1, x2) l W m0 m1 h3W h4W (smps_at h2W) ⟨hn1, hn2⟩ g1 (okSl_of ok2) g2
  by_cases hc : trCode (x1, x2) l = 0
  case neg =>
    have HG : Hid (trX (x1, x2) l E = ([], []) ∧ trL (x1, x2) l E = [] ∧ trC (x1, x2) l E = trCode (x1, x2) l) := hid (by simp [trX, trL, trC, hc])
    generalize trCode (x1, x2) l = n at *
    have hc1 : (n == 0) = false := by rw [beq_eq_false_iff_ne]; exact hc
    have hc2 : (n != 0) = true := by rw [bne_iff_ne]; exact hc
    clear hc
    go_enter Tryz.func16, Tryz.ntmps16
    go_upto_region 1 with fail
    rw [← HP2.out, ← HP1.out, ← HW.out]
    go_wp2_with fail
    refine CO.mono ?_
    rintro e w2 ⟨rfl, hb⟩
    have bx2 := q2.later hb
    have f0 := bx2.cell (j := 0) rfl
    have f1 := bx2.cell (j := 1) rfl
    have ff := bx2.free
    have hbE := hbW.trans (hb.mono hlW)
    go_wp2_with fail
    refine bodyPost_ret (v := .tuple #[.agg #[.slice none 0 0, .slice none 0 0], .slice none 0 0, .int .i64 n]) (by simp [results, Tryz.results16, go_sem, f0, f1]) rfl ⟨.agg #[.slice none 0 0, .slice none 0 0], .slice none 0 0, by rw [HG.out.2.2]; rfl, ?_, ?_, ?_⟩
    · rw [HG.out.1]
      exact rPerceptron.own_at (nilOwnM _ _ _)
    · rw [HG.out.2.1]
      exact rInt64S.own_at (nilI _ _ _)
    · exact (hbE.setCell hge2 _).setCell hge2 _
  obtain ⟨hp, hsm, hkn, h40⟩ := trCode_zero hc
  have HP : Hid ((∀ r ∈ x2, rowOk r = true) ∧ x2.length = x1.length ∧ 1 ≤ x1.length ∧ x1.length ≤ 12) := hid (pcOk_rows hp)
  have HSM := hid hsm
  have HKN := hid hkn
  cases hE : inB E 0 20
  · have HG : Hid (trX (x1, x2) l E = ([], []) ∧ trL (x1, x2) l E = [] ∧ trC (x1, x2) l E = 2) := hid (by simp [trX, trL, trC, hc, hE])
    rw [hc] at CO
    have CW := l00In_any E 0 20
    rw [hE] at CW
    clear hc hsm hkn hE
    go_enter Tryz.func16, Tryz.ntmps16
    go_upto_region 1 with fail
    rw [← HP2.out, ← HP1.out, ← HW.out]
    go_wp2_with fail
    refine CO.mono ?_
    rintro e w2 ⟨rfl, hb⟩
    have bx2 := q2.later hb
    have f0 := bx2.cell (j := 0) rfl
    have f1 := bx2.cell (j := 1) rfl
    have ff := bx2.free
    have hbE := hbW.trans (hb.mono hlW)
    go_wp2_with fail
    refine (CW _).mono ?_
    rintro e w3 ⟨rfl, rfl⟩
    go_wp2_with fail
    refine bodyPost_ret (v := .tuple #[.agg #[.slice none 0 0, .slice none 0 0], .slice none 0 0, .int .i64 2]) (by simp [results, Tryz.results16, go_sem, f0, f1]) rfl ⟨.agg #[.slice none 0 0, .slice none 0 0], .slice none 0 0, by rw [HG.out.2.2]; rfl, ?_, ?_, ?_⟩
    · rw [HG.out.1]
      exact rPerceptron.own_at (nilOwnM _ _ _)
    · rw [HG.out.2.1]
      exact rInt64S.own_at (nilI _ _ _)
    · exact (hbE.setCell hge2 _).setCell hge2 _
  have hE2 := hE
  rw [inB_true] at hE2
  obtain ⟨T, hT⟩ : ∃ T : Nat, E = T := ⟨E.toNat, by omega⟩
  subst hT
  have hT20 : T ≤ 20 := by omega
  obtain ⟨O, hO⟩ : ∃ O, O = trainTo T (x1, x2) [] l := ⟨_, rfl⟩
  have HG : Hid (trX (x1, x2) l T = tX O ∧ trL (x1, x2) l T = tL O ∧ trC (x1, x2) l T = tC O) := hid (by simp [trX, trL, trC, hc, hE, hO])
  have HO := hid hO
  rw [hc] at CO
  have CW := l00In_any T 0 20
  rw [hE] at CW
  clear hc hsm hkn hE hE2 hO
  go_enter Tryz.func16, Tryz.ntmps16
  go_upto_region 1 with fail
  rw [← HP2.out, ← HP1.out, ← HW.out]
  go_wp2_with fail
  refine CO.mono ?_
  rintro e w2 ⟨rfl, hb2⟩
  have n0 := cell_later hb2 m0
  have n1 := cell_later hb2 m1
  have hs2 := hb2.size
  go_wp2_with fail
  refine (CW _).mono ?_
  rintro e w2' ⟨rfl, rfl⟩
  go_wp2_with fail
  refine (l12Own_any p1 u1 u2 x1 x2 w2 n0 n1 (h3W.below hb2) (h4W.below hb2) (by have := HP.out.2; omega) (by have := HP.out.2; omega) (fun r hr => by have := rowOk_len (HP.out.1 r hr); omega)).mono ?_
  rintro e w3 ⟨va, vb, vs, q0, rfl, hq0, hoL, hst, hb3⟩
  obtain ⟨la, lc, hva⟩ := hoL.1.isSlice
  subst hva
  obtain ⟨ob, oc, hvb⟩ := hst.outer.1.isSlice
  rw [hst.len] at hvb
  subst hvb
  have hs3 := hb3.size
  have hq3 : q0 ≤ w3.heap.size := by
    obtain ⟨go, capO, _, h5, h6, _⟩ := nestSt_head hst (by have := HP.out.2; omega)
    omega
  have hb23 := hb2.trans (hb3.mono hs2)
  obtain ⟨q, hq⟩ : ∃ q, q = w3.heap.size := ⟨_, rfl⟩
  go_upto_region 7 with fail
  rw [← hq]
  rw [← hq] at hst
  obtain ⟨w4, hw4⟩ : ∃ w4, w4 = w3.alloc (.cells #[.slice la x1.length lc, .slice ob x2.length oc] 29) := ⟨_, rfl⟩
  rw [← hw4]
  have hb4 : Below W.heap.size W w4 := by rw [hw4]; exact hb23.trans ((below_alloc _ _).mono (by omega))
  have hbx : Box w4 q #[.slice la x1.length lc, .slice ob x2.length oc] 29 := by rw [hw4, hq]; exact Box.new _ _ _
  have hw4s : w4.heap.size = q + 1 := by rw [hw4, hq]; simp
  have bx4 := q2.later hb4
  have ho4 : rPerceptron.at_ W.heap.size q w4 (.agg #[.slice la x1.length lc, .slice ob x2.length oc]) (x1, x2) := by
    have hst4 : NestSt eI 2 40 q0 q (.slice ob x2.length oc) vs x2 w4 := by rw [hw4]; exact hst.below (below_alloc _ _)
    have oL4 : OwnIn eStr 9 W.heap.size q0 w4 (.slice la x1.length lc) x1 := by rw [hw4]; exact (hoL.chg (Chg.of_below (a := 0) (b := 0) (below_alloc _ _)) (.inl (Nat.zero_le _))).mono (by omega) (Nat.le_refl _)
    exact rPerceptron.own_at (pcpOwnM oL4 hst4 (by omega) (by omega) (Nat.le_refl _))
  have HS4 := hid hw4s
  have hqW : W.heap.size ≤ q := by omega
  have hbE4 := hbW.trans (hb4.mono hlW)
  have hp2q : p2 < q := by omega
  have a3 := rSampleS.at_below h2W hb4
  have hs4 := hb4.size
  clear hw4 hq hst hoL CO CW m0 m1 n0 n1 q1 q2 hb2 h3W h4W hw4s
  go_wp2_with fail
  go_loopw [11, 12] (fun u i wr => ∃ (k : Nat) (y2 : XInt64SS) (L : List Int) (a1 a2 : Value) (a b : Nat), k ≤ T ∧ i = .int .i64 k ∧ L.length ≤ k ∧ Own eI 2 (q + 1) wr u L ∧ pcOk (x1, y2) = true ∧ O = trainTo (T - k) (x1, y2) L l ∧ Box wr q #[a1, a2] 29 ∧ rPerceptron.at_ a b wr (.agg #[a1, a2]) (x1, y2) ∧ W.heap.size ≤ a ∧ b ≤ wr.heap.size ∧ (q < a ∨ b ≤ q) ∧ (∀ g, u.ownBlock = some g → g < a ∨ b ≤ g) ∧ Below q w4 wr) (fun _ i _ => T - (intOf i).toNat)
  case atStart => exact ⟨0, x2, [], _, _, W.heap.size, q, Nat.zero_le _, rfl, Nat.le_refl _, Own.empty _ _ (by rw [HS4.out]; exact Nat.le_refl _), hp, HO.out, hbx.alloc _, rPerceptron.at_alloc ho4 _, Nat.le_refl _, by have := HS4.out; simp; omega, .inr (Nat.le_refl _), fun g hg => (by have := HS4.out; simp [Value.ownBlock] at hg; right; omega), (Below.refl _ _).alloc (by rw [HS4.out]; omega) _⟩
  case round =>
    clear hbx ho4
    obtain ⟨k, y2, L, a1, a2, a, b, hk, rfl, hkL, hown, hpy, hO, hbx, ho, haW, hbs, hqab, hub, hbl⟩ := hrel
    obtain ⟨sA, sC, hsh⟩ := shapePerceptron ho
    simp at hsh
    obtain ⟨rfl, rfl⟩ := hsh
    have z0 := hbx.cell (j := 0) rfl
    have z1 := hbx.cell (j := 1) rfl
    have hbE := hbE4.trans (hbl.mono (by omega))
    have hqr := hbx.lt
    have hbxr := bx4.below hbl hp2q
    have hsr := hbl.size
    by_cases hlt : k < T
    · have hli : (k : Int) < (T : Int) := by omega
      obtain ⟨hA1, hA2⟩ := pcpArr ho
      have CE := l12Epoch_any _ _ (.slice sv l.length scv) x1 y2 l wr hA1 hA2 ((smps_at h2W).below (hb4.trans (hbl.mono (by omega)))) hpy HSM.out HKN.out h40 g1
      obtain ⟨PO, hPO⟩ : ∃ PO, PO = stepAll (x1, y2) 0 l := ⟨_, rfl⟩
      rw [← hPO] at CE
      have HN : Hid (O = nxtT (T - (k + 1)) l L PO) := hid (by rw [hO, show T - k = (T - (k + 1)) + 1 from by omega, trainTo_succ, ← hPO])
      have HPO := hid hPO
      have HOW := hid hown
      have HUB := hid hub
      have HHB := hid hbx
      have HBL := hid hbl
      have HXR := hid hbxr
      clear hO hPO hown hub hA1 hA2 hbx hbxr hbl
      cases PO with
      | none =>
        simp only [aX, aN, aC] at CE
        simp only [nxtT] at HN
        go_wp2_with fail
        refine CE.mono ?_
        rintro e w5 ⟨vv, rfl, hoE, hb5⟩
        obtain ⟨sb, sd, rfl⟩ := shapePerceptron (rPerceptron.own_at hoE)
        have hbE5 := hbE.trans (hb5.mono hbE.size)
        have bx5 := HXR.out.later hb5
        obtain ⟨pn, hpn⟩ : ∃ pn, pn = w5.heap.size := ⟨_, rfl⟩
        go_upto_region 12 with fail
        rw [← hpn]
        obtain ⟨w6, hw6⟩ : ∃ w6, w6 = w5.alloc (.cells #[.slice sb.1 ([] : XStringS).length sd.1, .slice sb.2 ([] : XInt64SS).length sd.2] 29) := ⟨_, rfl⟩
        have bx6 : Box w6 p2 #[.slice none 0 0, .slice none 0 0] 29 := by rw [hw6]; exact bx5.alloc _
        have hbE6 : Below w.heap.size w w6 := by rw [hw6]; exact hbE5.trans ((below_alloc _ _).mono hbE5.size)
        simp only [List.length_nil] at hw6
        rw [← hw6]
        have f0 := bx6.cell (j := 0) rfl
        have f1 := bx6.cell (j := 1) rfl
        have ff := bx6.free
        clear hw6 hpn
        go_wp2_with fail
        refine bodyPost_ret (v := .tuple #[.agg #[.slice none 0 0, .slice none 0 0], .slice none 0 0, .int .i64 5]) (by simp [results, Tryz.results16, go_sem, f0, f1]) rfl ⟨.agg #[.slice none 0 0, .slice none 0 0], .slice none 0 0, by rw [HG.out.2.2, HN.out]; rfl, ?_, ?_, ?_⟩
        · rw [HG.out.1, HN.out]
          exact rPerceptron.own_at (nilOwnM _ _ _)
        · rw [HG.out.2.1, HN.out]
          exact rInt64S.own_at (nilI _ _ _)
        · exact (hbE6.setCell hge2 _).setCell hge2 _
      | some p =>
        obtain ⟨⟨y1, y3⟩, n⟩ := p
        simp only [aX, aN, aC] at CE
        simp only [nxtT] at HN
        obtain ⟨rfl, hpy3, hn0, hn1'⟩ := stepAll_inv l (x1, y2) 0 _ _ hpy HPO.out.symm
        go_wp2_with fail
        refine CE.mono ?_
        rintro e w5 ⟨vv, rfl, hoE, hb5⟩
        obtain ⟨sb, sd, rfl⟩ := shapePerceptron (rPerceptron.own_at hoE)
        have hs5 := hb5.size
        obtain ⟨pn, hpn⟩ : ∃ pn, pn = w5.heap.size := ⟨_, rfl⟩
        go_upto_region 12 with fail
        rw [← hpn]
        obtain ⟨w6, hw6⟩ : ∃ w6, w6 = w5.alloc (.cells #[.slice sb.1 y1.length sd.1, .slice sb.2 y3.length sd.2] 29) := ⟨_, rfl⟩
        have hb56 : Below w5.heap.size w5 w6 := by rw [hw6]; exact below_alloc _ _
        have hbn : Box w6 pn #[.slice sb.1 y1.length sd.1, .slice sb.2 y3.length sd.2] 29 := by rw [hw6, hpn]; exact Box.new _ _ _
        rw [← hw6]
        have hb6 := hb5.trans (hb56.mono hs5)
        have bq6 := HHB.out.later hb6
        have b0 := hbn.cell (j := 0) rfl
        have b1 := hbn.cell (j := 1) rfl
        have f0 := bq6.cell (j := 0) rfl
        have f1 := bq6.cell (j := 1) rfl
        have ff := bq6.free
        have hs6 := hb6.size
        have hs56 := hb56.size
        clear hw6 hpn CE
        go_upto_region 15 with fail
        obtain ⟨w7, hw7⟩ : ∃ w7, w7 = (w6.setCell ⟨q, 0, none⟩ (.slice sb.1 y1.length sd.1)).setCell ⟨q, 1, none⟩ (.slice sb.2 y3.length sd.2) := ⟨_, rfl⟩
        rw [← hw7]
        have hs7 : w7.heap.size = w6.heap.size := by rw [hw7]; simp
        have own7 : Own eI 2 (q + 1) w7 u11 L := by
          rw [hw7]
          exact own_nowI (own_nowI (own_nowI HOW.out (Chg.of_below (a := 0) (b := 0) hb6) (Nat.zero_le _)) (chg_set w6 q 0 _) (Nat.le_refl _)) (chg_set _ q 1 _) (Nat.le_refl _)
        have bq7 : Box w7 q #[.slice sb.1 y1.length sd.1, .slice sb.2 y3.length sd.2] 29 := by rw [hw7]; simpa using (bq6.set 0 (.slice sb.1 y1.length sd.1)).set 1 (.slice sb.2 y3.length sd.2)
        have bx7 : Box w7 p2 #[.slice none 0 0, .slice none 0 0] 29 := by
          rw [hw7]
          exact ((HXR.out.later hb6).chg (chg_set w6 q 0 _) (.inl hp2q)).chg (chg_set _ q 1 _) (.inl hp2q)
        have at7 : rPerceptron.at_ wr.heap.size w5.heap.size w7 (.agg #[.slice sb.1 y1.length sd.1, .slice sb.2 y3.length sd.2]) (y1, y3) := by
          rw [hw7]
          exact rPerceptron.at_chg (rPerceptron.at_chg (rPerceptron.at_below (rPerceptron.own_at hoE) hb56) (chg_set w6 q 0 _) (.inl (by omega))) (chg_set _ q 1 _) (.inl (by omega))
        have hbl7 : Below q w4 w7 := by
          rw [hw7]
          exact ((HBL.out.trans (hb6.mono (by omega))).setCell (Nat.le_refl _) _).setCell (Nat.le_refl _) _
        have HS7 := hid hs7
        clear hw7 bq6 b0 b1 f0 f1 ff hbn hs7
        go_upto_region 16 with (at_builtin; (refine wpList_appO rfl _ _ 40 rfl (q + 1) 2 _ 8 infoI Tryz.underlying40 rfl _ _ rfl (own7.alloc _) _ [n] rfl (by exact arr_block1 (E := eI) (n := 1) [n] #[.int .i64 n] rfl rfl (by decide) (by simp)) (by unfold maxLen; simp <;> omega) (by simp <;> omega) (by have := HS7.out; simp; omega) ?_; intro u' w8 ho8 hg8 hl8))
        have hs7 := HS7.out
        have hlt7 := fun g (hg : u11.ownBlock = some g) => World.ownsRow.lt HOW.out g hg
        have bq8 := grownBox (bq7.alloc _) hg8 (fun e => by have := (hlt7 _ e.symm).1; omega)
        have bx8 := grownBox (bx7.alloc _) hg8 (fun e => by have := (hlt7 _ e.symm).1; omega)
        have at8 := pcpAtChg (rPerceptron.at_alloc at7 _) hg8 (own7.alloc _) (fun g hg => .inl (hlt7 g hg).2) (by simp; omega)
        have hbl8 : Below q w4 w8 := (hbl7.alloc (by omega) _).grown hg8 (by simp; omega) (fun k hk => by have := (hlt7 k hk).1; omega)
        have hs8 := hg8.size
        have hub8 : ∀ g, u'.ownBlock = some g → g < wr.heap.size ∨ w5.heap.size ≤ g := fun g hg => by
          rcases hl8 with e | e
          · rw [e] at hg; exact .inl (hlt7 g hg).2
          · rw [e] at hg; simp at hg; omega
        have hs85 : w5.heap.size ≤ w8.heap.size := by simp at hs8; omega
        have HHO := hid ho8
        have HBQ := hid bq8
        have HAT := hid at8
        have HB8 := hid hbl8
        have HU8 := hid hub8
        cases hn : (n == 0)
        · have HN2 : Hid (O = trainTo (T - (k + 1)) (y1, y3) (L ++ [n]) l) := hid (by rw [HN.out, if_neg (by simpa using hn)])
          clear hs7 own7 bq7 bx7 at7 hbl7 ho8 hg8 hl8 bq8 bx8 at8 hbl8 hub8 hlt7
          go_wp2_with fail
          go_roundw
          case rel => exact ⟨k + 1, y3, L ++ [n], _, _, wr.heap.size, w5.heap.size, by omega, by go_num, by simp; omega, HHO.out, hpy3, HN2.out, HBQ.out, HAT.out, by omega, hs85, .inl hqr, HU8.out, HB8.out⟩
          case measure => simp [intOf]; omega
        · have HN2 : Hid (O = some ((y1, y3), L ++ [n])) := hid (by rw [HN.out, if_pos (by simpa using hn)])
          have c0 := bq8.cell (j := 0) rfl
          have c1 := bq8.cell (j := 1) rfl
          have f0 := bx8.cell (j := 0) rfl
          have f1 := bx8.cell (j := 1) rfl
          have ff := bx8.free
          have hbE8 := hbE4.trans (hbl8.mono (by omega))
          clear hs7 own7 bq7 bx7 at7 hbl7 ho8 hg8 hl8 bq8 bx8 at8 hbl8 hub8 hlt7
          go_wp2_with fail
          refine bodyPost_ret (v := .tuple #[.agg #[.slice sb.1 y1.length sd.1, .slice sb.2 y3.length sd.2], u', .int .i64 0]) (by simp [results, Tryz.results16, go_sem, f0, f1]) rfl ⟨.agg #[.slice sb.1 y1.length sd.1, .slice sb.2 y3.length sd.2], u', by rw [HG.out.2.2, HN2.out]; rfl, ?_, ?_, ?_⟩
          · rw [HG.out.1, HN2.out]
            exact rPerceptron.at_mono (rPerceptron.at_chg (rPerceptron.at_chg HAT.out (chg_set w8 p2 0 _) (.inl (by omega))) (chg_set _ p2 1 _) (.inl (by omega))) (by omega) (by simp; omega)
          · rw [HG.out.2.1, HN2.out]
            exact rInt64S.at_mono (rInt64S.own_at (own_nowI (own_nowI HHO.out (chg_set w8 p2 0 (.slice sb.1 y1.length sd.1)) (by omega)) (chg_set _ p2 1 (.slice sb.2 y3.length sd.2)) (by omega)).in_) (by omega) (Nat.le_refl _)
          · exact (hbE8.setCell hge2 _).setCell hge2 _
    · obtain rfl : k = T := by omega
      have hli : ¬ ((k : Int) < (k : Int)) := by omega
      have HN : Hid (O = some ((x1, y2), L)) := hid (by rw [hO, Nat.sub_self, trainTo])
      have f0 := hbxr.cell (j := 0) rfl
      have f1 := hbxr.cell (j := 1) rfl
      have ff := hbxr.free
      have HOR := hid ho
      clear hO hbx
      go_wp2_with fail
      refine bodyPost_ret (v := .tuple #[.agg #[.slice sA.1 x1.length sC.1, .slice sA.2 y2.length sC.2], u11, .int .i64 0]) (by simp [results, Tryz.results16, go_sem, f0, f1]) rfl ⟨.agg #[.slice sA.1 x1.length sC.1, .slice sA.2 y2.length sC.2], u11, by rw [HG.out.2.2, HN.out]; rfl, ?_, ?_, ?_⟩
      · rw [HG.out.1, HN.out]
        exact rPerceptron.at_mono (rPerceptron.at_chg (rPerceptron.at_chg HOR.out (chg_set wr p2 0 _) (.inl (by omega))) (chg_set _ p2 1 _) (.inl (by omega))) (by omega) (by simp; omega)
      · rw [HG.out.2.1, HN.out]
        exact rInt64S.at_mono (rInt64S.own_at (own_nowI (own_nowI hown (chg_set wr p2 0 (.slice sA.1 x1.length sC.1)) (by omega)) (chg_set _ p2 1 (.slice sA.2 y2.length sC.2)) (by omega)).in_) (by omega) (Nat.le_refl _)
      · exact (hbE.setCell hge2 _).setCell hge2 _
end Go.Proofs.YtdifhnckhocmdabGreat
