/- The training with all samples in the program: trainAll, TrainEpoch, TrainOne. -/
import Derived.Test.YtdifhnckhocmdabGreatPcStep
import Derived.Test.YtdifhnckhocmdabGreatPcMis2
namespace Go.Proofs.YtdifhnckhocmdabGreat
open Go.RowKit

theorem drop_cons {l : XSampleS} {k : Nat} {s : XSample} (h : l[k]? = some s) : l.drop k = s :: l.drop (k + 1) := by
  obtain ⟨hk, e⟩ := List.getElem?_eq_some_iff.1 h
  rw [List.drop_eq_getElem_cons hk, e]
theorem stepAll_drop {x : XPerceptron} {n : Int} {l : XSampleS} {k : Nat} {s : XSample} (h : l[k]? = some s) :
    stepAll x n (l.drop k) = if pcOk (stepX x s) then stepAll (stepX x s) (if hitB x s then n else n + 1) (l.drop (k + 1)) else none := by
  rw [drop_cons h, stepAll]
theorem stepAll_end (x : XPerceptron) (n : Int) (l : XSampleS) : stepAll x n (l.drop l.length) = some (x, n) := by
  rw [List.drop_length, stepAll]
theorem stepX_25 {x : XPerceptron} {s : XSample} (hp : pcOk x = true) (hkn : known x s = true) : ∀ r ∈ (stepX x s).2, r.length = 25 := by
  have hr := pcOk_rows hp
  have h25 : ∀ r ∈ x.2, r.length = 25 := fun r h => rowOk_len (hr.1 r h)
  unfold stepX
  split
  · exact h25
  · obtain ⟨t, ht⟩ := cls_lab (y := s.2) hp
    have hb := (List.getElem?_eq_some_iff.1 ht).1
    obtain ⟨a, ha⟩ : ∃ a, labIx x.1 s.1 = some a := Option.isSome_iff_exists.1 hkn
    have hal := (List.findIdx?_eq_some_iff_getElem.1 ha).1
    have hra : rightI x s = a := by simp [rightI, ha]
    exact rowsTo_25 _ (by rw [hra, hr.2.1]; exact hal) (by rw [hr.2.1]; exact hb) h25
theorem okStep {x : XPerceptron} {s : XSample} (hp : pcOk x = true) (hkn : known x s = true) : okPerceptron (stepX x s) := by
  have hr := pcOk_rows hp
  exact ⟨by show (stepX x s).1.length ≤ 1048576; rw [stepX_lab]; omega, okRows25 (stepX_25 hp hkn) (by rw [stepX_len]; omega)⟩
def AllPost (o : Option (XPerceptron × Int)) (lo hi : Nat) (u2 : Value) (vs : List SV) (w : World) (e : Ending) (w' : World) : Prop :=
  e = .returned (.tuple #[.int .i64 (aN o), .int .i64 (aC o)]) ∧ (∀ y n, o = some (y, n) → NestSt eI 2 40 lo hi u2 vs y.2 w') ∧ Mk tyW lo hi w w'
theorem allPost_none {lo hi : Nat} {u2 : Value} {vs : List SV} {w : World} {e : Ending} {w' : World} (h : AllPost none lo hi u2 vs w e w') : e = .returned (.tuple #[.int .i64 0, .int .i64 5]) ∧ Mk tyW lo hi w w' := ⟨h.1, h.2.2⟩
theorem allPost_some {y : XPerceptron} {n : Int} {lo hi : Nat} {u2 : Value} {vs : List SV} {w : World} {e : Ending} {w' : World} (h : AllPost (some (y, n)) lo hi u2 vs w e w') : e = .returned (.tuple #[.int .i64 n, .int .i64 0]) ∧ NestSt eI 2 40 lo hi u2 vs y.2 w' ∧ Mk tyW lo hi w w' :=
  ⟨h.1, h.2.1 y n rfl, h.2.2⟩
theorem pcpAt {lo hi : Nat} {u1 u2 : Value} {vs : List SV} {x1 : XStringS} {Y : XInt64SS} {w : World} (h1 : rStringS.at_ 0 lo w u1 x1) (h2 : NestSt eI 2 40 lo hi u2 vs Y w) (hlo : lo ≤ w.heap.size) (hhi : hi ≤ w.heap.size) : rPerceptron.at_ 0 w.heap.size w (.agg #[u1, u2]) (x1, Y) :=
  ⟨u1, u2, rfl, rStringS.at_mono h1 (Nat.le_refl _) hlo, rInt64SS.at_mono (rInt64SS.own_at h2.own) (Nat.zero_le _) hhi⟩

set_option maxRecDepth 100000 in
set_option maxHeartbeats 8000000 in
theorem trainAll_any (u1 u2 v : Value) (x1 : XStringS) (x2 : XInt64SS) (vs : List SV) (l : XSampleS) (lo hi : Nat) (w : World) (h1 : rStringS.at_ 0 lo w u1 x1) (h2 : NestSt eI 2 40 lo hi u2 vs x2 w) (h3 : rSampleS.at_ 0 lo w v l)
    (hp : pcOk (x1, x2) = true) (hs : ∀ s ∈ l, smpOk s = true) (hkn : ∀ s ∈ l, known (x1, x2) s = true) (h40 : l.length ≤ 40) (hlo : lo ≤ w.heap.size) (hhi : hi ≤ w.heap.size) (g : goodStringS x1) :
    Calls Tryz.prog 31 #[.agg #[u1, u2], v] w (AllPost (stepAll (x1, x2) 0 l) lo hi u2 vs w) := by
  obtain ⟨O, hO⟩ : ∃ O, O = stepAll (x1, x2) 0 l := ⟨_, rfl⟩
  rw [← hO]
  have HO := hid hO
  have HSO := hid hs
  have HKN := hid hkn
  clear hO hs hkn
  obtain ⟨b, off, ao, cap, es, rfl, hnc, hcm, hao, hcl, hul, hin⟩ := (smps_at h3).slice
  unfold maxLen at hcm
  clear hcl hul hin
  obtain ⟨W, hW⟩ : ∃ u, u = (w.alloc (.cells #[u1, u2] 29)) := ⟨_, rfl⟩
  have hbW : Below w.heap.size w W := by rw [hW]; exact belowA1 _ _
  have q1 : Box W (w.heap.size) #[u1, u2] 29 := by
    have hq := Box.new w #[u1, u2] 29
    rw [hW]
    exact hq
  obtain ⟨p1, hp1⟩ : ∃ p, p = w.heap.size := ⟨_, rfl⟩
  rw [← hp1] at q1
  have hge1 : w.heap.size ≤ p1 := by omega
  have hlW : w.heap.size ≤ W.heap.size := hbW.size
  have hlp1 : p1 < W.heap.size := q1.lt
  have HP1 := hid hp1
  have HW := hid hW
  clear hW hp1
  have h1W := rStringS.at_below h1 hbW
  have h2W := h2.below hbW
  have h3W := rSampleS.at_below h3 hbW
  have m0 := q1.cell (j := 0) rfl
  have m1 := q1.cell (j := 1) rfl
  clear h1 h2 h3 q1
  go_enter Tryz.func31, Tryz.ntmps31
  go_wp2_with fail
  rw [← HP1.out, ← HW.out]
  go_wp2_with fail
  go_loopw [6, 11] (fun n i wr => ∃ (k : Nat) (m : Int) (y2 : XInt64SS), k ≤ l.length ∧ i = .int .i64 k ∧ n = .int .i64 m ∧ 0 ≤ m ∧ m ≤ k ∧ pcOk (x1, y2) = true ∧ O = stepAll (x1, y2) m (l.drop k) ∧ NestSt eI 2 40 lo hi u2 vs y2 wr ∧ Mk tyW lo hi W wr) (fun _ i _ => l.length - (intOf i).toNat)
  case atStart => exact ⟨0, 0, x2, Nat.zero_le _, rfl, rfl, by omega, by omega, hp, HO.out, h2W, Mk.refl _ _ _ _⟩
  case round =>
    clear h2W
    obtain ⟨k, m, y2, hk, rfl, rfl, hm0, hm1, hpy, hO, hst, hmk⟩ := hrel
    have hc := hmk.1
    have hsz := hc.size
    have n0 := chg_cell hc m0 (.inr (by omega))
    have n1 := chg_cell hc m1 (.inr (by omega))
    have h1r := rStringS.at_chg h1W hc (.inr (Nat.le_refl _))
    have h3r := rSampleS.at_chg h3W hc (.inr (Nat.le_refl _))
    by_cases hlt : k < l.length
    · have hli : (k : Int) < (l.length : Int) := by omega
      obtain ⟨hao', hbw⟩ := hao (by omega)
      subst hao'
      obtain ⟨s, he⟩ : ∃ s, l[k]? = some s := ⟨_, List.getElem?_eq_getElem hlt⟩
      have hso := HSO.out s (List.mem_of_getElem? he)
      have hkn := HKN.out s (List.mem_of_getElem? he)
      obtain ⟨b2, off2, cap2, sa, sc, hsl, _, _, c0, c1, hA⟩ := (smps_at h3r).get he
      simp only [Value.slice.injEq, Option.some.injEq, Addr.mk.injEq] at hsl
      obtain ⟨⟨rfl, rfl, _⟩, _, rfl⟩ := hsl
      obtain ⟨Y, hY⟩ : ∃ Y, stepX (x1, y2) s = (x1, Y) := ⟨(stepX (x1, y2) s).2, Prod.ext (stepX_lab _ _) rfl⟩
      have hD := stepAll_drop (x := (x1, y2)) (n := m) he
      rw [← hO, hY] at hD
      have okY := okStep hpy hkn
      rw [hY] at okY
      have HD := hid hD
      have HMK := hid hmk
      have HST := hid hst
      clear hD hO he
      go_upto_region 5 with fail
      obtain ⟨pb, hpb⟩ : ∃ pb, pb = wr.heap.size := ⟨_, rfl⟩
      obtain ⟨wb, hwb⟩ : ∃ wb, wb = wr.alloc (.cells #[.string s.1, .slice sa s.2.length sc] 58) := ⟨_, rfl⟩
      rw [← hwb, ← hpb]
      have hbb : Below wr.heap.size wr wb := by rw [hwb]; exact below_alloc _ _
      have z0 : wb.cell? ⟨pb, 0, none⟩ = some (.string s.1) := by rw [hwb, hpb]; simp
      have z1 : wb.cell? ⟨pb, 1, none⟩ = some (.slice sa s.2.length sc) := by rw [hwb, hpb]; simp
      have n0b := cell_later hbb n0
      have n1b := cell_later hbb n1
      have hbbs := hbb.size
      have h1b := rStringS.at_below h1r hbb
      have CT := train_any u1 u2 x1 y2 vs s sa sc lo hi wb (rStringS_arr h1b) (hst.below hbb) (hA.below hbb) hpy hso hkn (by omega)
      rw [hY] at CT
      have HY := hid hY
      have HB := hid hbb
      clear hst hmk hwb hpb n0 n1 c0 c1 hA hY h3r h1r hc hbb
      cases hit : hitB (x1, y2) s
      · rw [hit] at CT HD
        go_wp2_with fail
        refine CT.mono ?_
        rintro e w5 ⟨rfl, hst5, hmk5⟩
        have hc5 := hmk5.1
        have hs5 := hc5.size
        have k0 := chg_cell hc5 n0b (.inr (by omega))
        have k1 := chg_cell hc5 n1b (.inr (by omega))
        have h15 := rStringS.at_chg h1b hc5 (.inr (Nat.le_refl _))
        have CV := implValidPerceptron_any (.agg #[u1, u2]) (x1, Y) w5 (pcpAt h15 hst5 (by omega) (by omega)) okY g
        have HST5 := hid hst5
        have HMK5 := hid (((HMK.out.trans (Mk.of_below HB.out)).trans hmk5))
        clear CT hst5 hmk5 hc5 h15 n0b n1b z0 z1 h1b
        cases hpc : pcOk (x1, Y)
        · rw [hpc] at CV
          have HN : Hid (O = none) := hid (by rw [HD.out, hpc]; rfl)
          go_wp2_with fail
          refine CV.mono ?_
          rintro e w6 ⟨rfl, hb6⟩
          go_wp2_with fail
          go_ret2
          refine ⟨by rw [HN.out]; rfl, fun y n e => (by rw [HN.out] at e; cases e), ?_⟩
          exact ((Mk.of_below hbW).trans HMK5.out).trans (Mk.of_below hb6)
        · rw [hpc] at CV
          have HN : Hid (O = stepAll (x1, Y) (m + 1) (l.drop (k + 1))) := hid (by rw [HD.out, hpc]; rfl)
          have hwrp : IntKind.i64.wrap (m + 1) = m + 1 := IntWalk.i64_in _ (by omega)
          go_wp2_with fail
          refine CV.mono ?_
          rintro e w6 ⟨rfl, hb6⟩
          go_wp2_with fail
          go_roundw
          case rel => exact ⟨k + 1, m + 1, Y, by omega, by go_num, by go_num, by omega, by omega, hpc, HN.out, HST5.out.below hb6, HMK5.out.trans (Mk.of_below hb6)⟩
          case measure => simp [intOf]; omega
      · rw [hit] at CT HD
        go_wp2_with fail
        refine CT.mono ?_
        rintro e w5 ⟨rfl, hst5, hmk5⟩
        have hc5 := hmk5.1
        have hs5 := hc5.size
        have k0 := chg_cell hc5 n0b (.inr (by omega))
        have k1 := chg_cell hc5 n1b (.inr (by omega))
        have h15 := rStringS.at_chg h1b hc5 (.inr (Nat.le_refl _))
        have CV := implValidPerceptron_any (.agg #[u1, u2]) (x1, Y) w5 (pcpAt h15 hst5 (by omega) (by omega)) okY g
        have HST5 := hid hst5
        have HMK5 := hid (((HMK.out.trans (Mk.of_below HB.out)).trans hmk5))
        clear CT hst5 hmk5 hc5 h15 n0b n1b z0 z1 h1b
        cases hpc : pcOk (x1, Y)
        · rw [hpc] at CV
          have HN : Hid (O = none) := hid (by rw [HD.out, hpc]; rfl)
          go_wp2_with fail
          refine CV.mono ?_
          rintro e w6 ⟨rfl, hb6⟩
          go_wp2_with fail
          go_ret2
          refine ⟨by rw [HN.out]; rfl, fun y n e => (by rw [HN.out] at e; cases e), ?_⟩
          exact ((Mk.of_below hbW).trans HMK5.out).trans (Mk.of_below hb6)
        · rw [hpc] at CV
          have HN : Hid (O = stepAll (x1, Y) m (l.drop (k + 1))) := hid (by rw [HD.out, hpc]; rfl)
          go_wp2_with fail
          refine CV.mono ?_
          rintro e w6 ⟨rfl, hb6⟩
          go_wp2_with fail
          go_roundw
          case rel => exact ⟨k + 1, m, Y, by omega, by go_num, rfl, by omega, by omega, hpc, HN.out, HST5.out.below hb6, HMK5.out.trans (Mk.of_below hb6)⟩
          case measure => simp [intOf]; omega
    · obtain rfl : k = l.length := by omega
      have hli : ¬ ((l.length : Int) < (l.length : Int)) := by omega
      rw [stepAll_end] at hO
      have HN := hid hO
      clear hO
      go_wp2_with fail
      go_ret2
      refine ⟨by rw [HN.out]; rfl, fun y n e => ?_, (Mk.of_below hbW).trans hmk⟩
      rw [HN.out] at e
      cases e
      exact hst
set_option maxRecDepth 100000 in
set_option maxHeartbeats 8000000 in
theorem trainEpoch_any (v1 : Value) (x : XPerceptron) (v2 : Value) (l : XSampleS) (w : World) {lo1 hi1 lo2 hi2 : Nat} (h1 : rPerceptron.at_ lo1 hi1 w v1 x) (h2 : rSampleS.at_ lo2 hi2 w v2 l) (ok1 : okPerceptron x) (ok2 : okSl l) (g1 : goodPerceptron x) (g2 : goodSampleS l) :
    Calls Tryz.prog 10 #[v1, v2] w (RetNew rPerceptron (epX x l) #[.int .i64 (epN x l), .int .i64 (epC x l)] w) := by
  obtain ⟨u1, u2, rfl, h3, h4⟩ := h1
  obtain ⟨x1, x2⟩ := x
  obtain ⟨hn1, hn2⟩ := ok1
  unfold goodPerceptron at g1
  simp only at h3 h4 hn1 hn2 g1
  replace h3 := rStringS_arr h3
  replace h4 := rowsI_at h4
  replace h2 := (smps_at h2).at_
  obtain ⟨sv, scv, hv⟩ := shapeSampleS h2
  subst hv
  obtain ⟨W, hW⟩ : ∃ u, u = ((w.alloc (.cells #[u1, u2] 29)).alloc (.cells #[.slice none 0 0, .slice none 0 0] 29)) := ⟨_, rfl⟩
  have hbW : Below w.heap.size w W := by rw [hW]; exact belowA2 _ _ _
  have q1 : Box W (w.heap.size) #[u1, u2] 29 := by
    have hq := Box.new w #[u1, u2] 29
    rw [hW]
    exact (hq.alloc _)
  have q2 : Box W (w.heap.size + 1) #[.slice none 0 0, .slice none 0 0] 29 := by
    have hq := Box.new (w.alloc (.cells #[u1, u2] 29)) #[.slice none 0 0, .slice none 0 0] 29
    simp at hq
    rw [hW]
    exact hq
  obtain ⟨p1, hp1⟩ : ∃ p, p = w.heap.size := ⟨_, rfl⟩
  rw [← hp1] at q1
  have hge1 : w.heap.size ≤ p1 := by omega
  obtain ⟨p2, hp2⟩ : ∃ p, p = w.heap.size + 1 := ⟨_, rfl⟩
  rw [← hp2] at q2
  have hge2 : w.heap.size ≤ p2 := by omega
  have hlW : w.heap.size ≤ W.heap.size := hbW.size
  have hlp1 : p1 < W.heap.size := q1.lt
  have hlp2 : p2 < W.heap.size := q2.lt
  have hne12 : p1 ≠ p2 := by omega
  have HP1 := hid hp1
  have HP2 := hid hp2
  have HW := hid hW
  clear hW hp1 hp2
  have h3W := h3.below hbW
  have h4W := h4.below hbW
  have h2W := rSampleS.at_below h2 hbW
  have m0 := q1.cell (j := 0) rfl
  have m1 := q1.cell (j := 1) rfl
  have CO := trainable_any u1 u2 (.slice sv l.length scv) (x1, x2) l W h3W h4W (smps_at h2W) ⟨hn1, hn2⟩ g1 ok2 g2
  by_cases hc : trCode (x1, x2) l = 0
  case neg =>
    have HG : Hid (epX (x1, x2) l = ([], []) ∧ epN (x1, x2) l = 0 ∧ epC (x1, x2) l = trCode (x1, x2) l) := hid (by simp [epX, epN, epC, hc])
    generalize trCode (x1, x2) l = n at *
    have hc1 : (n == 0) = false := by rw [beq_eq_false_iff_ne]; exact hc
    have hc2 : (n != 0) = true := by rw [bne_iff_ne]; exact hc
    clear hc
    go_enter Tryz.func10, Tryz.ntmps10
    go_upto_region 1 with fail
    rw [← HP2.out, ← HP1.out, ← HW.out]
    go_wp2_with fail
    refine CO.mono ?_
    rintro e w2 ⟨rfl, hb⟩
    have bx2 := q2.later hb
    have f0 := bx2.cell (j := 0) rfl
    have f1 := bx2.cell (j := 1) rfl
    have ff := bx2.free
    have hbE := hbW.trans (hb.mono hlW)
    go_wp2_with fail
    refine bodyPost_ret (v := .tuple #[.agg #[.slice none 0 0, .slice none 0 0], .int .i64 0, .int .i64 n]) (by simp [results, Tryz.results10, go_sem, f0, f1]) rfl ⟨.agg #[.slice none 0 0, .slice none 0 0], by rw [HG.out.2.1, HG.out.2.2]; rfl, ?_, ?_⟩
    · rw [HG.out.1]
      exact nilOwn _ _
    · exact (hbE.setCell hge2 _).setCell hge2 _
  obtain ⟨hp, hsm, hkn, h40⟩ := trCode_zero hc
  have HG : Hid (epX (x1, x2) l = aX (stepAll (x1, x2) 0 l) ∧ epN (x1, x2) l = aN (stepAll (x1, x2) 0 l) ∧ epC (x1, x2) l = aC (stepAll (x1, x2) 0 l)) := hid (by simp [epX, epN, epC, hc])
  rw [hc] at CO
  have HP : Hid ((∀ r ∈ x2, rowOk r = true) ∧ x2.length = x1.length ∧ 1 ≤ x1.length ∧ x1.length ≤ 12) := hid (pcOk_rows hp)
  have HSM := hid hsm
  have HKN := hid hkn
  clear hc hsm hkn
  go_enter Tryz.func10, Tryz.ntmps10
  go_upto_region 1 with fail
  rw [← HP2.out, ← HP1.out, ← HW.out]
  go_wp2_with fail
  refine CO.mono ?_
  rintro e w2 ⟨rfl, hb2⟩
  have n0 := cell_later hb2 m0
  have n1 := cell_later hb2 m1
  have hs2 := hb2.size
  go_wp2_with fail
  refine (copyPerceptron_any u1 u2 x1 x2 w2 (h3W.below hb2) (h4W.below hb2) (by have := HP.out.2; omega) (by have := HP.out.2; omega) (fun r hr => by have := rowOk_len (HP.out.1 r hr); omega)).mono ?_
  rintro e w3 ⟨va, vb, vs, q0, rfl, hq0, hoL, hst, hb3⟩
  obtain ⟨la, lc, hva⟩ := hoL.1.isSlice
  subst hva
  obtain ⟨ob, oc, hvb⟩ := hst.outer.1.isSlice
  rw [hst.len] at hvb
  subst hvb
  have hs3 := hb3.size
  have hq3 : q0 ≤ w3.heap.size := by
    obtain ⟨go, capO, _, h5, h6, _⟩ := nestSt_head hst (by have := HP.out.2; omega)
    omega
  have hb23 := hb2.trans (hb3.mono hs2)
  obtain ⟨q, hq⟩ : ∃ q, q = w3.heap.size := ⟨_, rfl⟩
  go_upto_region 5 with fail
  rw [← hq]
  rw [← hq] at hst
  obtain ⟨w4, hw4⟩ : ∃ w4, w4 = w3.alloc (.cells #[.slice la x1.length lc, .slice ob x2.length oc] 29) := ⟨_, rfl⟩
  rw [← hw4]
  have hb4 : Below W.heap.size W w4 := by rw [hw4]; exact hb23.trans ((below_alloc _ _).mono (by omega))
  have hbx : Box w4 q #[.slice la x1.length lc, .slice ob x2.length oc] 29 := by rw [hw4, hq]; exact Box.new _ _ _
  have bx4 := q2.later hb4
  have hst4 : NestSt eI 2 40 q0 q (.slice ob x2.length oc) vs x2 w4 := by rw [hw4]; exact hst.below (below_alloc _ _)
  have oL4 : OwnIn eStr 9 W.heap.size q0 w4 (.slice la x1.length lc) x1 := by rw [hw4]; exact (hoL.chg (Chg.of_below (a := 0) (b := 0) (below_alloc _ _)) (.inl (Nat.zero_le _))).mono (by omega) (Nat.le_refl _)
  have a1 : rStringS.at_ 0 q0 w4 (.slice la x1.length lc) x1 := rStringS.at_mono (rStringS.own_at (show rStringS.own W.heap.size q0 w4 _ x1 from oL4)) (Nat.zero_le _) (Nat.le_refl _)
  have a3 : rSampleS.at_ 0 q0 w4 (.slice sv l.length scv) l := rSampleS.at_mono (rSampleS.at_below h2W hb4) (Nat.le_refl _) (by omega)
  have b0 := hbx.cell (j := 0) rfl
  have b1 := hbx.cell (j := 1) rfl
  have hlt4 := hbx.lt
  have hbE4 := hbW.trans (hb4.mono hlW)
  have CT := trainAll_any (.slice la x1.length lc) (.slice ob x2.length oc) (.slice sv l.length scv) x1 x2 vs l q0 q w4 a1 hst4 a3 hp HSM.out HKN.out h40 (by omega) (by omega) g1
  have hq0q : q0 ≤ q := by omega
  clear hw4 hq hst hoL CO m0 m1 n0 n1 q1 q2 hbx
  cases hs : stepAll (x1, x2) 0 l with
  | none =>
    rw [hs] at CT HG
    go_wp2_with fail
    refine (CT.mono fun e w' h => allPost_none h).mono ?_
    rintro e w5 ⟨rfl, hmk⟩
    have bx5 := bx4.chg hmk.1 (.inl (by omega))
    have f0 := bx5.cell (j := 0) rfl
    have f1 := bx5.cell (j := 1) rfl
    have ff := bx5.free
    have hbE := below_chg hbE4 hmk.1 (by omega)
    go_wp2_with fail
    refine bodyPost_ret (v := .tuple #[.agg #[.slice none 0 0, .slice none 0 0], .int .i64 0, .int .i64 5]) (by simp [results, Tryz.results10, go_sem, f0, f1]) rfl ⟨.agg #[.slice none 0 0, .slice none 0 0], by rw [HG.out.2.1, HG.out.2.2]; rfl, ?_, ?_⟩
    · rw [HG.out.1]
      exact nilOwn _ _
    · exact (hbE.setCell hge2 _).setCell hge2 _
  | some p =>
    obtain ⟨⟨y1, y2⟩, n⟩ := p
    have hinv := stepAll_inv l (x1, x2) 0 _ _ hp hs
    rw [hs] at CT HG
    obtain ⟨rfl, hpy, hn0, hn1'⟩ := hinv
    have hyl : y2.length = x2.length := by rw [(pcOk_rows hpy).2.1, HP.out.2.1]
    go_wp2_with fail
    refine (CT.mono fun e w' h => allPost_some h).mono ?_
    rintro e w5 ⟨rfl, hst5, hmk⟩
    have bx5 := bx4.chg hmk.1 (.inl (by omega))
    have f0 := bx5.cell (j := 0) rfl
    have f1 := bx5.cell (j := 1) rfl
    have ff := bx5.free
    have c0 := chg_cell hmk.1 b0 (.inr (Nat.le_refl _))
    have c1 := chg_cell hmk.1 b1 (.inr (Nat.le_refl _))
    have hbE := below_chg hbE4 hmk.1 (by omega)
    have oL5 := oL4.chg hmk.1 (.inr (Nat.le_refl _))
    have hs5 := hmk.1.size
    go_wp2_with fail
    refine bodyPost_ret (v := .tuple #[.agg #[.slice la y1.length lc, .slice ob x2.length oc], .int .i64 n, .int .i64 0]) (by simp [results, Tryz.results10, go_sem, f0, f1]) rfl ⟨.agg #[.slice la y1.length lc, .slice ob x2.length oc], by rw [HG.out.2.1, HG.out.2.2]; rfl, ?_, ?_⟩
    · rw [HG.out.1]
      exact pcpOwn (((oL5.chg (chg_set w5 p2 0 _) (.inl (by omega))).chg (chg_set _ p2 1 _) (.inl (by omega))).mono hlW (Nat.le_refl _)) ((hst5.chg (chg_set w5 p2 0 (.slice la y1.length lc)) (.inl (by omega))).chg (chg_set _ p2 1 (.slice ob x2.length oc)) (.inl (by omega))) (by omega) (by simp; omega) (by simp; omega)
    · exact (hbE.setCell hge2 _).setCell hge2 _
theorem implTrainEpoch_any (v1 : Value) (x : XPerceptron) (v2 : Value) (l : XSampleS) (w : World) {lo1 hi1 lo2 hi2 : Nat} (h1 : rPerceptron.at_ lo1 hi1 w v1 x) (h2 : rSampleS.at_ lo2 hi2 w v2 l) (ok1 : okPerceptron x) (ok2 : okSampleS l) (g1 : goodPerceptron x) (g2 : goodSampleS l) :
    Calls Tryz.prog 10 #[v1, v2] w (RetNew rPerceptron (epX x l) #[.int .i64 (epN x l), .int .i64 (epC x l)] w) := trainEpoch_any v1 x v2 l w h1 h2 ok1 (okSl_of ok2) g1 g2
end Go.Proofs.YtdifhnckhocmdabGreat
