/- The training with all samples in the reference: l12Epoch, TrainEpoch, TrainOne. -/
import Derived.Test.YtdifhnckhocmdaaPcAllI
import Derived.Test.YtdifhnckhocmdaaAppO
namespace Go.Proofs.Ytdifhnckhocmdaa
open Go.RowKit

theorem pcpArr {lo hi : Nat} {w : World} {u1 u2 : Value} {x1 : XStringS} {x2 : XInt64SS} (h : rPerceptron.at_ lo hi w (.agg #[u1, u2]) (x1, x2)) : Arr eStr w u1 x1 ∧ RowsI w u2 x2 := by
  obtain ⟨a, b, e, h1, h2⟩ := h
  simp at e
  obtain ⟨rfl, rfl⟩ := e
  exact ⟨rStringS_arr h1, rowsI_at h2⟩
/-- the box that the next perceptron lies in -/
def NxtBox (lo : Nat) (Y : XPerceptron) (v : Value) (w : World) : Prop := ∃ pb a b, v = .pointer (some ⟨pb, 0, none⟩) ∧ Box w pb #[a, b] 28 ∧ lo ≤ pb ∧ rPerceptron.own lo w.heap.size w (.agg #[a, b]) Y
theorem NxtBox.below {lo : Nat} {Y : XPerceptron} {v : Value} {w w' : World} (h : NxtBox lo Y v w) (hb : Below w.heap.size w w') : NxtBox lo Y v w' := by
  obtain ⟨pb, a, b, h1, h2, h3, h4⟩ := h
  exact ⟨pb, a, b, h1, h2.later hb, h3, rPerceptron.own_now h4 hb⟩
def NewBox (lo : Nat) (v : Value) (w : World) : Prop := ∃ pb, v = .pointer (some ⟨pb, 0, none⟩) ∧ Box w pb #[.slice none 0 0, .slice none 0 0] 28 ∧ lo ≤ pb
theorem NewBox.below {lo : Nat} {v : Value} {w w' : World} (h : NewBox lo v w) (hb : Below w.heap.size w w') : NewBox lo v w' := by
  obtain ⟨pb, h1, h2, h3⟩ := h
  exact ⟨pb, h1, h2.later hb, h3⟩
def Tup (lo : Nat) (Y : XPerceptron) (B : Bool) (C : Int) (v : Value) (w : World) : Prop := ∃ u, v = .tuple #[u, .bool B, .int .i64 C] ∧ rPerceptron.own lo w.heap.size w u Y
theorem Tup.below {lo : Nat} {Y : XPerceptron} {B : Bool} {C : Int} {v : Value} {w w' : World} (h : Tup lo Y B C v w) (hb : Below w.heap.size w w') : Tup lo Y B C v w' := h.imp fun _ h' => ⟨h'.1, rPerceptron.own_now h'.2 hb⟩
def Tup0 (B : Bool) (C : Int) (v : Value) : Prop := ∃ u, v = .tuple #[u, .bool B, .int .i64 C]
theorem Tup.t0 {lo : Nat} {Y : XPerceptron} {B : Bool} {C : Int} {v : Value} {w : World} (h : Tup lo Y B C v w) : Tup0 B C v := h.imp fun _ h' => h'.1
theorem own_put {lo pb : Nat} {Y : XPerceptron} {a b a' b' : Value} {w : World} (hb : Box w pb #[a', b'] 28) (h : rPerceptron.own lo w.heap.size w (.agg #[a, b]) Y) (u1 u2 : Value) :
    rPerceptron.own lo ((w.setCell ⟨pb, 0, none⟩ u1).setCell ⟨pb, 1, none⟩ u2).heap.size ((w.setCell ⟨pb, 0, none⟩ u1).setCell ⟨pb, 1, none⟩ u2) (.agg #[a, b]) Y :=
  rPerceptron.own_mono (rPerceptron.own_set (rPerceptron.own_set h hb (by rfl)) (hb.set 0 u1) (by rfl)) (Nat.le_refl _) (by simp)
set_option maxRecDepth 100000 in
set_option maxHeartbeats 8000000 in
theorem specTrainOne_any (v1 : Value) (x : XPerceptron) (v2 : Value) (s : XSample) (w : World) {lo1 hi1 lo2 hi2 : Nat} (h1 : rPerceptron.at_ lo1 hi1 w v1 x) (h2 : rSample.at_ lo2 hi2 w v2 s) (ok1 : okPerceptron x) (ok2 : okSample s) (g1 : goodPerceptron x) (g2 : goodSample s) :
    Calls Try.prog 40 #[v1, v2] w (RetNew rPerceptron (oneX x s) #[.bool (oneB x s), .int .i64 (oneC x s)] w) := by
  obtain ⟨sA, sC, rfl⟩ := shapePerceptron h1
  obtain ⟨sa, sc, rfl⟩ := shapeSample h2
  obtain ⟨x1, x2⟩ := x
  obtain ⟨W, hW⟩ : ∃ u, u = (((w.alloc (.cells #[.slice sA.1 x1.length sC.1, .slice sA.2 x2.length sC.2] 28)).alloc (.cells #[.string s.1, .slice sa s.2.length sc] 67)).alloc (.cells #[.slice none 0 0, .slice none 0 0] 28)) := ⟨_, rfl⟩
  have hbW : Below w.heap.size w W := by rw [hW]; exact belowA3 _ _ _ _
  have q1 : Box W (w.heap.size) #[.slice sA.1 x1.length sC.1, .slice sA.2 x2.length sC.2] 28 := by
    have hq := Box.new w #[.slice sA.1 x1.length sC.1, .slice sA.2 x2.length sC.2] 28
    rw [hW]
    exact ((hq.alloc _).alloc _)
  have q2 : Box W (w.heap.size + 1) #[.string s.1, .slice sa s.2.length sc] 67 := by
    have hq := Box.new (w.alloc (.cells #[.slice sA.1 x1.length sC.1, .slice sA.2 x2.length sC.2] 28)) #[.string s.1, .slice sa s.2.length sc] 67
    simp at hq
    rw [hW]
    exact (hq.alloc _)
  have q3 : Box W (w.heap.size + 1 + 1) #[.slice none 0 0, .slice none 0 0] 28 := by
    have hq := Box.new ((w.alloc (.cells #[.slice sA.1 x1.length sC.1, .slice sA.2 x2.length sC.2] 28)).alloc (.cells #[.string s.1, .slice sa s.2.length sc] 67)) #[.slice none 0 0, .slice none 0 0] 28
    simp at hq
    rw [hW]
    exact hq
  obtain ⟨p1, hp1⟩ : ∃ p, p = w.heap.size := ⟨_, rfl⟩
  rw [← hp1] at q1
  have hge1 : w.heap.size ≤ p1 := by omega
  obtain ⟨p2, hp2⟩ : ∃ p, p = w.heap.size + 1 := ⟨_, rfl⟩
  rw [← hp2] at q2
  have hge2 : w.heap.size ≤ p2 := by omega
  obtain ⟨p3, hp3⟩ : ∃ p, p = w.heap.size + 1 + 1 := ⟨_, rfl⟩
  rw [← hp3] at q3
  have hge3 : w.heap.size ≤ p3 := by omega
  have hlW : w.heap.size ≤ W.heap.size := hbW.size
  have hlp1 : p1 < W.heap.size := q1.lt
  have hlp2 : p2 < W.heap.size := q2.lt
  have hlp3 : p3 < W.heap.size := q3.lt
  have hne12 : p1 ≠ p2 := by omega
  have hne13 : p1 ≠ p3 := by omega
  have hne23 : p2 ≠ p3 := by omega
  have HP1 := hid hp1
  have HP2 := hid hp2
  have HP3 := hid hp3
  have HW := hid hW
  clear hW hp1 hp2 hp3
  have m10 := q1.cell (j := 0) rfl
  have m11 := q1.cell (j := 1) rfl
  have m20 := q2.cell (j := 0) rfl
  have m21 := q2.cell (j := 1) rfl
  have hA : Arr eFeat W (.slice sa s.2.length sc) s.2 := by
    obtain ⟨u, hu, h⟩ := rSample.at_below h2 (hbW.mono (Nat.le_refl _))
    cases hu
    exact rFeatS_arr h
  have h1W := rPerceptron.at_below h1 hbW
  obtain ⟨hA1, hA2⟩ := pcpArr h1W
  have hB1 : Below W.heap.size W (W.alloc (.cells #[.string s.1, .slice sa s.2.length sc] 67)) := below_alloc _ _
  have CO := l12Code_any p1 _ _ _ (x1, x2) [s] _ (cell_alloc m10 _) (cell_alloc m11 _) (hA1.below hB1) (hA2.below hB1) (smp_one hA) ok1 g1 (okSl_one ok2) (goodSl_one g2)
  by_cases hc : trCode (x1, x2) [s] = 0
  case neg =>
    have HG := hid (one_neg hc)
    generalize trCode (x1, x2) [s] = n at *
    have hc1 : (n == 0) = false := by rw [beq_eq_false_iff_ne]; exact hc
    have hc2 : (n != 0) = true := by rw [bne_iff_ne]; exact hc
    clear hc
    go_enter Try.func40, Try.ntmps40
    go_upto_region 1 with fail
    rw [← HP3.out, ← HP2.out, ← HP1.out, ← HW.out]
    go_wp2_with fail
    refine CO.mono ?_
    rintro e w2 ⟨rfl, hb⟩
    have hb2 := hB1.trans (hb.mono hB1.size)
    have bx2 := q3.later hb2
    have f0 := bx2.cell (j := 0) rfl
    have f1 := bx2.cell (j := 1) rfl
    have ff := bx2.free
    have hbE := hbW.trans (hb2.mono hlW)
    go_wp2_with fail
    refine bodyPost_ret (v := .tuple #[.agg #[.slice none 0 0, .slice none 0 0], .bool false, .int .i64 n]) (by simp [results, Try.results40, go_sem, f0, f1]) rfl ⟨.agg #[.slice none 0 0, .slice none 0 0], by rw [HG.out.2.1, HG.out.2.2]; rfl, ?_, ?_⟩
    · rw [HG.out.1]
      exact nilOwn _ _
    · exact (hbE.setCell hge3 _).setCell hge3 _
  obtain ⟨hp, hsm, hkn, h40⟩ := trCode_zero hc
  have HG := hid (one_pos hc)
  rw [hc] at CO
  clear hc
  rw [HG.out.1, HG.out.2.1, HG.out.2.2]
  clear HG
  go_enter Try.func40, Try.ntmps40
  go_upto_region 1 with fail
  rw [← HP3.out, ← HP2.out, ← HP1.out, ← HW.out]
  go_wp2_with fail
  refine CO.mono ?_
  rintro e w2 ⟨rfl, hb⟩
  have hb2 := hB1.trans (hb.mono hB1.size)
  have n10 := cell_later hb2 m10
  have n11 := cell_later hb2 m11
  have hs2 := hb2.size
  have CE := l12Step_any _ _ x1 x2 s p2 0 sa sc w2 (hA1.below hb2) (hA2.below hb2) (cell_later hb2 m20) (cell_later hb2 m21) (hA.below hb2) hp (hsm s (by simp)) (hkn s (by simp)) g1
  generalize stX (x1, x2) s = Y at *
  generalize stB (x1, x2) s = B at *
  generalize stC (x1, x2) s = C at *
  go_wp2_with fail
  refine CE.mono ?_
  rintro e w3 ⟨vv, rfl, ho, hb3⟩
  obtain ⟨sb, sd, rfl⟩ := shapePerceptron (rPerceptron.own_at ho)
  have hb23 := hb2.trans (hb3.mono hs2)
  have bx3 := q3.later hb23
  have f0 := bx3.cell (j := 0) rfl
  have f1 := bx3.cell (j := 1) rfl
  have ff := bx3.free
  have hbE := hbW.trans (hb23.mono hlW)
  go_wp2_with fail
  refine bodyPost_ret (v := .tuple #[.agg #[.slice sb.1 Y.1.length sd.1, .slice sb.2 Y.2.length sd.2], .bool B, .int .i64 C]) (by simp [results, Try.results40, go_sem, f0, f1]) rfl ⟨.agg #[.slice sb.1 Y.1.length sd.1, .slice sb.2 Y.2.length sd.2], rfl, ?_, ?_⟩
  · exact rPerceptron.own_mono (rPerceptron.own_chg (rPerceptron.own_chg ho (chg_set w3 p3 0 _) (.inl (by omega))) (chg_set _ p3 1 _) (.inl (by omega))) (by omega) (by simp)
  · exact (hbE.setCell hge3 _).setCell hge3 _
end Go.Proofs.Ytdifhnckhocmdaa
