/- InkOfGroup: the reference's call. -/
import Derived.Test.YtdadmphmpojjhaaInkG3
namespace Go.Proofs.Ytdadmphmpojjhaa
open Go.RowKit

def grpIn (X : XInk) (f t : Int) : Bool := decide (0 ≤ f) && decide (f < t) && decide (t ≤ (X.length : Int))
def iogX (X : XInk) (f t : Int) : XInk := if validInk X && grpIn X f t then inkG X f.toNat t.toNat else []
def iogC (X : XInk) (f t : Int) : Int := if validInk X then (if grpIn X f t then 0 else 2) else 1
set_option maxRecDepth 100000 in
set_option maxHeartbeats 4000000 in
theorem isGroup_any (u : Value) (X : XInk) (f t : Int) (w : World) (sa : Option Addr) (sc : Nat) (hu : u = .slice sa X.length sc) : Calls Try.prog 17 #[.agg #[u], .agg #[.int .i64 f, .int .i64 t]] w (Ret (.bool (grpIn X f t)) w) := by
  subst hu
  have hb := (below_alloc w (.cells #[.slice sa X.length sc] 30)).trans ((below_alloc (w.alloc (.cells #[.slice sa X.length sc] 30)) (.cells #[.int .i64 f, .int .i64 t] 34)).mono (by simp))
  by_cases h1 : 0 ≤ f
  · by_cases h2 : f < t
    · by_cases h3 : t ≤ (X.length : Int)
      all_goals
        have HG := hid (show grpIn X f t = decide (t ≤ (X.length : Int)) by simp [grpIn, h1, h2])
        go_enter Try.func17, Try.ntmps17
        go_wp2_with fail
        go_ret
        exact ⟨by rw [HG.out]; simp [h3], hb⟩
    · have HG := hid (show grpIn X f t = false by simp [grpIn, h1, h2])
      go_enter Try.func17, Try.ntmps17
      go_wp2_with fail
      go_ret
      exact ⟨by rw [HG.out]; simp, hb⟩
  · have HG := hid (show grpIn X f t = false by simp [grpIn, h1])
    go_enter Try.func17, Try.ntmps17
    go_wp2_with fail
    go_ret
    exact ⟨by rw [HG.out]; simp, hb⟩
theorem rInkG_new {w w' : World} {lo : Nat} {uo : Value} {vs : List SV} {X : XInk} (h : NestG lo w'.heap.size uo vs X w') (hl : w.heap.size ≤ lo) : rInk.own w.heap.size w'.heap.size w' (.agg #[uo]) X := ⟨_, rfl, (nestG_mono h hl (Nat.le_refl _)).own⟩
set_option maxRecDepth 100000 in
set_option maxHeartbeats 4000000 in
theorem specIog_any (v : Value) (x : XInk) (f t : Int) (w : World) {lo hi : Nat} (h : rInk.at_ lo hi w v x) (ok : okInk x) :
    Calls Try.prog 5 #[v, .agg #[.int .i64 f, .int .i64 t]] w (RetNew rInk (iogX x f t) #[.int .i64 (iogC x f t)] w) := by
  obtain ⟨u, rfl, h⟩ := h
  replace h := strokes_at h
  obtain ⟨sa, sc, rfl⟩ : ∃ sa sc, u = .slice sa x.length sc := by obtain ⟨_, _, ao, cap, _, rfl, _⟩ := h.slice; exact ⟨_, _, rfl⟩
  obtain ⟨W, hW⟩ : ∃ u, u = (((w.alloc (.cells #[.slice sa x.length sc] 30)).alloc (.cells #[.int .i64 f, .int .i64 t] 34)).alloc (.cells #[.slice none 0 0] 30)) := ⟨_, rfl⟩
  have hbW : Below w.heap.size w W := by rw [hW]; exact belowA3 _ _ _ _
  have q1 : Box W (w.heap.size) #[.slice sa x.length sc] 30 := by
    have hq := Box.new w #[.slice sa x.length sc] 30
    rw [hW]
    exact ((hq.alloc _).alloc _)
  have q2 : Box W (w.heap.size + 1) #[.int .i64 f, .int .i64 t] 34 := by
    have hq := Box.new (w.alloc (.cells #[.slice sa x.length sc] 30)) #[.int .i64 f, .int .i64 t] 34
    simp at hq
    rw [hW]
    exact (hq.alloc _)
  have q3 : Box W (w.heap.size + 1 + 1) #[.slice none 0 0] 30 := by
    have hq := Box.new ((w.alloc (.cells #[.slice sa x.length sc] 30)).alloc (.cells #[.int .i64 f, .int .i64 t] 34)) #[.slice none 0 0] 30
    simp at hq
    rw [hW]
    exact hq
  obtain ⟨p1, hp1⟩ : ∃ p, p = w.heap.size := ⟨_, rfl⟩
  rw [← hp1] at q1
  have hge1 : w.heap.size ≤ p1 := by omega
  obtain ⟨p2, hp2⟩ : ∃ p, p = w.heap.size + 1 := ⟨_, rfl⟩
  rw [← hp2] at q2
  have hge2 : w.heap.size ≤ p2 := by omega
  obtain ⟨p3, hp3⟩ : ∃ p, p = w.heap.size + 1 + 1 := ⟨_, rfl⟩
  rw [← hp3] at q3
  have hge3 : w.heap.size ≤ p3 := by omega
  have hlW : w.heap.size ≤ W.heap.size := hbW.size
  have hlp1 : p1 < W.heap.size := q1.lt
  have hlp2 : p2 < W.heap.size := q2.lt
  have hlp3 : p3 < W.heap.size := q3.lt
  have hne12 : p1 ≠ p2 := by omega
  have hne13 : p1 ≠ p3 := by omega
  have hne23 : p2 ≠ p3 := by omega
  have HP1 := hid hp1
  have HP2 := hid hp2
  have HP3 := hid hp3
  have HW := hid hW
  clear hW hp1 hp2 hp3
  have hS := h.below hbW
  have m0 := q1.cell (j := 0) rfl
  have g0 := q2.cell (j := 0) rfl
  have g1 := q2.cell (j := 1) rfl
  have CV := l02Ok_any p1 0 _ x W m0 hS ok
  have bad : ∀ (w' : World) (c : Int), Hid (iogX x f t = [] ∧ iogC x f t = c) → Below w.heap.size w w' → RetNew rInk (iogX x f t) #[.int .i64 (iogC x f t)] w (.returned (.tuple #[.agg #[.slice none 0 0], .int .i64 c])) w' := fun w' c hz hb => by
    rw [hz.out.1, hz.out.2]
    exact ⟨_, rfl, rInkG_new (nestG_emp _) (Nat.le_refl _), hb⟩
  cases hv : validInk x
  · rw [hv] at CV
    have HG := hid (show iogX x f t = [] ∧ iogC x f t = 1 by simp [iogX, iogC, hv])
    go_enter Try.func5, Try.ntmps5
    go_upto_region 1 with fail
    rw [← HP3.out, ← HP2.out, ← HP1.out, ← HW.out]
    go_wp2_with fail
    refine CV.mono ?_
    rintro e w2 ⟨rfl, hb2⟩
    have bx := q3.later hb2
    have b0 := bx.cell (j := 0) rfl
    have bf := bx.free
    go_wp2_with fail
    refine bodyPost_ret (v := .tuple #[.agg #[.slice none 0 0], .int .i64 1]) (by simp [results, Try.results5, go_sem, b0]) rfl (bad _ _ HG ?_)
    exact (hbW.trans (hb2.mono hlW)).setCell hge3 _
  rw [hv] at CV
  cases hg : grpIn x f t
  · have HG := hid (show iogX x f t = [] ∧ iogC x f t = 2 by simp [iogX, iogC, hv, hg])
    have hno : f < 0 ∨ t ≤ f ∨ (x.length : Int) < t := by
      unfold grpIn at hg
      simp at hg
      omega
    clear hg
    go_enter Try.func5, Try.ntmps5
    go_upto_region 1 with fail
    rw [← HP3.out, ← HP2.out, ← HP1.out, ← HW.out]
    go_wp2_with fail
    refine CV.mono ?_
    rintro e w2 ⟨rfl, hb2⟩
    have bx := q3.later hb2
    have b0 := bx.cell (j := 0) rfl
    have bf := bx.free
    have n0 := cell_later hb2 m0
    have k0 := cell_later hb2 g0
    have k1 := cell_later hb2 g1
    go_wp2_with fail
    all_goals first | (exfalso; omega) | skip
    all_goals
      refine bodyPost_ret (v := .tuple #[.agg #[.slice none 0 0], .int .i64 2]) (by simp [results, Try.results5, go_sem, b0]) rfl (bad _ _ HG ?_)
      exact (hbW.trans (hb2.mono hlW)).setCell hge3 _
  · have hin : 0 ≤ f ∧ f < t ∧ t ≤ (x.length : Int) := by unfold grpIn at hg; simp at hg; omega
    obtain ⟨F, rfl⟩ : ∃ F : Nat, f = F := ⟨f.toNat, by omega⟩
    obtain ⟨T, rfl⟩ : ∃ T : Nat, t = T := ⟨t.toNat, by omega⟩
    have HG := hid (show iogX x F T = inkG x F T ∧ iogC x F T = 0 by simp [iogX, iogC, hv, hg])
    have i1 : ¬ ((F : Int) < 0) := by omega
    have i2 : ¬ ((T : Int) ≤ (F : Int)) := by omega
    have i3 : ¬ ((x.length : Int) < (T : Int)) := by omega
    have n1 : F < T := by omega
    have n2 : T ≤ x.length := by omega
    have HV := hid hv
    clear hg hin hv
    go_enter Try.func5, Try.ntmps5
    go_upto_region 1 with fail
    rw [← HP3.out, ← HP2.out, ← HP1.out, ← HW.out]
    go_wp2_with fail
    refine CV.mono ?_
    rintro e w2 ⟨rfl, hb2⟩
    have n0 := cell_later hb2 m0
    have k0 := cell_later hb2 g0
    have k1 := cell_later hb2 g1
    have CI := l14Ink_any p1 0 _ x F T w2 n0 (hS.below hb2) ok HV.out n1 n2
    have bx2 := q3.later hb2
    have hbE2 := hbW.trans (hb2.mono hlW)
    have hp3 := bx2.lt
    clear CV
    go_wp2_with fail
    all_goals first | (exfalso; omega) | skip
    refine CI.mono ?_
    rintro e w3 ⟨uo, vs, rfl, hn3, hb3⟩
    obtain ⟨oa, oc, huo⟩ := hn3.outer.1.isSlice
    subst huo
    have bx3 := bx2.later hb3
    have b0 := bx3.cell (j := 0) rfl
    have bf := bx3.free
    clear CI
    go_wp2_with fail
    refine bodyPost_ret (v := .tuple #[.agg #[.slice oa vs.length oc], .int .i64 0]) (by simp [results, Try.results5, go_sem, b0]) rfl ?_
    rw [HG.out.1, HG.out.2]
    refine ⟨_, rfl, ⟨_, rfl, ?_⟩, ?_⟩
    · have h1 := nestG_chg hn3 (chg_set w3 p3 0 (.slice oa vs.length oc)) (.inl (by omega))
      have h2 := nestG_mono h1 hbE2.size (Nat.le_refl _)
      exact NestSt.own (by simpa using h2)
    · exact (hbE2.trans (hb3.mono hbE2.size)).setCell hge3 _
end Go.Proofs.Ytdadmphmpojjhaa
