/- InkOfGroup: the implementation's call; what the law needs besides. -/
import Derived.Test.YtdadmphmpojjhaaInkG5
import Derived.Test.YtdadmphmpojjhaaInkHeld
import Derived.Test.YtdadmphmpojjhaaFlGroup
namespace Go.Proofs.Ytdadmphmpojjhaa
open Go.RowKit

theorem okInk_iog {X : XInk} (f t : Int) (ok : okInk X) : okInk (iogX X f t) := by
  unfold iogX
  split
  · exact okInk_inkG ok
  · simp [okInk, totI, sumOf]
set_option maxRecDepth 100000 in
set_option maxHeartbeats 4000000 in
theorem implIog_any (v : Value) (x : XInk) (f t : Int) (w : World) {lo hi : Nat} (h : rInk.at_ lo hi w v x) (ok : okInk x) :
    Calls Try.prog 8 #[v, .agg #[.int .i64 f, .int .i64 t]] w (RetNew rInk (iogX x f t) #[.int .i64 (iogC x f t)] w) := by
  obtain ⟨u, rfl, h⟩ := h
  replace h := strokes_at h
  obtain ⟨sa, sc, rfl⟩ : ∃ sa sc, u = .slice sa x.length sc := by obtain ⟨_, _, ao, cap, _, rfl, _⟩ := h.slice; exact ⟨_, _, rfl⟩
  obtain ⟨W, hW⟩ : ∃ u, u = (((w.alloc (.cells #[.slice sa x.length sc] 30)).alloc (.cells #[.int .i64 f, .int .i64 t] 34)).alloc (.cells #[.slice none 0 0] 30)) := ⟨_, rfl⟩
  have hbW : Below w.heap.size w W := by rw [hW]; exact belowA3 _ _ _ _
  have q1 : Box W (w.heap.size) #[.slice sa x.length sc] 30 := by
    have hq := Box.new w #[.slice sa x.length sc] 30
    rw [hW]
    exact ((hq.alloc _).alloc _)
  have q2 : Box W (w.heap.size + 1) #[.int .i64 f, .int .i64 t] 34 := by
    have hq := Box.new (w.alloc (.cells #[.slice sa x.length sc] 30)) #[.int .i64 f, .int .i64 t] 34
    simp at hq
    rw [hW]
    exact (hq.alloc _)
  have q3 : Box W (w.heap.size + 1 + 1) #[.slice none 0 0] 30 := by
    have hq := Box.new ((w.alloc (.cells #[.slice sa x.length sc] 30)).alloc (.cells #[.int .i64 f, .int .i64 t] 34)) #[.slice none 0 0] 30
    simp at hq
    rw [hW]
    exact hq
  obtain ⟨p1, hp1⟩ : ∃ p, p = w.heap.size := ⟨_, rfl⟩
  rw [← hp1] at q1
  have hge1 : w.heap.size ≤ p1 := by omega
  obtain ⟨p2, hp2⟩ : ∃ p, p = w.heap.size + 1 := ⟨_, rfl⟩
  rw [← hp2] at q2
  have hge2 : w.heap.size ≤ p2 := by omega
  obtain ⟨p3, hp3⟩ : ∃ p, p = w.heap.size + 1 + 1 := ⟨_, rfl⟩
  rw [← hp3] at q3
  have hge3 : w.heap.size ≤ p3 := by omega
  have hlW : w.heap.size ≤ W.heap.size := hbW.size
  have hlp1 : p1 < W.heap.size := q1.lt
  have hlp2 : p2 < W.heap.size := q2.lt
  have hlp3 : p3 < W.heap.size := q3.lt
  have hne12 : p1 ≠ p2 := by omega
  have hne13 : p1 ≠ p3 := by omega
  have hne23 : p2 ≠ p3 := by omega
  have HP1 := hid hp1
  have HP2 := hid hp2
  have HP3 := hid hp3
  have HW := hid hW
  clear hW hp1 hp2 hp3
  have hS := h.below hbW
  have m0 := q1.cell (j := 0) rfl
  have g0 := q2.cell (j := 0) rfl
  have g1 := q2.cell (j := 1) rfl
  have CV := implValidInk_any (.slice sa x.length sc) x W hS ok
  have bad : ∀ (w' : World) (c : Int), Hid (iogX x f t = [] ∧ iogC x f t = c) → Below w.heap.size w w' → RetNew rInk (iogX x f t) #[.int .i64 (iogC x f t)] w (.returned (.tuple #[.agg #[.slice none 0 0], .int .i64 c])) w' := fun w' c hz hb => by
    rw [hz.out.1, hz.out.2]
    exact ⟨_, rfl, rInkG_new (nestG_emp _) (Nat.le_refl _), hb⟩
  cases hv : validInk x
  · rw [hv] at CV
    have HG := hid (show iogX x f t = [] ∧ iogC x f t = 1 by simp [iogX, iogC, hv])
    go_enter Try.func8, Try.ntmps8
    go_upto_region 1 with fail
    rw [← HP3.out, ← HP2.out, ← HP1.out, ← HW.out]
    go_wp2_with fail
    refine CV.mono ?_
    rintro e w2 ⟨rfl, hb2⟩
    have bx := q3.later hb2
    have b0 := bx.cell (j := 0) rfl
    have bf := bx.free
    go_wp2_with fail
    refine bodyPost_ret (v := .tuple #[.agg #[.slice none 0 0], .int .i64 1]) (by simp [results, Try.results8, go_sem, b0]) rfl (bad _ _ HG ?_)
    exact (hbW.trans (hb2.mono hlW)).setCell hge3 _
  rw [hv] at CV
  cases hg : grpIn x f t
  · have HG := hid (show iogX x f t = [] ∧ iogC x f t = 2 by simp [iogX, iogC, hv, hg])
    have CG := fun w' => isGroup_any (.slice sa x.length sc) x f t w' sa sc rfl
    rw [hg] at CG
    clear hg
    go_enter Try.func8, Try.ntmps8
    go_upto_region 1 with fail
    rw [← HP3.out, ← HP2.out, ← HP1.out, ← HW.out]
    go_wp2_with fail
    refine CV.mono ?_
    rintro e w2 ⟨rfl, hb2⟩
    have bx := q3.later hb2
    have n0 := cell_later hb2 m0
    have k0 := cell_later hb2 g0
    have k1 := cell_later hb2 g1
    clear CV
    go_wp2_with fail
    refine (CG _).mono ?_
    rintro e w3 ⟨rfl, hb3⟩
    have bx3 := bx.later hb3
    have b0 := bx3.cell (j := 0) rfl
    have bf := bx3.free
    go_wp2_with fail
    refine bodyPost_ret (v := .tuple #[.agg #[.slice none 0 0], .int .i64 2]) (by simp [results, Try.results8, go_sem, b0]) rfl (bad _ _ HG ?_)
    exact ((hbW.trans (hb2.mono hlW)).trans (hb3.mono (by have := hb2.size; omega))).setCell hge3 _
  · have hin : 0 ≤ f ∧ f < t ∧ t ≤ (x.length : Int) := by unfold grpIn at hg; simp at hg; omega
    have CG := fun w' => isGroup_any (.slice sa x.length sc) x f t w' sa sc rfl
    rw [hg] at CG
    obtain ⟨F, rfl⟩ : ∃ F : Nat, f = F := ⟨f.toNat, by omega⟩
    obtain ⟨T, rfl⟩ : ∃ T : Nat, t = T := ⟨t.toNat, by omega⟩
    have HG := hid (show iogX x F T = inkG x F T ∧ iogC x F T = 0 by simp [iogX, iogC, hv, hg])
    have n1 : F < T := by omega
    have n2 : T ≤ x.length := by omega
    have HV := hid hv
    clear hg hin hv
    go_enter Try.func8, Try.ntmps8
    go_upto_region 1 with fail
    rw [← HP3.out, ← HP2.out, ← HP1.out, ← HW.out]
    go_wp2_with fail
    refine CV.mono ?_
    rintro e w2 ⟨rfl, hb2⟩
    have bx := q3.later hb2
    have n0 := cell_later hb2 m0
    have k0 := cell_later hb2 g0
    have k1 := cell_later hb2 g1
    clear CV
    go_wp2_with fail
    refine (CG _).mono ?_
    rintro e w3 ⟨rfl, hb3⟩
    have hb23 := hb2.trans (hb3.mono hb2.size)
    have bx3 := bx.later hb3
    have l0 := cell_later hb3 n0
    have j0 := cell_later hb3 k0
    have j1 := cell_later hb3 k1
    have CI := implInk_any (.slice sa x.length sc) x F T w3 (hS.below hb23) ok HV.out n1 n2
    have hbE3 := hbW.trans (hb23.mono hlW)
    clear CG
    go_wp2_with fail
    refine CI.mono ?_
    rintro e w4 ⟨uo, vs, rfl, hn4, hb4⟩
    obtain ⟨oa, oc, huo⟩ := hn4.outer.1.isSlice
    subst huo
    have bx4 := bx3.later hb4
    have b0 := bx4.cell (j := 0) rfl
    have bf := bx4.free
    have hp3 := bx3.lt
    clear CI
    go_wp2_with fail
    refine bodyPost_ret (v := .tuple #[.agg #[.slice oa vs.length oc], .int .i64 0]) (by simp [results, Try.results8, go_sem, b0]) rfl ?_
    rw [HG.out.1, HG.out.2]
    refine ⟨_, rfl, ⟨_, rfl, ?_⟩, ?_⟩
    · have h1 := nestG_chg hn4 (chg_set w4 p3 0 (.slice oa vs.length oc)) (.inl (by omega))
      have h2 := nestG_mono h1 hbE3.size (Nat.le_refl _)
      exact NestSt.own (by simpa using h2)
    · exact (hbE3.trans (hb4.mono hbE3.size)).setCell hge3 _
def iogXG (X : XInk) (g : DGroup) : XInk := iogX X g.frm g.to_
def iogCG (X : XInk) (g : DGroup) : Int := iogC X g.frm g.to_
theorem okInk_iogG {X : XInk} {g : DGroup} (ok : okInk X) : okInk (iogXG X g) := okInk_iog _ _ ok
theorem specInkOfGroup_any (v : Value) (x : XInk) (g : DGroup) (w : World) {lo hi : Nat} (h : rInk.at_ lo hi w v x) (ok : okInk x) (_ : goodInk x) :
    Calls Try.prog 5 #[v, .agg #[.int .i64 g.frm, .int .i64 g.to_]] w (RetNew rInk (iogXG x g) #[.int .i64 (iogCG x g)] w) := specIog_any v x g.frm g.to_ w h ok
theorem implInkOfGroup_any (v : Value) (x : XInk) (g : DGroup) (w : World) {lo hi : Nat} (h : rInk.at_ lo hi w v x) (ok : okInk x) (_ : goodInk x) :
    Calls Try.prog 8 #[v, .agg #[.int .i64 g.frm, .int .i64 g.to_]] w (RetNew rInk (iogXG x g) #[.int .i64 (iogCG x g)] w) := implIog_any v x g.frm g.to_ w h ok
section
open Go.ChangeShapes Go.WideShapes Go.ChangeAt Go.Deep
set_option maxRecDepth 100000 in
theorem openPGroup {H : Type} {enc : TypeId × Value → H} {W : World} {base : Nat} {spare : Nat → Bool} {held : Bool} {v : Value} {d : DataW H} {ps : List MemPlace} {b0 : Nat} {r : Reach}
    (hv : Value.okWide Try.prog W r b0 26 v) (h : DataW.Trod enc Try.prog W base spare held 26 v d ps) : ∃ x : DGroup, v = .agg #[.int .i64 x.frm, .int .i64 x.to_] ∧ goodGroup x := by
  obtain ⟨cs, rfl, _⟩ := okWide_struct Try.underlying26 hv
  obtain ⟨x, hx, hg⟩ := decGroup W _ (rd_of_trod h)
  obtain ⟨l⟩ := cs
  simp only [Value.cells] at hx
  subst hx
  exact ⟨x, rfl, hg⟩
end
end Go.Proofs.Ytdadmphmpojjhaa
