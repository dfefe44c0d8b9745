/- What a sort by parts keeps. Plain lemmas, no program. -/
import Derived.Test.YtdadmphmpojjhaaSrtPl
namespace Go.Proofs.Ytdadmphmpojjhaa

/-- all pairs that do not lie within a..b are in order -/
def FrameO (A B a b : Nat) (d : List Int) : Prop := ∀ p q, A ≤ p → p < q → q < B → (p < a ∨ b ≤ q) → gI d p ≤ gI d q
theorem FrameO.start (A B : Nat) (d : List Int) : FrameO A B A B d := fun p q h1 h2 h3 h4 => by omega
theorem FrameO.pon {A B a b : Nat} {d d' : List Int} (h : FrameO A B a b d) (k : POn a b d d') (hA : A ≤ a) (hB : b ≤ B) : FrameO A B a b d' := by
  intro p q h1 h2 h3 h4
  by_cases hp : p < a
  · rw [k.out p (.inl hp)]
    by_cases hq : a ≤ q ∧ q < b
    · exact k.all (fun x => gI d p ≤ x) (fun i i1 i2 => h p i h1 (by omega) (by omega) (.inl hp)) q hq.1 hq.2
    · rw [k.out q (by omega)]; exact h p q h1 h2 h3 h4
  · have hq : b ≤ q := by omega
    rw [k.out q (.inr hq)]
    by_cases hp2 : p < b
    · exact k.all (fun x => x ≤ gI d q) (fun i i1 i2 => h i q (by omega) (by omega) h3 (.inr hq)) p (by omega) hp2
    · rw [k.out p (.inr (by omega))]; exact h p q h1 h2 h3 h4
theorem FrameO.done {A B a b : Nat} {d : List Int} (h : FrameO A B a b d) (hs : SortOn a b d) : SortOn A B d := by
  intro p q h1 h2 h3
  by_cases hin : a ≤ p ∧ q < b
  · exact hs p q hin.1 h2 hin.2
  · exact h p q h1 h2 h3 (by omega)
theorem FrameO.left {A B a b m : Nat} {d : List Int} (h : FrameO A B a b d) (hp : Part a b m d) (hs : SortOn a m d) (_ : a ≤ m) (_ : m < b) : FrameO A B (m + 1) b d := by
  intro p q k1 k2 k3 k4
  by_cases hin : a ≤ p ∧ q < b
  · by_cases e : q < m
    · exact hs p q hin.1 k2 e
    · by_cases e2 : p = m
      · rw [e2]; exact hp.2 q (by omega) hin.2
      · have h5 := hp.1 p hin.1 (by omega)
        by_cases e3 : q = m
        · rw [e3]; exact h5
        · exact Int.le_trans h5 (hp.2 q (by omega) hin.2)
  · exact h p q k1 k2 k3 (by omega)
theorem FrameO.right {A B a b m : Nat} {d : List Int} (h : FrameO A B a b d) (hp : Part a b m d) (hs : SortOn (m + 1) b d) (_ : a ≤ m) (_ : m < b) : FrameO A B a m d := by
  intro p q k1 k2 k3 k4
  by_cases hin : a ≤ p ∧ q < b
  · by_cases e : m < p
    · exact hs p q (by omega) k2 hin.2
    · by_cases e2 : p = m
      · rw [e2]; exact hp.2 q (by omega) hin.2
      · have h5 := hp.1 p hin.1 (by omega)
        by_cases e3 : q = m
        · rw [e3]; exact h5
        · exact Int.le_trans h5 (hp.2 q (by omega) hin.2)
  · exact h p q k1 k2 k3 (by omega)
theorem Part.ponL {a b m : Nat} {d d' : List Int} (h : Part a b m d) (k : POn a m d d') : Part a b m d' := by
  refine ⟨fun p p1 p2 => ?_, fun q q1 q2 => ?_⟩
  · rw [k.out m (.inr (Nat.le_refl _))]
    exact k.all (fun x => x ≤ gI d m) (fun i i1 i2 => h.1 i i1 i2) p p1 p2
  · rw [k.out m (.inr (Nat.le_refl _)), k.out q (.inr (by omega))]
    exact h.2 q q1 q2
theorem Part.ponR {a b m : Nat} {d d' : List Int} (h : Part a b m d) (k : POn (m + 1) b d d') : Part a b m d' := by
  refine ⟨fun p p1 p2 => ?_, fun q q1 q2 => ?_⟩
  · rw [k.out m (.inl (by omega)), k.out p (.inl (by omega))]
    exact h.1 p p1 p2
  · rw [k.out m (.inl (by omega))]
    exact k.all (fun x => gI d m ≤ x) (fun i i1 i2 => h.2 i (by omega) i2) q (by omega) q2
/-- what stands ahead is no greater -/
def LBo (a b : Nat) (d : List Int) : Prop := 0 < a → ∀ k, a ≤ k → k < b → gI d (a - 1) ≤ gI d k
theorem LBo.pon {a b : Nat} {d d' : List Int} (h : LBo a b d) (k : POn a b d d') : LBo a b d' := fun h0 i i1 i2 => by
  rw [k.out (a - 1) (.inl (by omega))]
  exact k.all (fun x => gI d (a - 1) ≤ x) (fun j j1 j2 => h h0 j j1 j2) i i1 i2
theorem LBo.short {a b c : Nat} {d : List Int} (h : LBo a b d) (hc : c ≤ b) : LBo a c d := fun h0 k k1 k2 => h h0 k k1 (by omega)
theorem LBo.part {a b m : Nat} {d : List Int} (h : Part a b m d) : LBo (m + 1) b d := fun _ k k1 k2 => by
  rw [Nat.add_sub_cancel]
  exact h.2 k (by omega) k2
theorem nodup_lt {d : List Int} (h : d.Nodup) {i j : Nat} (hi : i < d.length) (hj : j < d.length) (hne : i ≠ j) (hl : gI d i ≤ gI d j) : gI d i < gI d j := by
  have e : gI d i ≠ gI d j := fun e => by
    have h1 := gI_some hi
    have h2 := gI_some hj
    rw [← e] at h2
    exact hne ((List.getElem?_inj hi h).1 (h1.trans h2.symm))
  omega
theorem POn.nodup {a b : Nat} {d d' : List Int} (h : POn a b d d') (hd : d.Nodup) : d'.Nodup := h.perm.nodup_iff.2 hd
/-- the state of the sort's loop -/
structure PdqSt (g o a b : Nat) (d0 : List Int) (w0 : World) (x y : Nat) (d : List Int) (w : World) : Prop where
  ax : a ≤ x
  xy : x ≤ y
  yb : y ≤ b
  hold : HoldI w g o d
  pon : POn a b d0 d
  fr : Fr g w0 w
  frm : FrameO a b x y d
  lb : LBo x y d
theorem PdqSt.turn {g o a b x y : Nat} {d0 d d' : List Int} {w0 w w' : World} (h : PdqSt g o a b d0 w0 x y d w) (hH : HoldI w' g o d') (hP : POn x y d d') (hF : Fr g w w') : PdqSt g o a b d0 w0 x y d' w' :=
  ⟨h.ax, h.xy, h.yb, hH, h.pon.trans (hP.wide h.ax h.yb), h.fr.trans hF, h.frm.pon hP h.ax h.yb, h.lb.pon hP⟩
theorem PdqSt.drewN {g o a b x y : Nat} {d0 d : List Int} {w0 w : World} (h : PdqSt g o a b d0 w0 x y d w) (n : Nat) : PdqSt g o a b d0 w0 x y d (w.drewN n) :=
  ⟨h.ax, h.xy, h.yb, h.hold.drewN n, h.pon, h.fr.drewN n, h.frm, h.lb⟩
end Go.Proofs.Ytdadmphmpojjhaa
