/- A lattice read from its text: the reference's call. -/
import Derived.Test.YtbgjojnjbplblaaGreatDoorRtLatR
namespace Go.Proofs.YtbgjojnjbplblaaGreatDoor
open Go.RowKit

theorem rLtR_new {w w' : World} {B : Nat} {n : Int} {u : Value} {x : List DEdge} (h : Own eEdge 46 B w' u x) (hB : w.heap.size ≤ B) : rLattice.own w.heap.size w'.heap.size w' (.agg #[.int .i64 n, u]) (n, x) :=
  ⟨u, rfl, (h.mono hB).in_⟩
theorem readLt_short {s : ByteArray} (h : (splL 10 s.data.toList).length < 2) : readLt s = none := by
  cases hl : linesL s.data.toList with
  | none => exact readLt_no hl
  | some L =>
    cases L with
    | nil => exact readLt_nil hl
    | cons a P =>
      have := (linesL_some hl).1
      rw [this, List.length_append, List.length_cons] at h
      simp only [List.length_cons, List.length_nil] at h
      omega
def FinLt (s : ByteArray) (w : World) : Prop := ∀ (w' : World) (n : Int) (u : Value) (z : List DEdge) (c : Bool), Hid (rdLt s = (n, z) ∧ rdLtB s = c) → Own eEdge 46 w.heap.size w' u z → Below w.heap.size w w' → RetNew rLattice (rdLt s) #[.bool (rdLtB s)] w (.returned (.tuple #[.agg #[.int .i64 n, u], .bool c])) w'
theorem finLt (s : ByteArray) (w : World) : FinLt s w := by
  intro w' n u z c hz ho hb
  rw [hz.out.1, hz.out.2]
  exact ⟨_, rfl, rLtR_new ho (Nat.le_refl _), hb⟩
set_option maxRecDepth 100000 in
set_option maxHeartbeats 8000000 in
theorem specReadLattice_any (s : ByteArray) (w : World) (hs : s.size ≤ 1048576) (_ : TabR w) : Calls Tryz.prog 5 #[.string s] w (RetNew rLattice (rdLt s) #[.bool (rdLtB s)] w) := by
  obtain ⟨W, hW⟩ : ∃ u, u = (w.alloc (.cells #[.int .i64 0, .slice none 0 0] 24)) := ⟨_, rfl⟩
  have hbW : Below w.heap.size w W := by rw [hW]; exact belowA1 _ _
  have q1 : Box W (w.heap.size) #[.int .i64 0, .slice none 0 0] 24 := by
    have hq := Box.new w #[.int .i64 0, .slice none 0 0] 24
    rw [hW]
    exact hq
  obtain ⟨p1, hp1⟩ : ∃ p, p = w.heap.size := ⟨_, rfl⟩
  rw [← hp1] at q1
  have hge1 : w.heap.size ≤ p1 := by omega
  have hlW : w.heap.size ≤ W.heap.size := hbW.size
  have hlp1 : p1 < W.heap.size := q1.lt
  have HP1 := hid hp1
  have HW := hid hW
  clear hW hp1
  have finish := finLt s w
  have CS := l01Split_any s 10 W hs
  obtain ⟨hn1, hn2⟩ := splB_len 10 s
  obtain ⟨Q, hQ⟩ : ∃ Q, Q = splL 10 s.data.toList := ⟨_, rfl⟩
  have hQl : (ofS Q).length = Q.length := ofS_len Q
  rw [show splB 10 s = ofS Q by rw [hQ]; rfl] at CS hn1 hn2
  rw [hQl] at hn1 hn2
  obtain ⟨lastB, hlast⟩ : ∃ a, (ofS Q)[Q.length - 1]? = some a := ⟨_, List.getElem?_eq_getElem (by omega)⟩
  have hli1 : (0 : Int) ≤ (Q.length : Int) - 1 := by omega
  have hli2 : (Q.length : Int) - 1 < (Q.length : Int) := by omega
  have et : ((Q.length : Int) - 1).toNat = Q.length - 1 := by omega
  have HQ := hid hQ
  have HQL := hid hQl
  have HLA := hid hlast
  have hlq : Q.getLast? = some lastB.data.toList := by rw [List.getLast?_eq_getElem?]; exact ofS_at hlast
  have HLQ := hid hlq
  clear hQ hQl hlast hlq
  by_cases hq2 : Q.length < 2
  · have h2i : (Q.length : Int) < 2 := by omega
    have HZ := hid (rdLt_none (readLt_short (s := s) (by rw [← HQ.out]; exact hq2)))
    go_enter Tryz.func5, Tryz.ntmps5
    go_upto_region 1 with fail
    rw [← HP1.out, ← HW.out]
    go_wp2_with fail
    refine CS.mono ?_
    rintro en w1 ⟨v1, rfl, ho1, hb1⟩
    obtain ⟨la, lc, hv1⟩ := ho1.isSlice
    rw [HQL.out] at hv1
    subst hv1
    have bx1 := q1.later hb1
    have b0 := bx1.cell (j := 0) rfl
    have b1 := bx1.cell (j := 1) rfl
    have bf := bx1.free
    go_wp2_with fail
    refine bodyPost_ret (v := .tuple #[.agg #[.int .i64 0, .slice none 0 0], .bool false]) (by simp [results, Tryz.results5, go_sem, b0, b1]) rfl (finish _ _ _ _ _ HZ (Own.nil _ _ _) ?_)
    exact ((hbW.trans (hb1.mono hlW)).setCell hge1 _).setCell hge1 _
  have h2i : ¬ ((Q.length : Int) < 2) := by omega
  by_cases hle : lastB.toList = []
  case neg =>
    have HN := hid (show linesL s.data.toList = none by
      unfold linesL
      rw [← HQ.out, HLQ.out, if_neg]
      intro h
      have := Option.some.inj h
      rw [← ByteArray.toList_eq] at this
      exact hle this)
    have HZ := hid (rdLt_none (readLt_no HN.out))
    have hse : lastB.toList.isEmpty = false := by
      cases h : lastB.toList.isEmpty with
      | false => rfl
      | true => exact absurd (List.isEmpty_iff.1 h) hle
    go_enter Tryz.func5, Tryz.ntmps5
    go_upto_region 1 with fail
    rw [← HP1.out, ← HW.out]
    go_wp2_with fail
    refine CS.mono ?_
    rintro en w1 ⟨v1, rfl, ho1, hb1⟩
    obtain ⟨g, cap, hv1, hg1, cl⟩ := own_str ho1 HLA.out
    rw [HQL.out] at hv1
    subst hv1
    have bx1 := q1.later hb1
    have b0 := bx1.cell (j := 0) rfl
    have b1 := bx1.cell (j := 1) rfl
    have bf := bx1.free
    go_wp2_with fail
    refine bodyPost_ret (v := .tuple #[.agg #[.int .i64 0, .slice none 0 0], .bool false]) (by simp [results, Tryz.results5, go_sem, b0, b1]) rfl (finish _ _ _ _ _ HZ (Own.nil _ _ _) ?_)
    exact ((hbW.trans (hb1.mono hlW)).setCell hge1 _).setCell hge1 _
  have hL0 : linesL s.data.toList = some Q.dropLast := by
    unfold linesL
    rw [← HQ.out, HLQ.out, if_pos (by rw [← ByteArray.toList_eq, hle])]
  have hse : lastB.toList.isEmpty = true := by rw [hle]; rfl
  have hQ0 : Q = Q.dropLast ++ [[]] := by rw [← (linesL_some hL0).1]; exact HQ.out
  obtain ⟨h, P, hhP⟩ : ∃ h P, Q.dropLast = h :: P := by
    cases hd : Q.dropLast with
    | nil => rw [hd] at hQ0; rw [hQ0] at hq2; simp at hq2
    | cons a b => exact ⟨a, b, rfl⟩
  rw [hhP] at hL0 hQ0
  have hPl : Q.length = P.length + 2 := by rw [hQ0]; simp
  have HL := hid hL0
  have HQ0 := hid hQ0
  have hPm : ∀ p ∈ h :: P, p.length ≤ 1048576 := fun p hp => by
    have h1 : p ∈ splL 10 s.data.toList := by rw [(linesL_some HL.out).1]; exact List.mem_append_left _ hp
    have h2 := splL_plen h1
    have h3 : s.data.toList.length = s.size := by rw [Array.length_toList]; rfl
    omega
  have hrd := readLt_cons HL.out
  have HPM := hid hPm
  have HRD := hid hrd
  have hPb : P.length ≤ 1048576 := by omega
  have hla : (ofS Q)[P.length + 1]? = some lastB := by have := HLA.out; rw [show Q.length - 1 = P.length + 1 by omega] at this; exact this
  have HLA2 := hid hla
  rw [hPl] at hli1 hli2 et h2i
  have HPL := hid hPl
  clear hL0 hQ0 hhP hPm hrd hq2 hle hn1 hn2 hPl hla
  go_enter Tryz.func5, Tryz.ntmps5
  go_upto_region 1 with fail
  rw [← HP1.out, ← HW.out]
  go_wp2_with fail
  refine CS.mono ?_
  rintro en w1 ⟨v1, rfl, ho1, hb1⟩
  obtain ⟨g, cap, hv1, hg1, cl⟩ := own_str ho1 HLA2.out
  rw [HQL.out, HPL.out] at hv1
  subst hv1
  have hbE1 := hbW.trans (hb1.mono hlW)
  have bx1 := q1.later hb1
  have hge0 := ho1.lt
  have hPc : ∀ (k : Nat) (p : List UInt8), (h :: P)[k]? = some p → w1.cell? ⟨g, k, none⟩ = some (.string ⟨p.toArray⟩) := fun k p hk => by
    have h1 : (ofS Q)[k]? = some ⟨p.toArray⟩ := ofS_get (by rw [HQ0.out, List.getElem?_append_left (List.getElem?_eq_some_iff.1 hk).1]; exact hk)
    obtain ⟨g', cap', hv', _, hc'⟩ := own_str ho1 h1
    simp only [Value.slice.injEq, Option.some.injEq, Addr.mk.injEq, and_true] at hv'
    obtain ⟨rfl, _, rfl⟩ := hv'
    exact hc'
  have hcapN : P.length + 2 ≤ cap := by
    obtain ⟨_, _, _, c', hv', hnc, _⟩ := ho1.arr
    simp only [Value.slice.injEq] at hv'
    obtain ⟨_, h7, rfl⟩ := hv'
    omega
  have hcap : (P.length : Int) + 2 - 1 ≤ (cap : Int) := by omega
  have CL := fun cap => l15Read_any g cap h P w1 hg1 hPc HPM.out hPb
  have hbs1 := hb1.size
  clear hPc
  go_wp2_with fail
  refine (CL _).mono ?_
  rintro en w2 ⟨hb2, n, u, X, c, rfl, ho2, hlv⟩
  obtain ⟨ua, uc, hu⟩ := ho2.isSlice
  subst hu
  have hbE2 := hbE1.trans (hb2.mono hbE1.size)
  have bx2 := bx1.later hb2
  have hp1w : p1 < w1.heap.size := by have := bx1.lt; omega
  have hs2 := hbE2.size
  clear CL CS cl bx1
  have HLV := hid hlv
  clear hlv
  cases c
  all_goals
    go_upto_region 5 with fail
    obtain ⟨q, hqq⟩ : ∃ q, q = w2.heap.size := ⟨_, rfl⟩
    obtain ⟨w4, hw4⟩ : ∃ u, u = w2.alloc (.cells #[.int .i64 n, .slice ua X.length uc] 24) := ⟨_, rfl⟩
    rw [← hw4, ← hqq]
    have hb4 : Below w2.heap.size w2 w4 := by rw [hw4]; exact below_alloc _ _
    have bx4 := bx2.later hb4
    have hbE4 := hbE2.trans (hb4.mono hs2)
    have a0 : w4.cell? ⟨q, 0, none⟩ = some (.int .i64 n) := by rw [hw4, hqq]; simp
    have a1 : w4.cell? ⟨q, 1, none⟩ = some (.slice ua X.length uc) := by rw [hw4, hqq]; simp
    have hp1q : p1 < q := by have := bx2.lt; omega
    have b0 := bx4.cell (j := 0) rfl
    have b1 := bx4.cell (j := 1) rfl
    have bf := bx4.free
    clear hw4 hqq
    go_wp2_with fail
  · have HZ := hid (rdLt_none (show readLt s = none by rw [HRD.out, HLV.out]; rfl))
    refine bodyPost_ret (v := .tuple #[.agg #[.int .i64 0, .slice none 0 0], .bool false]) (by simp [results, Tryz.results5, go_sem, b0, b1]) rfl (finish _ _ _ _ _ HZ (Own.nil _ _ _) ?_)
    exact (hbE4.setCell hge1 _).setCell hge1 _
  · have HZ := hid (rdLt_some (show readLt s = some (n, X) by rw [HRD.out, HLV.out]; rfl))
    refine bodyPost_ret (v := .tuple #[.agg #[.int .i64 n, .slice ua X.length uc], .bool true]) (by simp [results, Tryz.results5, go_sem, b0, b1]) rfl ?_
    have key : ∀ wz : World, Own eEdge 46 w1.heap.size wz (.slice ua X.length uc) X → Below w.heap.size w wz → RetNew rLattice (rdLt s) #[.bool (rdLtB s)] w (.returned (.tuple #[.agg #[.int .i64 n, .slice ua X.length uc], .bool true])) wz := fun wz h1 h2 => finish _ _ _ _ _ HZ (h1.mono hbE1.size) h2
    refine key _ (((ho2.below hb4).setBelow (a := ⟨p1, 0, none⟩) (by show p1 < w1.heap.size; exact hp1w) _).setBelow (a := ⟨p1, 1, none⟩) (by show p1 < w1.heap.size; exact hp1w) _) ?_
    exact (hbE4.setCell hge1 _).setCell hge1 _
end Go.Proofs.YtbgjojnjbplblaaGreatDoor
