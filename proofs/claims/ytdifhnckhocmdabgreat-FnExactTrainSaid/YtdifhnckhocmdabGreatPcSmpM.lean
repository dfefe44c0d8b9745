/- Samples: marks, and what an argument holds. -/
import Derived.Test.YtdifhnckhocmdabGreatPcSmpS
namespace Go.Proofs.YtdifhnckhocmdabGreat
open Go.ChangeShapes Go.WideShapes Go.ChangeAt Go.RowKit Go.Deep

theorem SmpOwn.label {lo hi g n cap i : Nat} {w : World} {Y : XSampleS} {y : XSample} (h : SmpOwn lo hi w (.slice (some ⟨g, 0, none⟩) n cap) Y) (hn : n = Y.length) (hy : Y[i]? = some y) (t : ByteArray) :
    SmpOwn lo hi (w.setCell ⟨g, i * 2, none⟩ (.string t)) (.slice (some ⟨g, 0, none⟩) n cap) (Y.set i (t, y.2)) ∧ Mk rSampleS.ty lo hi w (w.setCell ⟨g, i * 2, none⟩ (.string t)) := by
  obtain ⟨es, h1, h2, h3, h4⟩ := h
  have hi1 := (List.getElem?_eq_some_iff.1 hy).1
  obtain ⟨e, he⟩ : ∃ e, es[i]? = some e := ⟨_, List.getElem?_eq_getElem (by omega)⟩
  have s1 := h1.set1 (hn.trans h2.symm) (j := 0) (x' := (t, e.2)) (u := .string t) he (by decide) rfl
  have hw : w.setCell ⟨g, i * eSmp.sz + 0, none⟩ (.string t) = w.setCell ⟨g, i * 2, none⟩ (.string t) := rfl
  rw [hw] at s1
  refine ⟨⟨es.set i (t, e.2), s1.1, by rw [List.length_set, List.length_set]; exact h2, fun j a x ha hx => ?_, fun j l a c q ha hc hq1 hq2 => ?_⟩, ⟨s1.2.1, fun k c T f h5 h6 => s1.2.2 k c T f h5 ?_⟩⟩
  · by_cases ej : j = i
    · subst ej
      rw [List.getElem?_set_self (by omega)] at ha hx
      cases ha; cases hx
      exact ⟨rfl, (h3 j e y he hy).2.typed s1.2.2 (by rfl)⟩
    · rw [List.getElem?_set_ne (Ne.symm ej)] at ha hx
      exact ⟨(h3 j a x ha hx).1, (h3 j a x ha hx).2.typed s1.2.2 (by rfl)⟩
  · have key : ∀ (j : Nat) (a : ByteArray × SV), (es.set i (t, e.2))[j]? = some a → ∃ a', es[j]? = some a' ∧ a'.2 = a.2 := fun j a ha => by
      by_cases ej : j = i
      · subst ej
        rw [List.getElem?_set_self (by omega)] at ha
        cases ha
        exact ⟨e, he, rfl⟩
      · rw [List.getElem?_set_ne (Ne.symm ej)] at ha
        exact ⟨a, ha, rfl⟩
    obtain ⟨a', ha', ea⟩ := key j a ha
    obtain ⟨c', hc', ec⟩ := key l c hc
    exact h4 j l a' c' q ha' hc' (by rw [ea]; exact hq1) (by rw [ec]; exact hq2)
  · have h6' : (T == 88 || T == 58) = false := h6
    simp at h6' ⊢
    exact h6'.2
theorem SmpOwn.open' {lo hi g n cap i : Nat} {w : World} {Y : XSampleS} {y : XSample} (h : SmpOwn lo hi w (.slice (some ⟨g, 0, none⟩) n cap) Y) (hy : Y[i]? = some y) :
    ∃ sa sc lo' hi', w.cell? ⟨g, i * 2, none⟩ = some (.string y.1) ∧ w.cell? ⟨g, i * 2 + 1, none⟩ = some (.slice sa y.2.length sc) ∧ OwnIn eFeat 88 lo' hi' w (.slice sa y.2.length sc) y.2 ∧
      ∀ (w' : World) (y' : XFeatS), OwnIn eFeat 88 lo' hi' w' (.slice sa y.2.length sc) y' → Mk (fun T => T == 88) lo' hi' w w' → SmpOwn lo hi w' (.slice (some ⟨g, 0, none⟩) n cap) (Y.set i (y.1, y')) ∧ Mk rSampleS.ty lo hi w w' := by
  obtain ⟨es, h1, h2, h3, h4⟩ := h
  have hi1 := (List.getElem?_eq_some_iff.1 hy).1
  obtain ⟨e, he⟩ : ∃ e, es[i]? = some e := ⟨_, List.getElem?_eq_getElem (by omega)⟩
  obtain ⟨e1, hin⟩ := h3 i e y he hy
  have hin0 := hin
  obtain ⟨sa, sc, hs⟩ := hin.1.isSlice
  obtain ⟨lo', hi', hl, hnar, hout, hblk⟩ := hin.narrow
  have c : w.cell? ⟨g, i * 2, none⟩ = some (.string e.1) ∧ w.cell? ⟨g, i * 2 + 1, none⟩ = some (.slice e.2.a e.2.n e.2.c) := by
    obtain ⟨b, off, ao, cap', hv, _, _, hb0, hcl⟩ := h1.1.arr
    simp at hv
    obtain ⟨rfl, _, rfl⟩ := hv
    have := hb0 (by omega)
    simp at this
    obtain ⟨⟨rfl, rfl⟩, _⟩ := this
    have := eSmp_cells hcl he
    rwa [Nat.zero_add] at this
  have hs' : Value.slice e.2.a e.2.n e.2.c = .slice sa y.2.length sc := hs
  rw [hs', e1] at c
  refine ⟨sa, sc, lo', hi', c.1, c.2, by rw [← hs]; exact hnar, fun w' y' ho hm => ?_⟩
  rw [← hs] at ho
  refine ⟨⟨es, h1.typed hm.2 (by rfl), by rw [List.length_set]; exact h2, fun j a x ha hx => ?_, h4⟩, ⟨hm.1.os, hm.1.tape, hm.1.output, hm.1.size, fun k hk hj => hm.1.block k hk (hout k hj)⟩, fun k c T f h5 h6 => hm.2 k c T f h5 ?_⟩
  · by_cases ej : j = i
    · subst ej
      rw [List.getElem?_set_self hi1] at hx
      cases hx
      rw [he] at ha; cases ha
      exact ⟨e1, ho.widen hin0 hl⟩
    · rw [List.getElem?_set_ne (Ne.symm ej)] at hx
      refine ⟨(h3 j a x ha hx).1, (h3 j a x ha hx).2.chgB hm.1 fun q hq => ?_⟩
      by_cases hr : lo' ≤ q ∧ q < hi'
      · exact (ej (h4 j i a e q ha he hq (hblk q hr.1 hr.2))).elim
      · omega
  · have h6' : (T == 88 || T == 58) = false := h6
    simp at h6' ⊢
    exact h6'.1
theorem offSmp_succ {k : Int} {X : XSampleS} {i : Nat} {x : XSample} (h : X[i]? = some x) : offSmp k X (i + 1) = offSmp k X i + 1 + 3 * (x.2.length : Int) := by
  unfold offSmp totSmp
  rw [sumOf_take _ h]
  push_cast; omega
theorem offSmp_bd {k : Int} {X : XSampleS} (i : Nat) (hi : i ≤ X.length) (hn : okSampleS X) : k ≤ offSmp k X i ∧ offSmp k X i ≤ k + 3145728 := by
  have := sumOf_take_le (fun s : XSample => s.2.length) X i
  unfold okSampleS totSmp at hn
  unfold offSmp totSmp
  omega
theorem mkXSampleS_len (k : Int) (X : XSampleS) : (mkXSampleS k X).length = X.length := by simp [mkXSampleS]
theorem mkXSampleS_get (k : Int) {X : XSampleS} {i : Nat} {x : XSample} (h : X[i]? = some x) : (mkXSampleS k X)[i]? = some (mt (offSmp k X i), mkFeat (offSmp k X i + 1) x.2.length) := by
  have hi := (List.getElem?_eq_some_iff.1 h).1
  unfold mkXSampleS
  rw [List.getElem?_map, List.getElem?_range hi]
  simp [h]
set_option maxRecDepth 100000 in
set_option maxHeartbeats 2000000 in
theorem markSampleS_any (v : Value) (X : XSampleS) (lo hi : Nat) (k : Int) (w : World) (h : rSampleS.own lo hi w v X) (hn : okSampleS X) (hk0 : 0 ≤ k) (hk1 : k ≤ 10000000) :
    Calls Tryz.prog 14 #[v, .int .i64 k] w (RetMark rSampleS (mkXSampleS k X) (k + cntSampleS X) lo hi v w) := by
  have hsl : ∃ (ao : Option Addr) (cap g : Nat), v = .slice ao X.length cap ∧ X.length ≤ 1048576 ∧ (0 < X.length → ao = some ⟨g, 0, none⟩) := by
    obtain ⟨es, h1, h2, h3, h4⟩ := h
    have hx : X.length ≤ 1048576 := by unfold okSampleS at hn; omega
    rcases h1.1.shape with ⟨hv, h0⟩ | ⟨g, cap, hv, _, _⟩
    · rw [h0] at h2; have h2 : X.length = 0 := h2.symm; exact ⟨none, 0, 0, by rw [hv, h2], hx, by omega⟩
    · exact ⟨_, cap, g, by rw [hv, h2], hx, fun _ => rfl⟩
  obtain ⟨ao, cap, g, rfl, hxl, hao⟩ := hsl
  go_enter Tryz.func14, Tryz.ntmps14
  go_wp2
  go_loopw [1, 5] (fun kv iv wr => ∃ (i : Nat) (Y : XSampleS), i ≤ X.length ∧ iv = .int .i64 i ∧ kv = .int .i64 (offSmp k X i) ∧ Y.length = X.length ∧ (∀ j, j < i → Y[j]? = (mkXSampleS k X)[j]?) ∧ (∀ j, i ≤ j → Y[j]? = X[j]?) ∧
      SmpOwn lo hi wr (.slice ao X.length cap) Y ∧ Mk rSampleS.ty lo hi w wr) (fun _ i _ => X.length - (intOf i).toNat)
  case atStart => exact ⟨0, X, Nat.zero_le _, rfl, by simp [offSmp, totSmp, sumOf], rfl, by simp, fun _ _ => rfl, h, Mk.refl _ _ _ _⟩
  case round =>
    clear h
    obtain ⟨i, Y, hk, rfl, rfl, hyl, hys, hyr, ho, hch⟩ := hrel
    have HY := hid hyl
    have HYS := hid hys
    have HYR := hid hyr
    clear hyl hys hyr
    by_cases hlt : i < X.length
    · have hao' := hao (by omega)
      subst hao'
      clear hao
      obtain ⟨x, hx⟩ : ∃ x, X[i]? = some x := ⟨_, List.getElem?_eq_getElem hlt⟩
      have hYx : Y[i]? = some x := (HYR.out i (Nat.le_refl _)).trans hx
      have hbd := offSmp_bd (k := k) i (by omega) hn
      have hok : okFeatS x.2 := okSampleS_st hn hx
      have HS := hid (offSmp_succ (k := k) hx)
      have HG := hid (mkXSampleS_get k hx)
      obtain ⟨kk, hkk⟩ : ∃ kk, kk = offSmp k X i := ⟨_, rfl⟩
      rw [← hkk] at hbd HS HG ⊢
      have CT := markText_any kk wr (by omega)
      obtain ⟨t, ht⟩ : ∃ t, t = mt kk := ⟨_, rfl⟩
      rw [← ht] at CT HG
      have hli : (i : Int) < (X.length : Int) := by omega
      have HYX := hid hYx
      have HC := hid hch
      have HO := hid ho
      have oc := fun (w' : World) (hb : Below wr.heap.size wr w') => (rSampleS.own_below ho hb : SmpOwn lo hi w' _ Y)
      clear ht hx hYx hch ho hkk
      go_wp2_with fail
      refine CT.mono ?_
      rintro e w2 ⟨rfl, hb2⟩
      have o2 := oc w2 hb2
      obtain ⟨sa0, sc0, lo0, hi0, d0, d1, _, _⟩ := o2.open' HYX.out
      have df : ∀ j, w2.frozen? ⟨g, j, none⟩ = false := by
        obtain ⟨es, h1, h2, _⟩ := o2
        intro j
        exact h1.1.free (h2.trans HY.out).symm j
      have HO2 := hid o2
      clear o2 oc CT
      go_upto_region 5 with fail
      have o2 := HO2.out
      have o3 := o2.label HY.out.symm HYX.out t
      obtain ⟨w3, hw3⟩ : ∃ w3, w3 = w2.setCell ⟨g, i * 2, none⟩ (.string t) := ⟨_, rfl⟩
      rw [← hw3] at o3 ⊢
      obtain ⟨sa, sc, lo', hi', f0, f1, hnar, hcont⟩ := o3.1.open' (y := (t, x.2)) (by rw [List.getElem?_set_self (by rw [HY.out]; exact hlt)])
      simp only at f0 f1 hnar hcont
      have CM := markFeatSR_any (.slice sa x.2.length sc) x.2 lo' hi' (kk + 1) w3 hnar hok (by omega) (by omega)
      have HCO := hid hcont
      have HM3 := hid ((Mk.of_below hb2 : Mk rSampleS.ty lo hi wr w2).trans o3.2)
      have hxf : x.2.length ≤ 1048576 := hok
      clear hcont d0 d1 df hnar hb2 o2 o3 hw3
      go_wp2_with (go_at_call 38; refine CM.mono ?_; rintro e w4 ⟨rfl, ho4, hm4⟩; unfold cntFeatS)
      go_roundw
      case rel =>
        have hn2 := HCO.out w4 _ ho4 hm4
        rw [set_set] at hn2
        have h1 := fill_step (xs := mkXSampleS k X) (by rw [mkXSampleS_len]; exact HY.out) HYS.out HG.out
        refine ⟨i + 1, _, by omega, by go_num, by rw [HS.out], ?_, h1.2, fun j hj => ?_, hn2.1, (HC.out.trans HM3.out).trans hn2.2⟩
        · rw [List.length_set]; exact HY.out
        · rw [List.getElem?_set_ne (by omega)]; exact HYR.out j (by omega)
      case measure => simp [intOf]; omega
    · obtain rfl : i = X.length := by omega
      have := fill_done (xs := mkXSampleS k X) (by rw [mkXSampleS_len]; exact HY.out) HYS.out (by rw [mkXSampleS_len]; exact Nat.le_refl _)
      subst this
      have HE : Hid (offSmp k X X.length = k + cntSampleS X) := hid (by unfold offSmp cntSampleS; rw [List.take_length]; omega)
      clear HYS hao
      rw [HE.out]
      go_wp2
      go_ret
      exact ⟨rfl, ho, hch⟩
end Go.Proofs.YtdifhnckhocmdabGreat
