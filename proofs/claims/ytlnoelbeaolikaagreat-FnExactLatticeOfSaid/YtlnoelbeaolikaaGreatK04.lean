/- Templates: what the laws' functions over them do, for every argument that can be read. -/
import Derived.Test.YtlnoelbeaolikaaGreatK03
import Derived.Test.YtlnoelbeaolikaaGreatK02
namespace Go.Proofs.YtlnoelbeaolikaaGreat
open Go.ChangeShapes Go.WideShapes Go.ChangeAt Go.RowKit Go.Deep
theorem infoTmp : (Tryz.prog.info? 106).map (fun i => (i.zero, i.size, i.bytes)) = some (some (.agg #[.string ByteArray.empty, .slice none 0 0]), 2, 40) := by kernel_rfl
theorem tmpOwn_of {g n cap lo : Nat} {X : XTemplateS} {es : List (ByteArray × SV)} {w : World} (hl : es.length = X.length) (hlab : ∀ (j : Nat) (e : ByteArray × SV) (x : XTemplate), j < X.length → es[j]? = some e → X[j]? = some x → e.1 = x.1)
  (h : NestTo eFeat 176 g (X.map (·.2)) X.length (es.map (·.2)) w) (hlo : lo ≤ g) (ho : Own eTmp 106 g w (.slice (some ⟨g, 0, none⟩) n cap) es) : TmpOwn lo w.heap.size w (.slice (some ⟨g, 0, none⟩) n cap) X := by
 have lt : ∀ (i : Nat) (e : ByteArray × SV), es[i]? = some e → i < X.length := fun i e he => by rw [← hl]; exact (List.getElem?_eq_some_iff.1 he).1
 refine ⟨es, (ho.in_).mono hlo (Nat.le_refl _), hl, fun i e x he hx => ⟨hlab i e x (lt i e he) he hx, ?_⟩, fun i j s t q hs ht => ?_⟩
 ·exact (h.own i e.2 x.2 (lt i e he) (by rw [List.getElem?_map, he]; rfl) (by rw [List.getElem?_map, hx]; rfl)).mono (by omega) (Nat.le_refl _)
 ·exact h.apart i j s.2 t.2 q (lt i s hs) (lt j t ht) (by rw [List.getElem?_map, hs]; rfl) (by rw [List.getElem?_map, ht]; rfl)
set_option maxRecDepth 100000 in
set_option maxHeartbeats 2000000 in
theorem toTemplateS_any (v : Value) (X : XTemplateS) (w : World) {lo hi0 : Nat} (h : rTemplateS.at_ lo hi0 w v X) (hn : okTemplateS X) :
  Calls Tryz.prog 30 #[v] w (RetR rTemplateS X w) := by
 replace h := tmps_at h
 have HSM := hid h
 obtain ⟨b, off, ao, cap, us, rfl, hnc, hcm, hao, hc, hul, hin⟩ := h.slice
 clear hin hul h hc
 have hn0 : X.length ≤ 1048576 := by unfold okTemplateS at hn; omega
 obtain ⟨i0, hi, hz0, hz1, hz2⟩ := info_parts infoTmp
 go_enter Tryz.func30, Tryz.ntmps30
 go_wp2_with (at_make; refine wpList_make_full _ rfl _ _ 35 rfl w.heap.size 106 i0 _ 2 Tryz.underlying35 hi hz0 hz1 _ _ _ _ X.length rfl rfl rfl rfl (by rw [hz2]; omega) (by unfold maxLen; omega) (Nat.le_refl _) ?_; intro w1 hown hgr)
 have hown := Own.made (E := eTmp) (z := ((ByteArray.empty, ⟨none, 0, 0⟩) : ByteArray × SV)) hown rfl
 obtain ⟨g, hg⟩ : ∃ g, g = w.heap.size := ⟨_, rfl⟩
 rw [← hg] at hown ⊢
 have hw1 : Below w.heap.size w w1 := (Below.refl _ _).grown hgr (Nat.le_refl _) (by simp)
 have hg1 : g < w1.heap.size := hown.lt.2
 have Hg := hid hg
 clear hg
 go_loopw [4] (fun i wr => ∃ (k : Nat) (ys : List (ByteArray × SV)), k ≤ X.length ∧ i = .int .i64 k ∧ ys.length = X.length ∧ Hid (∀ (j : Nat) (e : ByteArray × SV) (x : XTemplate), j < k → ys[j]? = some e → X[j]? = some x → e.1 = x.1) ∧ NestTo eFeat 176 g (X.map (·.2)) k (ys.map (·.2)) wr ∧
   Own eTmp 106 g wr (.slice (some ⟨g, 0, none⟩) X.length X.length) ys ∧ Below w.heap.size w wr ∧ g < wr.heap.size) (fun i _ => X.length - (intOf i).toNat)
 case atStart => exact ⟨0, _, Nat.zero_le _, rfl, by simp, hid (fun _ _ _ h => by omega), NestTo.zero, hown, hw1, hg1⟩
 case round =>
  clear hown hgr hw1 hg1 hi hz0 hz1 hz2 hnc hcm
  obtain ⟨k, ys, hk, rfl, hyl, HL, hys, hown, hb, hgw⟩ := hrel
  have HY := hid hyl
  clear hyl
  by_cases hlt : k < X.length
  ·obtain ⟨hao', hbw⟩ := hao (by omega)
   subst hao'
   obtain ⟨x, hx⟩ : ∃ x, X[k]? = some x := ⟨_, List.getElem?_eq_getElem hlt⟩
   obtain ⟨b2, off2, cap2, sa, sc, hsl, _, _, c0, c1, hA⟩ := (HSM.out.below hb).get hx
   simp only [Value.slice.injEq, Option.some.injEq, Addr.mk.injEq] at hsl
   obtain ⟨⟨rfl, rfl, _⟩, _, rfl⟩ := hsl
   have hok := okTemplateS_st hn hx
   have CT := toTemplate_any (.agg #[.string x.1, .slice sa x.2.length sc]) x wr ⟨_, rfl, hA.in_⟩ hok
   have HYS := hid hys
   have HX := hid hx
   clear hao hys hx hA
   go_wp2_with (go_at_call 60; refine CT.mono ?_; rintro e w2 ⟨v2, rfl, ho2, hb2⟩; obtain ⟨u2, rfl, ho2⟩ := ho2; obtain ⟨sa', sc', hu2⟩ := shapeFeatS (rFeatS.own_at ho2); subst hu2; have hown2 := hown.below hb2; clear hown; have hw2 := hb2.size; obtain ⟨u0, hu0⟩ := hown2.slot HY.out.symm k hlt 0 (by decide); obtain ⟨u1, hu1⟩ := hown2.slot HY.out.symm k hlt 1 (by decide); have hf := hown2.free HY.out.symm; have hv0 : w2.cell? ⟨g, k * 2, none⟩ = some u0 := hu0; have hv1 : w2.cell? ⟨g, k * 2 + 1, none⟩ = some u1 := hu1; clear hu0 hu1)
   go_roundw
   case rel =>
    have h2 := hown2.set HY.out.symm k (by rw [HY.out]; exact hlt) ((x.1, ⟨sa', x.2.length, sc'⟩) : ByteArray × SV)
    have e2 : storesAt w2 g (k * eTmp.sz) (eTmp.row ((x.1, ⟨sa', x.2.length, sc'⟩) : ByteArray × SV)) = (w2.setCell ⟨g, k * 2, none⟩ (.string x.1)).setCell ⟨g, k * 2 + 1, none⟩ (.slice sa' x.2.length sc') := rfl
    rw [e2] at h2
    have h3 := HYS.out.step (s := ⟨sa', x.2.length, sc'⟩) hb2 ho2 (by rw [List.getElem?_map, HX.out]; rfl) hgw (by rw [List.length_map, List.length_map]; exact HY.out) ((chg_set w2 g (k * 2) (.string x.1)).trans (chg_set _ g (k * 2 + 1) (.slice sa' x.2.length sc')))
    refine ⟨k + 1, ys.set k (x.1, ⟨sa', x.2.length, sc'⟩), by omega, by go_num, by rw [List.length_set]; exact HY.out, hid (fun j e y hj he hy => ?_), by rw [List.map_set]; exact h3, h2.1, (hb.trans (hb2.mono (by rw [← Hg.out]; omega))).grown h2.2 (by have := hb.size; omega) (by have := Hg.out; simp; omega), Nat.lt_of_lt_of_le (Nat.lt_of_lt_of_le hgw hw2) h2.2.size⟩
    by_cases ej : j = k
    ·subst ej
     rw [List.getElem?_set_self (by rw [HY.out]; exact hlt)] at he
     cases he
     rw [HX.out] at hy; cases hy; rfl
    ·rw [List.getElem?_set_ne (Ne.symm ej)] at he
     exact HL.out j e y (by omega) he hy
   case measure => simp [intOf]; omega
  ·obtain rfl : k = X.length := by omega
   clear hao
   go_wp2
   go_ret
   exact ⟨_, rfl, tmpOwn_of HY.out HL.out hys (by rw [Hg.out]; exact Nat.le_refl _) hown, hb⟩
set_option maxRecDepth 100000 in
set_option maxHeartbeats 1000000 in
theorem szTemplateS_any (v : Value) (X : XTemplateS) (left : Int) (w : World) {lo hi : Nat} (h : rTemplateS.at_ lo hi w v X) (hs : goodTemplateS X) (hl : 0 ≤ left) (hu : left ≤ 1048576) :
  Calls Tryz.prog 24 #[v, .int .i64 left] w (Ret (.int .i64 (szOf (sizeTemplateS X) left)) w) := by
 replace h := tmps_at h
 have HSM := hid h
 obtain ⟨b, off, ao, cap, us, rfl, hnc, hcm, hao, hc, hul, hin⟩ := h.slice
 clear hin hul h hc
 unfold maxLen at hcm
 unfold sizeTemplateS
 by_cases h0 : left < X.length
 ·go_enter Tryz.func24, Tryz.ntmps24
  go_wp2
  go_ret
  exact ret_int (by rw [szOf_neg (by omega)]) (Below.refl _ _)
 have hd : decide (left - (X.length : Int) < 0) = false := by simp; omega
 go_enter Tryz.func24, Tryz.ntmps24
 go_wp2
 go_loopw [1, 5] (fun l i wr => ∃ k : Nat, k ≤ X.length ∧ i = .int .i64 k ∧ l = .int .i64 (left - X.length - sumOf sizeTemplate (X.take k)) ∧ 0 ≤ left - X.length - sumOf sizeTemplate (X.take k) ∧ Below w.heap.size w wr) (fun _ i _ => X.length - (intOf i).toNat)
 case atStart => exact ⟨0, Nat.zero_le _, rfl, by simp [sumOf], by simp [sumOf]; omega, Below.refl _ _⟩
 case round =>
  obtain ⟨k, hk, rfl, rfl, hp, hb⟩ := hrel
  by_cases hlt : k < X.length
  ·obtain ⟨hao', hbw⟩ := hao (by omega)
   subst hao'
   obtain ⟨x, hx⟩ : ∃ x, X[k]? = some x := ⟨_, List.getElem?_eq_getElem hlt⟩
   obtain ⟨b2, off2, cap2, sa, sc, hsl, _, _, c0, c1, hA⟩ := (HSM.out.below hb).get hx
   simp only [Value.slice.injEq, Option.some.injEq, Addr.mk.injEq] at hsl
   obtain ⟨⟨rfl, rfl, _⟩, _, rfl⟩ := hsl
   have hsum := sumOf_take sizeTemplate hx
   have hle := sumOf_take_le sizeTemplate X (k + 1)
   rw [hsum] at hle
   obtain ⟨p, hpp⟩ : ∃ p, p = left - X.length - sumOf sizeTemplate (X.take k) := ⟨_, rfl⟩
   rw [← hpp] at hp ⊢
   have hpu : p ≤ 1048576 := by omega
   have HS : Hid (sumOf sizeTemplate (X.take (k + 1)) = sumOf sizeTemplate (X.take k) + sizeTemplate x) := hid hsum
   have HP := hid hpp
   have CZ := szTemplate_any (.agg #[.string x.1, .slice sa x.2.length sc]) x p wr ⟨_, rfl, hA.in_⟩ (hs x (List.mem_of_getElem? hx)) hp hpu
   clear hao hsum hpp hx hA
   by_cases hf : p < sizeTemplate x
   ·rw [szOf_neg hf] at CZ
    go_wp2_with (go_at_call 50; refine CZ.mono ?_; rintro e w2 ⟨rfl, hb2⟩)
    go_ret
    exact ret_int (by rw [szOf_neg (by have := HP.out; omega)]) (hb.trans (hb2.mono hb.size))
   ·rw [szOf_pos (by omega)] at CZ
    go_wp2_with (go_at_call 50; refine CZ.mono ?_; rintro e w2 ⟨rfl, hb2⟩)
    go_roundw
    case rel => exact ⟨k + 1, by omega, by go_num, by rw [HS.out, HP.out]; congr 1; omega, by rw [HS.out]; have := HP.out; omega, hb.trans (hb2.mono hb.size)⟩
    case measure => simp [intOf]; omega
  ·have hk' : X.length = k := by omega
   clear hao
   go_wp2
   go_ret
   rw [← hk', List.take_length] at hp
   exact ret_int (by rw [← hk', List.take_length, szOf_pos (by omega)]; omega) hb
set_option maxRecDepth 100000 in
set_option maxHeartbeats 1000000 in
theorem eqTemplateS_any (v1 v2 : Value) (X : XTemplateS) (w : World) {lo1 hi1 lo2 hi2 : Nat} (h1 : rTemplateS.at_ lo1 hi1 w v1 X) (h2 : rTemplateS.at_ lo2 hi2 w v2 X) :
  Calls Tryz.prog 37 #[v1, v2] w (Ret (.bool true) w) := by
 replace h1 := tmps_at h1
 replace h2 := tmps_at h2
 have HS1 := hid h1
 have HS2 := hid h2
 obtain ⟨b, off, ao, cap, us, rfl, hnc, hcm, hao, hc, hul, hin⟩ := h1.slice
 obtain ⟨b2, off2, ao2, cap2, us2, rfl, hnc2, hcm2, hao2, hc2, hul2, hin2⟩ := h2.slice
 clear hin hul h1 hc hin2 hul2 h2 hc2
 unfold maxLen at hcm
 go_enter Tryz.func37, Tryz.ntmps37
 go_wp2
 go_loopw [5] (fun i wr => ∃ k : Nat, k ≤ X.length ∧ i = .int .i64 k ∧ Below w.heap.size w wr) (fun i _ => X.length - (intOf i).toNat)
 case atStart => exact ⟨0, Nat.zero_le _, rfl, Below.refl _ _⟩
 case round =>
  obtain ⟨k, hk, rfl, hb⟩ := hrel
  by_cases hlt : k < X.length
  ·obtain ⟨hao', hbw⟩ := hao (by omega)
   obtain ⟨hao2', hbw2⟩ := hao2 (by omega)
   subst hao' hao2'
   obtain ⟨x, hx⟩ : ∃ x, X[k]? = some x := ⟨_, List.getElem?_eq_getElem hlt⟩
   obtain ⟨b3, off3, cap3, sa, sc, hsl, _, _, c0, c1, hA⟩ := (HS1.out.below hb).get hx
   simp only [Value.slice.injEq, Option.some.injEq, Addr.mk.injEq] at hsl
   obtain ⟨⟨rfl, rfl, _⟩, _, rfl⟩ := hsl
   obtain ⟨b4, off4, cap4, sa2, sc2, hsl, _, _, d0, d1, hB⟩ := (HS2.out.below hb).get hx
   simp only [Value.slice.injEq, Option.some.injEq, Addr.mk.injEq] at hsl
   obtain ⟨⟨rfl, rfl, _⟩, _, rfl⟩ := hsl
   have a0 := ext_cell c0
   have a1 := ext_cell c1
   have b0 := ext_cell d0
   have b1 := ext_cell d1
   clear hao hao2 hx
   have hli : (k : Int) < (X.length : Int) := by omega
   go_wp2
   refine wp_region_ext (by kernel_rfl) (by kernel_rfl) ?_
   repeat (go_big_quiet_step (((go_at_call 72; exact ret_ext (eqTemplate_any _ _ x _ ⟨_, rfl, (ext_arr hA _).in_⟩ ⟨_, rfl, (ext_arr hB _).in_⟩)))))
   refine wpQuiet_nil ?_
   intro _ hw'
   obtain ⟨nq, hw''⟩ := hw'
   subst hw''
   go_wp2
   go_roundw
   case rel => exact ⟨k + 1, by omega, by go_num, hb.trans ((ext_below _ _).mono hb.size)⟩
   case measure => simp [intOf]; omega
  ·clear hao hao2
   go_wp2
   go_ret
   exact ret_bool rfl hb
end Go.Proofs.YtlnoelbeaolikaaGreat
namespace Go.Proofs.YtlnoelbeaolikaaGreat
open Go.ChangeShapes Go.WideShapes Go.ChangeAt Go.RowKit Go.Deep
theorem TmpOwn.label {lo hi g n cap i : Nat} {w : World} {Y : XTemplateS} {y : XTemplate} (h : TmpOwn lo hi w (.slice (some ⟨g, 0, none⟩) n cap) Y) (hn : n = Y.length) (hy : Y[i]? = some y) (t : ByteArray) :
  TmpOwn lo hi (w.setCell ⟨g, i * 2, none⟩ (.string t)) (.slice (some ⟨g, 0, none⟩) n cap) (Y.set i (t, y.2)) ∧ Mk rTemplateS.ty lo hi w (w.setCell ⟨g, i * 2, none⟩ (.string t)) := by
 obtain ⟨es, h1, h2, h3, h4⟩ := h
 have hi1 := (List.getElem?_eq_some_iff.1 hy).1
 obtain ⟨e, he⟩ : ∃ e, es[i]? = some e := ⟨_, List.getElem?_eq_getElem (by omega)⟩
 have s1 := h1.set1 (hn.trans h2.symm) (j := 0) (x' := (t, e.2)) (u := .string t) he (by decide) rfl
 have hw : w.setCell ⟨g, i * eTmp.sz + 0, none⟩ (.string t) = w.setCell ⟨g, i * 2, none⟩ (.string t) := rfl
 rw [hw] at s1
 refine ⟨⟨es.set i (t, e.2), s1.1, by rw [List.length_set, List.length_set]; exact h2, fun j a x ha hx => ?_, fun j l a c q ha hc hq1 hq2 => ?_⟩, ⟨s1.2.1, fun k c T f h5 h6 => s1.2.2 k c T f h5 ?_⟩⟩
 ·by_cases ej : j = i
  ·subst ej
   rw [List.getElem?_set_self (by omega)] at ha hx
   cases ha; cases hx
   exact ⟨rfl, (h3 j e y he hy).2.typed s1.2.2 (by rfl)⟩
  ·rw [List.getElem?_set_ne (Ne.symm ej)] at ha hx
   exact ⟨(h3 j a x ha hx).1, (h3 j a x ha hx).2.typed s1.2.2 (by rfl)⟩
 ·have key : ∀ (j : Nat) (a : ByteArray × SV), (es.set i (t, e.2))[j]? = some a → ∃ a', es[j]? = some a' ∧ a'.2 = a.2 := fun j a ha => by
   by_cases ej : j = i
   ·subst ej
    rw [List.getElem?_set_self (by omega)] at ha
    cases ha
    exact ⟨e, he, rfl⟩
   ·rw [List.getElem?_set_ne (Ne.symm ej)] at ha
    exact ⟨a, ha, rfl⟩
  obtain ⟨a', ha', ea⟩ := key j a ha
  obtain ⟨c', hc', ec⟩ := key l c hc
  exact h4 j l a' c' q ha' hc' (by rw [ea]; exact hq1) (by rw [ec]; exact hq2)
 ·have h6' : (T == 176 || T == 106) = false := h6
  simp at h6' ⊢
  exact h6'.2
theorem TmpOwn.open' {lo hi g n cap i : Nat} {w : World} {Y : XTemplateS} {y : XTemplate} (h : TmpOwn lo hi w (.slice (some ⟨g, 0, none⟩) n cap) Y) (hy : Y[i]? = some y) :
  ∃ sa sc lo' hi', w.cell? ⟨g, i * 2, none⟩ = some (.string y.1) ∧ w.cell? ⟨g, i * 2 + 1, none⟩ = some (.slice sa y.2.length sc) ∧ OwnIn eFeat 176 lo' hi' w (.slice sa y.2.length sc) y.2 ∧
   ∀ (w' : World) (y' : XFeatS), OwnIn eFeat 176 lo' hi' w' (.slice sa y.2.length sc) y' → Mk (fun T => T == 176) lo' hi' w w' → TmpOwn lo hi w' (.slice (some ⟨g, 0, none⟩) n cap) (Y.set i (y.1, y')) ∧ Mk rTemplateS.ty lo hi w w' := by
 obtain ⟨es, h1, h2, h3, h4⟩ := h
 have hi1 := (List.getElem?_eq_some_iff.1 hy).1
 obtain ⟨e, he⟩ : ∃ e, es[i]? = some e := ⟨_, List.getElem?_eq_getElem (by omega)⟩
 obtain ⟨e1, hin⟩ := h3 i e y he hy
 have hin0 := hin
 obtain ⟨sa, sc, hs⟩ := hin.1.isSlice
 obtain ⟨lo', hi', hl, hnar, hout, hblk⟩ := hin.narrow
 have c : w.cell? ⟨g, i * 2, none⟩ = some (.string e.1) ∧ w.cell? ⟨g, i * 2 + 1, none⟩ = some (.slice e.2.a e.2.n e.2.c) := by
  obtain ⟨b, off, ao, cap', hv, _, _, hb0, hcl⟩ := h1.1.arr
  simp at hv
  obtain ⟨rfl, _, rfl⟩ := hv
  have := hb0 (by omega)
  simp at this
  obtain ⟨⟨rfl, rfl⟩, _⟩ := this
  have := eTmp_cells hcl he
  rwa [Nat.zero_add] at this
 have hs' : Value.slice e.2.a e.2.n e.2.c = .slice sa y.2.length sc := hs
 rw [hs', e1] at c
 refine ⟨sa, sc, lo', hi', c.1, c.2, by rw [← hs]; exact hnar, fun w' y' ho hm => ?_⟩
 rw [← hs] at ho
 refine ⟨⟨es, h1.typed hm.2 (by rfl), by rw [List.length_set]; exact h2, fun j a x ha hx => ?_, h4⟩, ⟨hm.1.os, hm.1.tape, hm.1.output, hm.1.size, fun k hk hj => hm.1.block k hk (hout k hj)⟩, fun k c T f h5 h6 => hm.2 k c T f h5 ?_⟩
 ·by_cases ej : j = i
  ·subst ej
   rw [List.getElem?_set_self hi1] at hx
   cases hx
   rw [he] at ha; cases ha
   exact ⟨e1, ho.widen hin0 hl⟩
  ·rw [List.getElem?_set_ne (Ne.symm ej)] at hx
   refine ⟨(h3 j a x ha hx).1, (h3 j a x ha hx).2.chgB hm.1 fun q hq => ?_⟩
   by_cases hr : lo' ≤ q ∧ q < hi'
   ·exact (ej (h4 j i a e q ha he hq (hblk q hr.1 hr.2))).elim
   ·omega
 ·have h6' : (T == 176 || T == 106) = false := h6
  simp at h6' ⊢
  exact h6'.1
theorem offTmp_succ {k : Int} {X : XTemplateS} {i : Nat} {x : XTemplate} (h : X[i]? = some x) : offTmp k X (i + 1) = offTmp k X i + 1 + 3 * (x.2.length : Int) := by
 unfold offTmp totTmp
 rw [sumOf_take _ h]
 push_cast; omega
theorem offTmp_bd {k : Int} {X : XTemplateS} (i : Nat) (hi : i ≤ X.length) (hn : okTemplateS X) : k ≤ offTmp k X i ∧ offTmp k X i ≤ k + 3145728 := by
 have := sumOf_take_le (fun s : XTemplate => s.2.length) X i
 unfold okTemplateS totTmp at hn
 unfold offTmp totTmp
 omega
theorem mkXTemplateS_len (k : Int) (X : XTemplateS) : (mkXTemplateS k X).length = X.length := by simp [mkXTemplateS]
theorem mkXTemplateS_get (k : Int) {X : XTemplateS} {i : Nat} {x : XTemplate} (h : X[i]? = some x) : (mkXTemplateS k X)[i]? = some (mt (offTmp k X i), mkFeat (offTmp k X i + 1) x.2.length) := by
 have hi := (List.getElem?_eq_some_iff.1 h).1
 unfold mkXTemplateS
 rw [List.getElem?_map, List.getElem?_range hi]
 simp [h]
set_option maxRecDepth 100000 in
set_option maxHeartbeats 2000000 in
theorem markTemplateS_any (v : Value) (X : XTemplateS) (lo hi : Nat) (k : Int) (w : World) (h : rTemplateS.own lo hi w v X) (hn : okTemplateS X) (hk0 : 0 ≤ k) (hk1 : k ≤ 10000000) :
  Calls Tryz.prog 39 #[v, .int .i64 k] w (RetMark rTemplateS (mkXTemplateS k X) (k + cntTemplateS X) lo hi v w) := by
 have hsl : ∃ (ao : Option Addr) (cap g : Nat), v = .slice ao X.length cap ∧ X.length ≤ 1048576 ∧ (0 < X.length → ao = some ⟨g, 0, none⟩) := by
  obtain ⟨es, h1, h2, h3, h4⟩ := h
  have hx : X.length ≤ 1048576 := by unfold okTemplateS at hn; omega
  rcases h1.1.shape with ⟨hv, h0⟩ | ⟨g, cap, hv, _, _⟩
  ·rw [h0] at h2; have h2 : X.length = 0 := h2.symm; exact ⟨none, 0, 0, by rw [hv, h2], hx, by omega⟩
  ·exact ⟨_, cap, g, by rw [hv, h2], hx, fun _ => rfl⟩
 obtain ⟨ao, cap, g, rfl, hxl, hao⟩ := hsl
 go_enter Tryz.func39, Tryz.ntmps39
 go_wp2
 go_loopw [1, 5] (fun kv iv wr => ∃ (i : Nat) (Y : XTemplateS), i ≤ X.length ∧ iv = .int .i64 i ∧ kv = .int .i64 (offTmp k X i) ∧ Y.length = X.length ∧ (∀ j, j < i → Y[j]? = (mkXTemplateS k X)[j]?) ∧ (∀ j, i ≤ j → Y[j]? = X[j]?) ∧
   TmpOwn lo hi wr (.slice ao X.length cap) Y ∧ Mk rTemplateS.ty lo hi w wr) (fun _ i _ => X.length - (intOf i).toNat)
 case atStart => exact ⟨0, X, Nat.zero_le _, rfl, by simp [offTmp, totTmp, sumOf], rfl, by simp, fun _ _ => rfl, h, Mk.refl _ _ _ _⟩
 case round =>
  clear h
  obtain ⟨i, Y, hk, rfl, rfl, hyl, hys, hyr, ho, hch⟩ := hrel
  have HY := hid hyl
  have HYS := hid hys
  have HYR := hid hyr
  clear hyl hys hyr
  by_cases hlt : i < X.length
  ·have hao' := hao (by omega)
   subst hao'
   clear hao
   obtain ⟨x, hx⟩ : ∃ x, X[i]? = some x := ⟨_, List.getElem?_eq_getElem hlt⟩
   have hYx : Y[i]? = some x := (HYR.out i (Nat.le_refl _)).trans hx
   have hbd := offTmp_bd (k := k) i (by omega) hn
   have hok : okFeatS x.2 := okTemplateS_st hn hx
   have HS := hid (offTmp_succ (k := k) hx)
   have HG := hid (mkXTemplateS_get k hx)
   obtain ⟨kk, hkk⟩ : ∃ kk, kk = offTmp k X i := ⟨_, rfl⟩
   rw [← hkk] at hbd HS HG ⊢
   have CT := markText_any kk wr (by omega)
   obtain ⟨t, ht⟩ : ∃ t, t = mt kk := ⟨_, rfl⟩
   rw [← ht] at CT HG
   have hli : (i : Int) < (X.length : Int) := by omega
   have HYX := hid hYx
   have HC := hid hch
   have HO := hid ho
   have oc := fun (w' : World) (hb : Below wr.heap.size wr w') => (rTemplateS.own_below ho hb : TmpOwn lo hi w' _ Y)
   clear ht hx hYx hch ho hkk
   go_wp2_with fail
   refine CT.mono ?_
   rintro e w2 ⟨rfl, hb2⟩
   have o2 := oc w2 hb2
   obtain ⟨sa0, sc0, lo0, hi0, d0, d1, _, _⟩ := o2.open' HYX.out
   have df : ∀ j, w2.frozen? ⟨g, j, none⟩ = false := by
    obtain ⟨es, h1, h2, _⟩ := o2
    intro j
    exact h1.1.free (h2.trans HY.out).symm j
   have HO2 := hid o2
   clear o2 oc CT
   go_upto_region 5 with fail
   have o2 := HO2.out
   have o3 := o2.label HY.out.symm HYX.out t
   obtain ⟨w3, hw3⟩ : ∃ w3, w3 = w2.setCell ⟨g, i * 2, none⟩ (.string t) := ⟨_, rfl⟩
   rw [← hw3] at o3 ⊢
   obtain ⟨sa, sc, lo', hi', f0, f1, hnar, hcont⟩ := o3.1.open' (y := (t, x.2)) (by rw [List.getElem?_set_self (by rw [HY.out]; exact hlt)])
   simp only at f0 f1 hnar hcont
   have CM := markFeatSR_any (.slice sa x.2.length sc) x.2 lo' hi' (kk + 1) w3 hnar hok (by omega) (by omega)
   have HCO := hid hcont
   have HM3 := hid ((Mk.of_below hb2 : Mk rTemplateS.ty lo hi wr w2).trans o3.2)
   have hxf : x.2.length ≤ 1048576 := hok
   clear hcont d0 d1 df hnar hb2 o2 o3 hw3
   go_wp2_with (go_at_call 74; refine CM.mono ?_; rintro e w4 ⟨rfl, ho4, hm4⟩; unfold cntFeatS)
   go_roundw
   case rel =>
    have hn2 := HCO.out w4 _ ho4 hm4
    rw [set_set] at hn2
    have h1 := fill_step (xs := mkXTemplateS k X) (by rw [mkXTemplateS_len]; exact HY.out) HYS.out HG.out
    refine ⟨i + 1, _, by omega, by go_num, by rw [HS.out], ?_, h1.2, fun j hj => ?_, hn2.1, (HC.out.trans HM3.out).trans hn2.2⟩
    ·rw [List.length_set]; exact HY.out
    ·rw [List.getElem?_set_ne (by omega)]; exact HYR.out j (by omega)
   case measure => simp [intOf]; omega
  ·obtain rfl : i = X.length := by omega
   have := fill_done (xs := mkXTemplateS k X) (by rw [mkXTemplateS_len]; exact HY.out) HYS.out (by rw [mkXTemplateS_len]; exact Nat.le_refl _)
   subst this
   have HE : Hid (offTmp k X X.length = k + cntTemplateS X) := hid (by unfold offTmp cntTemplateS; rw [List.take_length]; omega)
   clear HYS hao
   rw [HE.out]
   go_wp2
   go_ret
   exact ⟨rfl, ho, hch⟩
end Go.Proofs.YtlnoelbeaolikaaGreat
namespace Go.Proofs.YtlnoelbeaolikaaGreat
open Go.ChangeShapes Go.WideShapes Go.ChangeAt Go.RowKit Go.Deep
set_option maxRecDepth 100000 in
theorem decTemplate (w : World) (cs : List Value) (h : Rd Tryz.prog w 97 cs) : ∃ x : XTemplate, ∃ s : SV, cs = [.string x.1, s.val] ∧ Arr eFeat w s.val x.2 ∧ goodTemplate x := by
 obtain ⟨hl, hf⟩ := rd_struct Tryz.underlying97 h
 rw [show Tryz.prog.cellsOf 97 = 2 by kernel_rfl] at hl
 obtain ⟨c0, u, rfl⟩ : ∃ c0 u, cs = [c0, u] := by
  match cs, hl with
  | [c0, u], _ => exact ⟨c0, u, rfl⟩
 have hi : Rd Tryz.prog w 9 (([c0, u].drop 0).take (Tryz.prog.cellsOf 9)) := hf 0 _ rfl
 have h0 : Rd Tryz.prog w 95 (([c0, u].drop 1).take (Tryz.prog.cellsOf 95)) := hf 1 _ rfl
 rw [show Tryz.prog.cellsOf 95 = 1 by kernel_rfl] at h0
 rw [show Tryz.prog.cellsOf 9 = 1 by kernel_rfl] at hi
 obtain ⟨s, hs, hsz⟩ := rd_string Tryz.underlying9 hi
 simp at hs
 subst hs
 obtain ⟨xs, hx⟩ := rd_slice (R := fun _ cs x => cs = eFeat.row x ∧ goodFeat x) (sz := 3) Tryz.underlying95 (by kernel_rfl) (by omega) (decFeat w) (v := u) (by simpa using h0)
 obtain ⟨sa, sc, rfl⟩ := hx.arr.1.isSlice
 exact ⟨(s, xs), ⟨sa, xs.length, sc⟩, rfl, hx.arr.1, hsz, hx.arr.2⟩
theorem ArrR.tmps {w : World} {v : Value} {X : XTemplateS} (h : ArrR (fun w cs (x : XTemplate) => ∃ s : SV, cs = [.string x.1, s.val] ∧ Arr eFeat w s.val x.2 ∧ goodTemplate x) 2 w v X) : Tmps w v X ∧ goodTemplateS X := by
 obtain ⟨b, off, ao, cap, hv, h1, h2, h3, h4⟩ := h
 obtain ⟨es, hl, hes⟩ := list_of_lt (p := fun i (e : ByteArray × SV) => ∃ x, X[i]? = some x ∧ e.1 = x.1 ∧ Arr eFeat w e.2.val x.2 ∧ goodTemplate x ∧ w.cell? ⟨b, off + i * 2, none⟩ = some (.string x.1) ∧ w.cell? ⟨b, off + i * 2 + 1, none⟩ = some e.2.val) X.length fun i hi => by
  obtain ⟨cs, _, ⟨s, rfl, hA, hg⟩, h5⟩ := h4 i X[i] (List.getElem?_eq_getElem hi)
  exact ⟨(X[i].1, s), X[i], List.getElem?_eq_getElem hi, rfl, hA, hg, h5 0 _ rfl, h5 1 _ rfl⟩
 refine ⟨⟨es, ⟨b, off, ao, cap, by rw [hl]; exact hv, by rw [hl]; exact h1, h2, fun h0 => h3 (by omega), fun k e he j u hu => ?_⟩, hl, fun i e x he hx => ?_⟩, fun x hx => ?_⟩
 ·obtain ⟨x, _, e1, _, _, c0, c1⟩ := hes k e he
  have hj : j < 2 := by have := (List.getElem?_eq_some_iff.1 hu).1; rw [eTmp.len] at this; exact this
  match j, hj, hu with
  | 0, _, hu =>
   have hu' : some (Value.string e.1) = some u := hu
   cases hu'
   rw [e1]; exact c0
  | 1, _, hu =>
   have hu' : some e.2.val = some u := hu
   cases hu'
   exact c1
 ·obtain ⟨y, hy, e1, hA, _⟩ := hes i e he
  rw [hx] at hy; cases hy
  exact ⟨e1, hA⟩
 ·obtain ⟨i, hi⟩ := List.mem_iff_getElem?.1 hx
  obtain ⟨e, he⟩ : ∃ e, es[i]? = some e := ⟨_, List.getElem?_eq_getElem (by rw [hl]; exact (List.getElem?_eq_some_iff.1 hi).1)⟩
  obtain ⟨y, hy, _, _, hg, _⟩ := hes i e he
  rw [hi] at hy; cases hy
  exact hg
end Go.Proofs.YtlnoelbeaolikaaGreat
namespace Go.Proofs.YtlnoelbeaolikaaGreat
open Go.ChangeShapes Go.WideShapes Go.ChangeAt Go.RowKit Go.Deep
abbrev XStore := Int × XTemplateS
def rStore : Rep XStore := Rep.aggP (fun n => Value.int .i64 n) rTemplateS
def goodStore (x : XStore) : Prop := goodTemplateS x.2
def sizeStore (x : XStore) : Nat := sizeTemplateS x.2
def okStore (x : XStore) : Prop := okTemplateS x.2
theorem okStore_of {x : XStore} (h : sizeStore x ≤ 1048576) : okStore x := okTemplateS_of h
def cntStore (x : XStore) : Int := cntTemplateS x.2
theorem cntStore_bd2 {x : XStore} (h : okStore x) : 0 ≤ cntStore x ∧ cntStore x ≤ 3200000 := by unfold okStore okTemplateS at h; unfold cntStore cntTemplateS; omega
def mkXStore (k : Int) (x : XStore) : XStore := (x.1, mkXTemplateS k x.2)
theorem shapeStore {lo hi : Nat} {w : World} {v : Value} {x : XStore} (h : rStore.at_ lo hi w v x) : ∃ sa sc, v = .agg #[.int .i64 x.1, .slice sa x.2.length sc] := by
 obtain ⟨u, rfl, h⟩ := h
 obtain ⟨sa, sc, rfl⟩ := shapeTemplateS h
 exact ⟨sa, sc, rfl⟩
set_option maxRecDepth 100000 in
set_option maxHeartbeats 1000000 in
theorem toStore_any (v : Value) (x : XStore) (w : World) {lo hi : Nat} (h : rStore.at_ lo hi w v x) (hn : okStore x) :
  Calls Tryz.prog 8 #[v] w (RetR rStore x w) := by
 obtain ⟨u, rfl, h⟩ := h
 obtain ⟨sb, sd, rfl⟩ := shapeTemplateS h
 go_enter Tryz.func8, Tryz.ntmps8
 go_wp2_with (go_at_call 30; refine (toTemplateS_any _ x.2 _ (rTemplateS.at_alloc (rTemplateS.at_alloc (rTemplateS.at_alloc h _) _) _) hn).mono ?_; rintro e w2 ⟨u, rfl, ho, hb⟩; obtain ⟨sa, sc, hu⟩ := shapeTemplateS (rTemplateS.own_at ho); subst hu; obtain ⟨hc, hf⟩ := bcell hb)
 refine bodyPost_ret (v := .agg #[.int .i64 x.1, .slice sa x.2.length sc]) (by simp [results, Tryz.results8, go_sem, hc]) rfl ⟨_, rfl, ⟨_, rfl, ?_⟩, ?_⟩
 ·exact rTemplateS.own_mono (rTemplateS.own_chg (rTemplateS.own_chg (rTemplateS.own_chg ho (chg_set _ _ _ _) (.inl (by simp <;> omega))) (chg_set _ _ _ _) (.inl (by simp <;> omega))) (chg_set _ _ _ _) (.inl (by simp <;> omega))) (by simp <;> omega) (by simp)
 ·exact ((((((((Below.refl _ _).alloc (Nat.le_refl _) _).alloc (by simp) _).alloc (by simp <;> omega) _).trans (hb.mono (by simp <;> omega))).setCell (by simp <;> omega) _).setCell (by simp <;> omega) _).setCell (by simp <;> omega) _)
set_option maxRecDepth 100000 in
set_option maxHeartbeats 400000 in
theorem szStore_any (v : Value) (x : XStore) (left : Int) (w : World) {lo hi : Nat} (h : rStore.at_ lo hi w v x) (hs : goodStore x) (hl : 0 ≤ left) (hu : left ≤ 1048576) :
  Calls Tryz.prog 5 #[v, .int .i64 left] w (Ret (.int .i64 (szOf (sizeStore x) left)) w) := by
 obtain ⟨u, rfl, h⟩ := h
 unfold sizeStore
 by_cases hf : left < (sizeTemplateS x.2 : Nat)
 all_goals
  go_enter Tryz.func5, Tryz.ntmps5
  go_wp2_with (go_at_call 24; refine (szTemplateS_any _ x.2 _ _ (rTemplateS.at_alloc h _) hs hl hu).mono ?_; rintro e w2 ⟨rfl, hb⟩; first | rw [szOf_neg (by omega)] | rw [szOf_pos (by omega)])
  go_ret
  exact ret_int (by first | rw [szOf_neg (by omega)] | rw [szOf_pos (by omega)]) (((Below.refl _ _).alloc (Nat.le_refl _) _).trans (hb.mono (by simp)))
set_option maxRecDepth 100000 in
set_option maxHeartbeats 400000 in
theorem eqStore_any (v1 v2 : Value) (x : XStore) (w : World) {lo1 hi1 lo2 hi2 : Nat} (h1 : rStore.at_ lo1 hi1 w v1 x) (h2 : rStore.at_ lo2 hi2 w v2 x) :
  Calls Tryz.prog 13 #[v1, v2] w (Ret (.bool true) w) := by
 obtain ⟨u1, rfl, h1⟩ := h1
 obtain ⟨u2, rfl, h2⟩ := h2
 go_enter Tryz.func13, Tryz.ntmps13
 go_wp2_with (go_at_call 37; refine (eqTemplateS_any _ _ x.2 _ (rTemplateS.at_alloc (rTemplateS.at_alloc h1 _) _) (rTemplateS.at_alloc (rTemplateS.at_alloc h2 _) _)).mono ?_; rintro e w2 ⟨rfl, hb⟩)
 go_ret
 exact ret_bool rfl ((((Below.refl _ _).alloc (Nat.le_refl _) _).alloc (by simp) _).trans (hb.mono (by simp <;> omega)))
set_option maxRecDepth 100000 in
set_option maxHeartbeats 400000 in
theorem markStore_any (v : Value) (x : XStore) (lo hi : Nat) (k : Int) (w : World) (h : rStore.own lo hi w v x) (hn : okStore x) (hk0 : 0 ≤ k) (hk1 : k ≤ 10000000) :
  Calls Tryz.prog 15 #[v, .int .i64 k] w (RetMark rStore (mkXStore k x) (k + cntStore x) lo hi v w) := by
 obtain ⟨u, rfl, h⟩ := h
 go_enter Tryz.func15, Tryz.ntmps15
 go_wp2_with (go_at_call 39; refine (markTemplateS_any _ x.2 lo hi _ _ (rTemplateS.own_alloc h _) hn hk0 hk1).mono ?_; rintro e w2 ⟨rfl, ho, hc⟩)
 go_ret
 exact ⟨rfl, ⟨_, rfl, ho⟩, (Mk.of_below (below_alloc _ _)).trans hc⟩
set_option maxRecDepth 100000 in
theorem openStore {H : Type} {enc : TypeId × Value → H} {W : World} {base : Nat} {spare : Nat → Bool} {held : Bool} {v : Value} {d : DataW H} {ps : List MemPlace} {b0 : Nat} {r : Reach}
  (hv : Value.okWide Tryz.prog W r b0 24 v) (h : DataW.Trod enc Tryz.prog W base spare held 24 v d ps) : ∃ x, rStore.at_ 0 W.heap.size W v x ∧ goodStore x := by
 obtain ⟨cs, rfl, hsz⟩ := okWide_struct Tryz.underlying24 hv
 have hr := rd_of_trod h
 obtain ⟨hl, hf⟩ := rd_struct Tryz.underlying24 hr
 rw [show Tryz.prog.cellsOf 24 = 2 by kernel_rfl] at hsz
 obtain ⟨c0, u, rfl⟩ : ∃ c0 u, cs = #[c0, u] := by
  match cs, hsz with
  | ⟨[c0, u]⟩, _ => exact ⟨c0, u, rfl⟩
 have hi : Rd Tryz.prog W 2 (([c0, u].drop 0).take (Tryz.prog.cellsOf 2)) := hf 0 _ rfl
 have h0 : Rd Tryz.prog W 22 (([c0, u].drop 1).take (Tryz.prog.cellsOf 22)) := hf 1 _ rfl
 rw [show Tryz.prog.cellsOf 22 = 1 by kernel_rfl] at h0
 rw [show Tryz.prog.cellsOf 2 = 1 by kernel_rfl] at hi
 obtain ⟨n, hn, _⟩ := rd_int Tryz.underlying2 hi
 simp at hn
 subst hn
 obtain ⟨xs, hx⟩ := rd_slice (R := fun w cs (x : XTemplate) => ∃ s : SV, cs = [.string x.1, s.val] ∧ Arr eFeat w s.val x.2 ∧ goodTemplate x) (sz := 2) Tryz.underlying22 (by kernel_rfl) (by omega) (decTemplate W) (v := u) (by simpa using h0)
 have hA := ArrR.tmps hx
 exact ⟨(n, xs), ⟨u, rfl, hA.1.at_⟩, hA.2⟩
end Go.Proofs.YtlnoelbeaolikaaGreat
