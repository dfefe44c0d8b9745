/- Samples: what the laws' functions over them do, for every argument that can be read. -/
import Derived.Test.YtdifhnckhocmdabGreatPcSmp
import Derived.Test.YtdifhnckhocmdabGreatPcOpen
namespace Go.Proofs.YtdifhnckhocmdabGreat
open Go.ChangeShapes Go.WideShapes Go.ChangeAt Go.RowKit Go.Deep

theorem infoSmp : (Tryz.prog.info? 58).map (fun i => (i.zero, i.size, i.bytes)) = some (some (.agg #[.string ByteArray.empty, .slice none 0 0]), 2, 40) := by kernel_rfl
theorem smpOwn_of {g n cap lo : Nat} {X : XSampleS} {es : List (ByteArray × SV)} {w : World} (hl : es.length = X.length) (hlab : ∀ (j : Nat) (e : ByteArray × SV) (x : XSample), j < X.length → es[j]? = some e → X[j]? = some x → e.1 = x.1)
    (h : NestTo eFeat 88 g (X.map (·.2)) X.length (es.map (·.2)) w) (hlo : lo ≤ g) (ho : Own eSmp 58 g w (.slice (some ⟨g, 0, none⟩) n cap) es) : SmpOwn lo w.heap.size w (.slice (some ⟨g, 0, none⟩) n cap) X := by
  have lt : ∀ (i : Nat) (e : ByteArray × SV), es[i]? = some e → i < X.length := fun i e he => by rw [← hl]; exact (List.getElem?_eq_some_iff.1 he).1
  refine ⟨es, (ho.in_).mono hlo (Nat.le_refl _), hl, fun i e x he hx => ⟨hlab i e x (lt i e he) he hx, ?_⟩, fun i j s t q hs ht => ?_⟩
  · exact (h.own i e.2 x.2 (lt i e he) (by rw [List.getElem?_map, he]; rfl) (by rw [List.getElem?_map, hx]; rfl)).mono (by omega) (Nat.le_refl _)
  · exact h.apart i j s.2 t.2 q (lt i s hs) (lt j t ht) (by rw [List.getElem?_map, hs]; rfl) (by rw [List.getElem?_map, ht]; rfl)

set_option maxRecDepth 100000 in
set_option maxHeartbeats 2000000 in
theorem toSampleS_any (v : Value) (X : XSampleS) (w : World) {lo hi0 : Nat} (h : rSampleS.at_ lo hi0 w v X) (hn : okSampleS X) :
    Calls Tryz.prog 9 #[v] w (RetR rSampleS X w) := by
  replace h := smps_at h
  have HSM := hid h
  obtain ⟨b, off, ao, cap, us, rfl, hnc, hcm, hao, hc, hul, hin⟩ := h.slice
  clear hin hul h hc
  have hn0 : X.length ≤ 1048576 := by unfold okSampleS at hn; omega
  obtain ⟨i0, hi, hz0, hz1, hz2⟩ := info_parts infoSmp
  go_enter Tryz.func9, Tryz.ntmps9
  go_wp2_with (at_make; refine wpList_make_full _ rfl _ _ 33 rfl w.heap.size 58 i0 _ 2 Tryz.underlying33 hi hz0 hz1 _ _ _ _ X.length rfl rfl rfl rfl (by rw [hz2]; omega) (by unfold maxLen; omega) (Nat.le_refl _) ?_; intro w1 hown hgr)
  have hown := Own.made (E := eSmp) (z := ((ByteArray.empty, ⟨none, 0, 0⟩) : ByteArray × SV)) hown rfl
  obtain ⟨g, hg⟩ : ∃ g, g = w.heap.size := ⟨_, rfl⟩
  rw [← hg] at hown ⊢
  have hw1 : Below w.heap.size w w1 := (Below.refl _ _).grown hgr (Nat.le_refl _) (by simp)
  have hg1 : g < w1.heap.size := hown.lt.2
  have Hg := hid hg
  clear hg
  go_loopw [4] (fun i wr => ∃ (k : Nat) (ys : List (ByteArray × SV)), k ≤ X.length ∧ i = .int .i64 k ∧ ys.length = X.length ∧ Hid (∀ (j : Nat) (e : ByteArray × SV) (x : XSample), j < k → ys[j]? = some e → X[j]? = some x → e.1 = x.1) ∧ NestTo eFeat 88 g (X.map (·.2)) k (ys.map (·.2)) wr ∧
      Own eSmp 58 g wr (.slice (some ⟨g, 0, none⟩) X.length X.length) ys ∧ Below w.heap.size w wr ∧ g < wr.heap.size) (fun i _ => X.length - (intOf i).toNat)
  case atStart => exact ⟨0, _, Nat.zero_le _, rfl, by simp, hid (fun _ _ _ h => by omega), NestTo.zero, hown, hw1, hg1⟩
  case round =>
    clear hown hgr hw1 hg1 hi hz0 hz1 hz2 hnc hcm
    obtain ⟨k, ys, hk, rfl, hyl, HL, hys, hown, hb, hgw⟩ := hrel
    have HY := hid hyl
    clear hyl
    by_cases hlt : k < X.length
    · obtain ⟨hao', hbw⟩ := hao (by omega)
      subst hao'
      obtain ⟨x, hx⟩ : ∃ x, X[k]? = some x := ⟨_, List.getElem?_eq_getElem hlt⟩
      obtain ⟨b2, off2, cap2, sa, sc, hsl, _, _, c0, c1, hA⟩ := (HSM.out.below hb).get hx
      simp only [Value.slice.injEq, Option.some.injEq, Addr.mk.injEq] at hsl
      obtain ⟨⟨rfl, rfl, _⟩, _, rfl⟩ := hsl
      have hok := okSampleS_st hn hx
      have CT := toSample_any (.agg #[.string x.1, .slice sa x.2.length sc]) x wr ⟨_, rfl, hA.in_⟩ hok
      have HYS := hid hys
      have HX := hid hx
      clear hao hys hx hA
      go_wp2_with (go_at_call 28; refine CT.mono ?_; rintro e w2 ⟨v2, rfl, ho2, hb2⟩; obtain ⟨u2, rfl, ho2⟩ := ho2; obtain ⟨sa', sc', hu2⟩ := shapeFeatS (rFeatS.own_at ho2); subst hu2; have hown2 := hown.below hb2; clear hown; have hw2 := hb2.size; obtain ⟨u0, hu0⟩ := hown2.slot HY.out.symm k hlt 0 (by decide); obtain ⟨u1, hu1⟩ := hown2.slot HY.out.symm k hlt 1 (by decide); have hf := hown2.free HY.out.symm; have hv0 : w2.cell? ⟨g, k * 2, none⟩ = some u0 := hu0; have hv1 : w2.cell? ⟨g, k * 2 + 1, none⟩ = some u1 := hu1; clear hu0 hu1)
      go_roundw
      case rel =>
        have h2 := hown2.set HY.out.symm k (by rw [HY.out]; exact hlt) ((x.1, ⟨sa', x.2.length, sc'⟩) : ByteArray × SV)
        have e2 : storesAt w2 g (k * eSmp.sz) (eSmp.row ((x.1, ⟨sa', x.2.length, sc'⟩) : ByteArray × SV)) = (w2.setCell ⟨g, k * 2, none⟩ (.string x.1)).setCell ⟨g, k * 2 + 1, none⟩ (.slice sa' x.2.length sc') := rfl
        rw [e2] at h2
        have h3 := HYS.out.step (s := ⟨sa', x.2.length, sc'⟩) hb2 ho2 (by rw [List.getElem?_map, HX.out]; rfl) hgw (by rw [List.length_map, List.length_map]; exact HY.out) ((chg_set w2 g (k * 2) (.string x.1)).trans (chg_set _ g (k * 2 + 1) (.slice sa' x.2.length sc')))
        refine ⟨k + 1, ys.set k (x.1, ⟨sa', x.2.length, sc'⟩), by omega, by go_num, by rw [List.length_set]; exact HY.out, hid (fun j e y hj he hy => ?_), by rw [List.map_set]; exact h3, h2.1, (hb.trans (hb2.mono (by rw [← Hg.out]; omega))).grown h2.2 (by have := hb.size; omega) (by have := Hg.out; simp; omega), Nat.lt_of_lt_of_le (Nat.lt_of_lt_of_le hgw hw2) h2.2.size⟩
        by_cases ej : j = k
        · subst ej
          rw [List.getElem?_set_self (by rw [HY.out]; exact hlt)] at he
          cases he
          rw [HX.out] at hy; cases hy; rfl
        · rw [List.getElem?_set_ne (Ne.symm ej)] at he
          exact HL.out j e y (by omega) he hy
      case measure => simp [intOf]; omega
    · obtain rfl : k = X.length := by omega
      clear hao
      go_wp2
      go_ret
      exact ⟨_, rfl, smpOwn_of HY.out HL.out hys (by rw [Hg.out]; exact Nat.le_refl _) hown, hb⟩
set_option maxRecDepth 100000 in
set_option maxHeartbeats 1000000 in
theorem szSampleS_any (v : Value) (X : XSampleS) (left : Int) (w : World) {lo hi : Nat} (h : rSampleS.at_ lo hi w v X) (hs : goodSampleS X) (hl : 0 ≤ left) (hu : left ≤ 1048576) :
    Calls Tryz.prog 6 #[v, .int .i64 left] w (Ret (.int .i64 (szOf (sizeSampleS X) left)) w) := by
  replace h := smps_at h
  have HSM := hid h
  obtain ⟨b, off, ao, cap, us, rfl, hnc, hcm, hao, hc, hul, hin⟩ := h.slice
  clear hin hul h hc
  unfold maxLen at hcm
  unfold sizeSampleS
  by_cases h0 : left < X.length
  · go_enter Tryz.func6, Tryz.ntmps6
    go_wp2
    go_ret
    exact ret_int (by rw [szOf_neg (by omega)]) (Below.refl _ _)
  have hd : decide (left - (X.length : Int) < 0) = false := by simp; omega
  go_enter Tryz.func6, Tryz.ntmps6
  go_wp2
  go_loopw [1, 5] (fun l i wr => ∃ k : Nat, k ≤ X.length ∧ i = .int .i64 k ∧ l = .int .i64 (left - X.length - sumOf sizeSample (X.take k)) ∧ 0 ≤ left - X.length - sumOf sizeSample (X.take k) ∧ Below w.heap.size w wr) (fun _ i _ => X.length - (intOf i).toNat)
  case atStart => exact ⟨0, Nat.zero_le _, rfl, by simp [sumOf], by simp [sumOf]; omega, Below.refl _ _⟩
  case round =>
    obtain ⟨k, hk, rfl, rfl, hp, hb⟩ := hrel
    by_cases hlt : k < X.length
    · obtain ⟨hao', hbw⟩ := hao (by omega)
      subst hao'
      obtain ⟨x, hx⟩ : ∃ x, X[k]? = some x := ⟨_, List.getElem?_eq_getElem hlt⟩
      obtain ⟨b2, off2, cap2, sa, sc, hsl, _, _, c0, c1, hA⟩ := (HSM.out.below hb).get hx
      simp only [Value.slice.injEq, Option.some.injEq, Addr.mk.injEq] at hsl
      obtain ⟨⟨rfl, rfl, _⟩, _, rfl⟩ := hsl
      have hsum := sumOf_take sizeSample hx
      have hle := sumOf_take_le sizeSample X (k + 1)
      rw [hsum] at hle
      obtain ⟨p, hpp⟩ : ∃ p, p = left - X.length - sumOf sizeSample (X.take k) := ⟨_, rfl⟩
      rw [← hpp] at hp ⊢
      have hpu : p ≤ 1048576 := by omega
      have HS : Hid (sumOf sizeSample (X.take (k + 1)) = sumOf sizeSample (X.take k) + sizeSample x) := hid hsum
      have HP := hid hpp
      have CZ := szSample_any (.agg #[.string x.1, .slice sa x.2.length sc]) x p wr ⟨_, rfl, hA.in_⟩ (hs x (List.mem_of_getElem? hx)) hp hpu
      clear hao hsum hpp hx hA
      by_cases hf : p < sizeSample x
      · rw [szOf_neg hf] at CZ
        go_wp2_with (go_at_call 23; refine CZ.mono ?_; rintro e w2 ⟨rfl, hb2⟩)
        go_ret
        exact ret_int (by rw [szOf_neg (by have := HP.out; omega)]) (hb.trans (hb2.mono hb.size))
      · rw [szOf_pos (by omega)] at CZ
        go_wp2_with (go_at_call 23; refine CZ.mono ?_; rintro e w2 ⟨rfl, hb2⟩)
        go_roundw
        case rel => exact ⟨k + 1, by omega, by go_num, by rw [HS.out, HP.out]; congr 1; omega, by rw [HS.out]; have := HP.out; omega, hb.trans (hb2.mono hb.size)⟩
        case measure => simp [intOf]; omega
    · have hk' : X.length = k := by omega
      clear hao
      go_wp2
      go_ret
      rw [← hk', List.take_length] at hp
      exact ret_int (by rw [← hk', List.take_length, szOf_pos (by omega)]; omega) hb
set_option maxRecDepth 100000 in
set_option maxHeartbeats 1000000 in
theorem eqSampleS_any (v1 v2 : Value) (X : XSampleS) (w : World) {lo1 hi1 lo2 hi2 : Nat} (h1 : rSampleS.at_ lo1 hi1 w v1 X) (h2 : rSampleS.at_ lo2 hi2 w v2 X) :
    Calls Tryz.prog 12 #[v1, v2] w (Ret (.bool true) w) := by
  replace h1 := smps_at h1
  replace h2 := smps_at h2
  have HS1 := hid h1
  have HS2 := hid h2
  obtain ⟨b, off, ao, cap, us, rfl, hnc, hcm, hao, hc, hul, hin⟩ := h1.slice
  obtain ⟨b2, off2, ao2, cap2, us2, rfl, hnc2, hcm2, hao2, hc2, hul2, hin2⟩ := h2.slice
  clear hin hul h1 hc hin2 hul2 h2 hc2
  unfold maxLen at hcm
  go_enter Tryz.func12, Tryz.ntmps12
  go_wp2
  go_loopw [5] (fun i wr => ∃ k : Nat, k ≤ X.length ∧ i = .int .i64 k ∧ Below w.heap.size w wr) (fun i _ => X.length - (intOf i).toNat)
  case atStart => exact ⟨0, Nat.zero_le _, rfl, Below.refl _ _⟩
  case round =>
    obtain ⟨k, hk, rfl, hb⟩ := hrel
    by_cases hlt : k < X.length
    · obtain ⟨hao', hbw⟩ := hao (by omega)
      obtain ⟨hao2', hbw2⟩ := hao2 (by omega)
      subst hao' hao2'
      obtain ⟨x, hx⟩ : ∃ x, X[k]? = some x := ⟨_, List.getElem?_eq_getElem hlt⟩
      obtain ⟨b3, off3, cap3, sa, sc, hsl, _, _, c0, c1, hA⟩ := (HS1.out.below hb).get hx
      simp only [Value.slice.injEq, Option.some.injEq, Addr.mk.injEq] at hsl
      obtain ⟨⟨rfl, rfl, _⟩, _, rfl⟩ := hsl
      obtain ⟨b4, off4, cap4, sa2, sc2, hsl, _, _, d0, d1, hB⟩ := (HS2.out.below hb).get hx
      simp only [Value.slice.injEq, Option.some.injEq, Addr.mk.injEq] at hsl
      obtain ⟨⟨rfl, rfl, _⟩, _, rfl⟩ := hsl
      have a0 := ext_cell c0
      have a1 := ext_cell c1
      have b0 := ext_cell d0
      have b1 := ext_cell d1
      clear hao hao2 hx
      have hli : (k : Int) < (X.length : Int) := by omega
      go_wp2
      refine wp_region_ext (by kernel_rfl) (by kernel_rfl) ?_
      repeat (go_big_quiet_step (((go_at_call 34; exact ret_ext (eqSample_any _ _ x _ ⟨_, rfl, (ext_arr hA _).in_⟩ ⟨_, rfl, (ext_arr hB _).in_⟩)))))
      refine wpQuiet_nil ?_
      intro _ hw'
      obtain ⟨nq, hw''⟩ := hw'
      subst hw''
      go_wp2
      go_roundw
      case rel => exact ⟨k + 1, by omega, by go_num, hb.trans ((ext_below _ _).mono hb.size)⟩
      case measure => simp [intOf]; omega
    · clear hao hao2
      go_wp2
      go_ret
      exact ret_bool rfl hb
end Go.Proofs.YtdifhnckhocmdabGreat
