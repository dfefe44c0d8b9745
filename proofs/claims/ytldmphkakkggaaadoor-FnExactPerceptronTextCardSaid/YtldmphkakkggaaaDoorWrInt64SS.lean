/- Slices of slices of int64: how their values lie in memory, and what the laws' functions over them do. -/
import Derived.Test.YtldmphkakkggaaaDoorWrInt64S
import Derived.Test.YtldmphkakkggaaaDoorNest
namespace Go.Proofs.YtldmphkakkggaaaDoor
open Go.ChangeShapes Go.WideShapes Go.ChangeAt Go.RowKit Go.Deep

abbrev XInt64SS := List XInt64S
def rInt64SS : Rep XInt64SS := Rep.nest eI 2 111
def totSS (x : XInt64SS) : Nat := sumOf List.length x
def sizeInt64SS (x : XInt64SS) : Nat := x.length + sumOf List.length x
def okInt64SS (x : XInt64SS) : Prop := x.length + totSS x ≤ 1048576
theorem okInt64SS_of {x : XInt64SS} (h : sizeInt64SS x ≤ 1048576) : okInt64SS x := h
theorem okInt64SS_st {x : XInt64SS} (h : okInt64SS x) {k : Nat} {s : XInt64S} (hs : x[k]? = some s) : okInt64S s := by
  have := sumOf_mem List.length hs
  unfold okInt64SS totSS at h; unfold okInt64S; omega
def cntInt64SS (x : XInt64SS) : Int := (totSS x : Int)
theorem cntInt64SS_bd {x : XInt64SS} (h : okInt64SS x) : 0 ≤ cntInt64SS x ∧ cntInt64SS x ≤ 10000000 := by unfold okInt64SS at h; unfold cntInt64SS; omega
def mkXInt64SS (k : Int) (x : XInt64SS) : XInt64SS := (List.range x.length).map fun i => mkInt (k + (totSS (x.take i) : Int)) ((x[i]?).getD []).length
theorem mkXInt64SS_len (k : Int) (x : XInt64SS) : (mkXInt64SS k x).length = x.length := by simp [mkXInt64SS]
theorem mkXInt64SS_get (k : Int) {x : XInt64SS} {i : Nat} {s : XInt64S} (h : x[i]? = some s) : (mkXInt64SS k x)[i]? = some (mkInt (k + (totSS (x.take i) : Int)) s.length) := by
  have hi := (List.getElem?_eq_some_iff.1 h).1
  simp [mkXInt64SS, hi]
  have := (List.getElem?_eq_some_iff.1 h).2
  rw [this]
theorem nestI_slice {lo hi : Nat} {w : World} {u : Value} {x : XInt64SS} (h : rInt64SS.at_ lo hi w u x) : ∃ sa sc, u = .slice sa x.length sc := by
  obtain ⟨vs, h1, h2, _⟩ := h
  obtain ⟨sa, sc, rfl⟩ := (ArrIn.arr h1).isSlice
  exact ⟨sa, sc, by rw [h2]⟩
theorem shapeInt64SS {lo hi : Nat} {w : World} {v : Value} {x : XInt64SS} (h : rInt64SS.at_ lo hi w v x) : ∃ sa sc, v = .slice sa x.length sc := nestI_slice h
theorem rInt64S_at {w : World} {u : Value} {x : XInt64S} (h : Arr eI w u x) : rInt64S.at_ 0 w.heap.size w u x := h.in_

/-- rows of numbers that can be read -/
def RowsI (w : World) (u : Value) (X : XInt64SS) : Prop := ∃ vs : List SV, Arr eS1 w u vs ∧ vs.length = X.length ∧ ∀ (i : Nat) (s : SV) (x : XInt64S), vs[i]? = some s → X[i]? = some x → Arr eI w s.val x
theorem RowsI.below {w w' : World} {u : Value} {X : XInt64SS} (h : RowsI w u X) (hb : Below w.heap.size w w') : RowsI w' u X := by
  obtain ⟨vs, h1, h2, h3⟩ := h
  exact ⟨vs, h1.below hb, h2, fun i s x hs hx => (h3 i s x hs hx).below hb⟩
theorem RowsI.alloc {w : World} {u : Value} {X : XInt64SS} (h : RowsI w u X) (o : Obj) : RowsI (w.alloc o) u X := h.below (below_alloc _ _)
theorem RowsI.slice {w : World} {u : Value} {X : XInt64SS} (h : RowsI w u X) : ∃ b off ao cap vs, u = .slice ao X.length cap ∧ X.length ≤ cap ∧ cap ≤ maxLen ∧ (0 < X.length → ao = some ⟨b, off, none⟩ ∧ b < w.heap.size) ∧ Cells eS1 w b off vs ∧ vs.length = X.length ∧
    ∀ (i : Nat) (s : SV) (x : XInt64S), vs[i]? = some s → X[i]? = some x → Arr eI w s.val x := by
  obtain ⟨vs, ⟨b, off, ao, cap, hv, h1, h2, h3, h4⟩, hl, h5⟩ := h
  rw [hl] at hv h1 h3
  exact ⟨b, off, ao, cap, vs, hv, h1, h2, h3, h4, hl, h5⟩
theorem rowsI_at {lo hi : Nat} {w : World} {u : Value} {x : XInt64SS} (h : rInt64SS.at_ lo hi w u x) : RowsI w u x := NestIn.arr h
theorem RowsI.at_ {w : World} {u : Value} {x : XInt64SS} (h : RowsI w u x) : rInt64SS.at_ 0 w.heap.size w u x := by
  obtain ⟨vs, h1, h2, h3⟩ := h
  exact ⟨vs, h1.in_, h2, fun i s y hs hy => (h3 i s y hs hy).in_⟩
theorem infoIS : (Tryd.prog.info? 111).map (fun i => (i.zero, i.size, i.bytes)) = some (some (.slice none 0 0), 1, 24) := by kernel_rfl

set_option maxHeartbeats 1000000 in
theorem toInt64SS_any (v : Value) (X : XInt64SS) (w : World) (h : RowsI w v X) (hn : okInt64SS X) :
    Calls Tryd.prog 59 #[v] w (RetR rInt64SS X w) := by
  obtain ⟨b, off, ao, cap, us, rfl, hnc, hcm, hao, hc, hul, hin⟩ := h.slice
  have hn0 : X.length ≤ 1048576 := by unfold okInt64SS at hn; omega
  obtain ⟨i0, hi, hz0, hz1, hz2⟩ := info_parts infoIS
  go_enter Tryd.func59, Tryd.ntmps59
  go_wp2_with (at_make; refine wpList_make_full _ rfl _ _ 58 rfl w.heap.size 111 i0 _ 1 Tryd.underlying58 hi hz0 hz1 _ _ _ _ X.length rfl rfl rfl rfl (by rw [hz2]; omega) (by unfold maxLen; omega) (Nat.le_refl _) ?_; intro w1 hown hgr)
  have hown := Own.made (E := eS1) (z := (⟨none, 0, 0⟩ : SV)) hown rfl
  obtain ⟨g, hg⟩ : ∃ g, g = w.heap.size := ⟨_, rfl⟩
  rw [← hg] at hown ⊢
  have hw1 : Below w.heap.size w w1 := (Below.refl _ _).grown hgr (Nat.le_refl _) (by simp)
  have hg1 : g < w1.heap.size := hown.lt.2
  have Hg := hid hg
  clear hg
  go_loopw [4] (fun i wr => ∃ (k : Nat) (ys : List SV), k ≤ X.length ∧ i = .int .i64 k ∧ ys.length = X.length ∧ NestTo eI 2 g X k ys wr ∧
      Own eS1 111 g wr (.slice (some ⟨g, 0, none⟩) X.length X.length) ys ∧ Below w.heap.size w wr ∧ g < wr.heap.size) (fun i _ => X.length - (intOf i).toNat)
  case atStart => exact ⟨0, _, Nat.zero_le _, rfl, by simp, NestTo.zero, hown, hw1, hg1⟩
  case round =>
    clear hown hgr hw1 hg1 hi hz0 hz1 hz2 hnc hcm h
    obtain ⟨k, ys, hk, rfl, hyl, hys, hown, hb, hgw⟩ := hrel
    have HY := hid hyl
    clear hyl
    by_cases hlt : k < X.length
    · obtain ⟨hao', hbw⟩ := hao (by omega)
      subst hao'
      obtain ⟨x, hx⟩ : ∃ x, X[k]? = some x := ⟨_, List.getElem?_eq_getElem hlt⟩
      obtain ⟨s, hs⟩ : ∃ s, us[k]? = some s := ⟨_, List.getElem?_eq_getElem (by omega)⟩
      have hA := (hin k s x hs hx).below hb
      have hok := okInt64SS_st hn hx
      have c0 := eS1_cells (hc.below hb hbw) hs
      have HIN := hid hin
      have HYS := hid hys
      have HX := hid hx
      have HOW := hid hown
      obtain ⟨u0', hu0'⟩ := hown.slot HY.out.symm k hlt 0 (by decide)
      clear hao hin hys hx u0' hu0'
      go_wp2_with (go_at_call 89; refine (toInt64S_any _ x _ hA hok).mono ?_; rintro e w2 ⟨v2, rfl, ho2, hb2⟩; obtain ⟨sa, sc, hu2⟩ := ho2.isSlice; subst hu2; have hown2 := hown.below hb2; clear hown; have hw2 := hb2.size; obtain ⟨u0, hu0⟩ := hown2.slot HY.out.symm k hlt 0 (by decide); have hf := hown2.free HY.out.symm; have hv0 : w2.cell? ⟨g, k, none⟩ = some u0 := by { have e : k * eS1.sz + 0 = k := (by show k * 1 + 0 = k; omega); rw [e] at hu0; exact hu0 }; clear hu0)
      go_roundw
      case rel =>
        have h2 := hown2.set HY.out.symm k (by rw [HY.out]; exact hlt) (⟨sa, x.length, sc⟩ : SV)
        have e2 : storesAt w2 g (k * eS1.sz) (eS1.row (⟨sa, x.length, sc⟩ : SV)) = w2.setCell ⟨g, k, none⟩ (.slice sa x.length sc) := by
          show w2.setCell ⟨g, k * 1, none⟩ _ = _
          rw [Nat.mul_one]; rfl
        rw [e2] at h2
        exact ⟨k + 1, ys.set k ⟨sa, x.length, sc⟩, by omega, by go_num, by rw [List.length_set]; exact HY.out, HYS.out.step (s := ⟨sa, x.length, sc⟩) hb2 ho2.in_ HX.out hgw HY.out (chg_set _ _ _ _), h2.1, (hb.trans (hb2.mono (by rw [← Hg.out]; omega))).grown h2.2 (by have := hb.size; omega) (by have := Hg.out; simp; omega), Nat.lt_of_lt_of_le (Nat.lt_of_lt_of_le hgw hw2) h2.2.size⟩
      case measure => simp [intOf]; omega
    · obtain rfl : k = X.length := by omega
      go_wp2
      go_ret
      exact ⟨_, rfl, hys.done HY.out (by rw [Hg.out]; exact Nat.le_refl _) hown, hb⟩
set_option maxHeartbeats 400000 in
theorem szInt64SS_any (v : Value) (X : XInt64SS) (left : Int) (w : World) (h : RowsI w v X) (hl : 0 ≤ left) (hu : left ≤ 1048576) :
    Calls Tryd.prog 55 #[v, .int .i64 left] w (Ret (.int .i64 (szOf (sizeInt64SS X) left)) w) := by
  obtain ⟨b, off, ao, cap, us, rfl, hnc, hcm, hao, hc, hul, hin⟩ := h.slice
  unfold maxLen at hcm
  unfold sizeInt64SS
  by_cases h0 : left < X.length
  · go_enter Tryd.func55, Tryd.ntmps55
    go_wp2
    go_ret
    exact ret_int (by rw [szOf_neg (by omega)]) (Below.refl _ _)
  have hd : decide (left - (X.length : Int) < 0) = false := by simp; omega
  go_enter Tryd.func55, Tryd.ntmps55
  go_wp2
  go_loopw [1, 5] (fun l i wr => ∃ k : Nat, k ≤ X.length ∧ i = .int .i64 k ∧ l = .int .i64 (left - X.length - sumOf List.length (X.take k)) ∧ 0 ≤ left - X.length - sumOf List.length (X.take k) ∧ Below w.heap.size w wr) (fun _ i _ => X.length - (intOf i).toNat)
  case atStart => exact ⟨0, Nat.zero_le _, rfl, by simp [sumOf], by simp [sumOf]; omega, Below.refl _ _⟩
  case round =>
    obtain ⟨k, hk, rfl, rfl, hp, hb⟩ := hrel
    by_cases hlt : k < X.length
    · obtain ⟨hao', hbw⟩ := hao (by omega)
      subst hao'
      obtain ⟨x, hx⟩ : ∃ x, X[k]? = some x := ⟨_, List.getElem?_eq_getElem hlt⟩
      obtain ⟨s, hsv⟩ : ∃ s, us[k]? = some s := ⟨_, List.getElem?_eq_getElem (by omega)⟩
      have c0 := eS1_cells (hc.below hb hbw) hsv
      have hA := rInt64S_at ((hin k s x hsv hx).below hb)
      have hsum := sumOf_take List.length hx
      have hle := sumOf_take_le List.length X (k + 1)
      rw [hsum] at hle
      obtain ⟨p, hpp⟩ : ∃ p, p = left - X.length - sumOf List.length (X.take k) := ⟨_, rfl⟩
      rw [← hpp] at hp ⊢
      have hpu : p ≤ 1048576 := by omega
      have HS : Hid (sumOf List.length (X.take (k + 1)) = sumOf List.length (X.take k) + x.length) := hid hsum
      have HP := hid hpp
      have HIN := hid hin
      clear hao hsum hpp hin
      by_cases hf : p < x.length
      · go_wp2_with (go_at_call 87; refine (szInt64SR_any _ x _ _ hA trivial (by omega) (by omega)).mono ?_; rintro e w2 ⟨rfl, hb2⟩; rw [szOf_neg hf])
        go_ret
        exact ret_int (by rw [szOf_neg (by have := HP.out; omega)]) (hb.trans (hb2.mono hb.size))
      · go_wp2_with (go_at_call 87; refine (szInt64SR_any _ x _ _ hA trivial (by omega) (by omega)).mono ?_; rintro e w2 ⟨rfl, hb2⟩; rw [szOf_pos (by omega)])
        go_roundw
        case rel => exact ⟨k + 1, by omega, by go_num, by rw [HS.out, HP.out]; congr 1; omega, by rw [HS.out]; have := HP.out; omega, hb.trans (hb2.mono hb.size)⟩
        case measure => simp [intOf]; omega
    · have hk' : X.length = k := by omega
      go_wp2
      go_ret
      rw [← hk', List.take_length] at hp
      exact ret_int (by rw [← hk', List.take_length, szOf_pos (by omega)]; omega) hb
set_option maxHeartbeats 400000 in
theorem eqInt64SS_any (v1 v2 : Value) (X : XInt64SS) (w : World) (h1 : RowsI w v1 X) (h2 : RowsI w v2 X) :
    Calls Tryd.prog 62 #[v1, v2] w (Ret (.bool true) w) := by
  obtain ⟨b, off, ao, cap, us, rfl, hnc, hcm, hao, hc, hul, hin⟩ := h1.slice
  obtain ⟨b2, off2, ao2, cap2, us2, rfl, hnc2, hcm2, hao2, hc2, hul2, hin2⟩ := h2.slice
  unfold maxLen at hcm
  go_enter Tryd.func62, Tryd.ntmps62
  go_wp2
  go_loopw [5] (fun i wr => ∃ k : Nat, k ≤ X.length ∧ i = .int .i64 k ∧ Below w.heap.size w wr) (fun i _ => X.length - (intOf i).toNat)
  case atStart => exact ⟨0, Nat.zero_le _, rfl, Below.refl _ _⟩
  case round =>
    obtain ⟨k, hk, rfl, hb⟩ := hrel
    by_cases hlt : k < X.length
    · obtain ⟨hao', hbw⟩ := hao (by omega)
      obtain ⟨hao2', hbw2⟩ := hao2 (by omega)
      subst hao' hao2'
      obtain ⟨x, hx⟩ : ∃ x, X[k]? = some x := ⟨_, List.getElem?_eq_getElem hlt⟩
      obtain ⟨s, hsv⟩ : ∃ s, us[k]? = some s := ⟨_, List.getElem?_eq_getElem (by omega)⟩
      obtain ⟨s2, hsv2⟩ : ∃ s, us2[k]? = some s := ⟨_, List.getElem?_eq_getElem (by omega)⟩
      have c0 := eS1_cells (hc.below hb hbw) hsv
      have d0 := eS1_cells (hc2.below hb hbw2) hsv2
      have a0 := ext_cell c0
      have b0 := ext_cell d0
      have hA := (hin k s x hsv hx).below hb
      have hB := (hin2 k s2 x hsv2 hx).below hb
      have HIN := hid hin
      have HIN2 := hid hin2
      clear hao hao2 hin hin2
      have hli : (k : Int) < (X.length : Int) := by omega
      go_wp2
      refine wp_region_ext (by kernel_rfl) (by kernel_rfl) ?_
      repeat (go_big_quiet_step (((go_at_call 94; exact ret_ext (eqInt64SR_any _ _ x _ (rInt64S_at (ext_arr hA _)) (rInt64S_at (ext_arr hB _)))))))
      refine wpQuiet_nil ?_
      intro _ hw'
      obtain ⟨nq, hw''⟩ := hw'
      subst hw''
      go_wp2
      go_roundw
      case rel => exact ⟨k + 1, by omega, by go_num, hb.trans ((ext_below _ _).mono hb.size)⟩
      case measure => simp [intOf]; omega
    · go_wp2
      go_ret
      exact ret_bool rfl hb
end Go.Proofs.YtldmphkakkggaaaDoor
