/- Slices of slices of int64: how their values lie in memory, and what the laws' functions over them do. -/
import Derived.Test.YtbgjojnjbplblaaGreatDoorWrInt64S
import Derived.Test.YtbgjojnjbplblaaGreatDoorNest
namespace Go.Proofs.YtbgjojnjbplblaaGreatDoor
open Go.ChangeShapes Go.WideShapes Go.ChangeAt Go.RowKit Go.Deep

abbrev XInt64SS := List XInt64S
def rInt64SS : Rep XInt64SS := Rep.nest eI 2 51
def totSS (x : XInt64SS) : Nat := sumOf List.length x
def sizeInt64SS (x : XInt64SS) : Nat := x.length + sumOf List.length x
def okInt64SS (x : XInt64SS) : Prop := x.length + totSS x ≤ 1048576
theorem okInt64SS_of {x : XInt64SS} (h : sizeInt64SS x ≤ 1048576) : okInt64SS x := h
theorem okInt64SS_st {x : XInt64SS} (h : okInt64SS x) {k : Nat} {s : XInt64S} (hs : x[k]? = some s) : okInt64S s := by
  have := sumOf_mem List.length hs
  unfold okInt64SS totSS at h; unfold okInt64S; omega
def cntInt64SS (x : XInt64SS) : Int := (totSS x : Int)
theorem cntInt64SS_bd {x : XInt64SS} (h : okInt64SS x) : 0 ≤ cntInt64SS x ∧ cntInt64SS x ≤ 10000000 := by unfold okInt64SS at h; unfold cntInt64SS; omega
def mkXInt64SS (k : Int) (x : XInt64SS) : XInt64SS := (List.range x.length).map fun i => mkInt (k + (totSS (x.take i) : Int)) ((x[i]?).getD []).length
theorem mkXInt64SS_len (k : Int) (x : XInt64SS) : (mkXInt64SS k x).length = x.length := by simp [mkXInt64SS]
theorem mkXInt64SS_get (k : Int) {x : XInt64SS} {i : Nat} {s : XInt64S} (h : x[i]? = some s) : (mkXInt64SS k x)[i]? = some (mkInt (k + (totSS (x.take i) : Int)) s.length) := by
  have hi := (List.getElem?_eq_some_iff.1 h).1
  simp [mkXInt64SS, hi]
  have := (List.getElem?_eq_some_iff.1 h).2
  rw [this]
theorem nestI_slice {lo hi : Nat} {w : World} {u : Value} {x : XInt64SS} (h : rInt64SS.at_ lo hi w u x) : ∃ sa sc, u = .slice sa x.length sc := by
  obtain ⟨vs, h1, h2, _⟩ := h
  obtain ⟨sa, sc, rfl⟩ := (ArrIn.arr h1).isSlice
  exact ⟨sa, sc, by rw [h2]⟩
theorem shapeInt64SS {lo hi : Nat} {w : World} {v : Value} {x : XInt64SS} (h : rInt64SS.at_ lo hi w v x) : ∃ sa sc, v = .slice sa x.length sc := nestI_slice h
theorem rInt64S_at {w : World} {u : Value} {x : XInt64S} (h : Arr eI w u x) : rInt64S.at_ 0 w.heap.size w u x := h.in_

/-- rows of numbers that can be read -/
def RowsI (w : World) (u : Value) (X : XInt64SS) : Prop := ∃ vs : List SV, Arr eS1 w u vs ∧ vs.length = X.length ∧ ∀ (i : Nat) (s : SV) (x : XInt64S), vs[i]? = some s → X[i]? = some x → Arr eI w s.val x
theorem RowsI.below {w w' : World} {u : Value} {X : XInt64SS} (h : RowsI w u X) (hb : Below w.heap.size w w') : RowsI w' u X := by
  obtain ⟨vs, h1, h2, h3⟩ := h
  exact ⟨vs, h1.below hb, h2, fun i s x hs hx => (h3 i s x hs hx).below hb⟩
theorem RowsI.alloc {w : World} {u : Value} {X : XInt64SS} (h : RowsI w u X) (o : Obj) : RowsI (w.alloc o) u X := h.below (below_alloc _ _)
theorem RowsI.slice {w : World} {u : Value} {X : XInt64SS} (h : RowsI w u X) : ∃ b off ao cap vs, u = .slice ao X.length cap ∧ X.length ≤ cap ∧ cap ≤ maxLen ∧ (0 < X.length → ao = some ⟨b, off, none⟩ ∧ b < w.heap.size) ∧ Cells eS1 w b off vs ∧ vs.length = X.length ∧
    ∀ (i : Nat) (s : SV) (x : XInt64S), vs[i]? = some s → X[i]? = some x → Arr eI w s.val x := by
  obtain ⟨vs, ⟨b, off, ao, cap, hv, h1, h2, h3, h4⟩, hl, h5⟩ := h
  rw [hl] at hv h1 h3
  exact ⟨b, off, ao, cap, vs, hv, h1, h2, h3, h4, hl, h5⟩
theorem rowsI_at {lo hi : Nat} {w : World} {u : Value} {x : XInt64SS} (h : rInt64SS.at_ lo hi w u x) : RowsI w u x := NestIn.arr h
theorem RowsI.at_ {w : World} {u : Value} {x : XInt64SS} (h : RowsI w u x) : rInt64SS.at_ 0 w.heap.size w u x := by
  obtain ⟨vs, h1, h2, h3⟩ := h
  exact ⟨vs, h1.in_, h2, fun i s y hs hy => (h3 i s y hs hy).in_⟩
theorem infoIS : (Tryz.prog.info? 51).map (fun i => (i.zero, i.size, i.bytes)) = some (some (.slice none 0 0), 1, 24) := by kernel_rfl

set_option maxHeartbeats 400000 in
theorem eqInt64SS_any (v1 v2 : Value) (X : XInt64SS) (w : World) (h1 : RowsI w v1 X) (h2 : RowsI w v2 X) :
    Calls Tryz.prog 30 #[v1, v2] w (Ret (.bool true) w) := by
  obtain ⟨b, off, ao, cap, us, rfl, hnc, hcm, hao, hc, hul, hin⟩ := h1.slice
  obtain ⟨b2, off2, ao2, cap2, us2, rfl, hnc2, hcm2, hao2, hc2, hul2, hin2⟩ := h2.slice
  unfold maxLen at hcm
  go_enter Tryz.func30, Tryz.ntmps30
  go_wp2
  go_loopw [5] (fun i wr => ∃ k : Nat, k ≤ X.length ∧ i = .int .i64 k ∧ Below w.heap.size w wr) (fun i _ => X.length - (intOf i).toNat)
  case atStart => exact ⟨0, Nat.zero_le _, rfl, Below.refl _ _⟩
  case round =>
    obtain ⟨k, hk, rfl, hb⟩ := hrel
    by_cases hlt : k < X.length
    · obtain ⟨hao', hbw⟩ := hao (by omega)
      obtain ⟨hao2', hbw2⟩ := hao2 (by omega)
      subst hao' hao2'
      obtain ⟨x, hx⟩ : ∃ x, X[k]? = some x := ⟨_, List.getElem?_eq_getElem hlt⟩
      obtain ⟨s, hsv⟩ : ∃ s, us[k]? = some s := ⟨_, List.getElem?_eq_getElem (by omega)⟩
      obtain ⟨s2, hsv2⟩ : ∃ s, us2[k]? = some s := ⟨_, List.getElem?_eq_getElem (by omega)⟩
      have c0 := eS1_cells (hc.below hb hbw) hsv
      have d0 := eS1_cells (hc2.below hb hbw2) hsv2
      have a0 := ext_cell c0
      have b0 := ext_cell d0
      have hA := (hin k s x hsv hx).below hb
      have hB := (hin2 k s2 x hsv2 hx).below hb
      have HIN := hid hin
      have HIN2 := hid hin2
      clear hao hao2 hin hin2
      have hli : (k : Int) < (X.length : Int) := by omega
      go_wp2
      refine wp_region_ext (by kernel_rfl) (by kernel_rfl) ?_
      repeat (go_big_quiet_step (((go_at_call 59; exact ret_ext (eqInt64SR_any _ _ x _ (rInt64S_at (ext_arr hA _)) (rInt64S_at (ext_arr hB _)))))))
      refine wpQuiet_nil ?_
      intro _ hw'
      obtain ⟨nq, hw''⟩ := hw'
      subst hw''
      go_wp2
      go_roundw
      case rel => exact ⟨k + 1, by omega, by go_num, hb.trans ((ext_below _ _).mono hb.size)⟩
      case measure => simp [intOf]; omega
    · go_wp2
      go_ret
      exact ret_bool rfl hb
set_option maxHeartbeats 1000000 in
theorem markInt64SS_any (v : Value) (X : XInt64SS) (lo hi : Nat) (k : Int) (w : World) (h : rInt64SS.own lo hi w v X) (hn : okInt64SS X) (hk0 : 0 ≤ k) (hk1 : k ≤ 10000000) :
    Calls Tryz.prog 32 #[v, .int .i64 k] w (RetMark rInt64SS (mkXInt64SS k X) (k + cntInt64SS X) lo hi v w) := by
  obtain ⟨vs, h1, h2, h3, h4⟩ := h
  have hst : NestSt eI 2 51 lo hi v vs X w := ⟨h1, h2, h3, h4⟩
  have hsl : ∃ (ao : Option Addr) (cap g : Nat), v = .slice ao X.length cap ∧ X.length ≤ 1048576 ∧ (0 < X.length → ao = some ⟨g, 0, none⟩) := by
    have hx : X.length ≤ 1048576 := by unfold okInt64SS at hn; omega
    rcases h1.1.shape with ⟨hv, h0⟩ | ⟨g, cap, hv, _, _⟩
    · rw [h0] at h2; have h2 : X.length = 0 := h2.symm; exact ⟨none, 0, 0, by rw [hv, h2], hx, by omega⟩
    · exact ⟨_, cap, g, by rw [hv, h2], hx, fun _ => rfl⟩
  clear h1 h2 h3 h4
  obtain ⟨ao, cap, g, rfl, hxl, hao⟩ := hsl
  go_enter Tryz.func32, Tryz.ntmps32
  go_wp2
  go_loopw [1, 5] (fun kv iv wr => ∃ (i : Nat) (Y : XInt64SS), i ≤ X.length ∧ iv = .int .i64 i ∧ kv = .int .i64 (k + (totSS (X.take i) : Int)) ∧ Y.length = X.length ∧ (∀ j, j < i → Y[j]? = (mkXInt64SS k X)[j]?) ∧ (∀ j, i ≤ j → Y[j]? = X[j]?) ∧
      NestSt eI 2 51 lo hi (.slice ao X.length cap) vs Y wr ∧ Mk rInt64SS.ty lo hi w wr) (fun _ i _ => X.length - (intOf i).toNat)
  case atStart => exact ⟨0, X, Nat.zero_le _, rfl, by simp [totSS, sumOf], rfl, by simp, fun _ _ => rfl, hst, Mk.refl _ _ _ _⟩
  case round =>
    clear hst
    obtain ⟨i, Y, hk, rfl, rfl, hyl, hys, hyr, ho, hch⟩ := hrel
    have HY := hid hyl
    have HYS := hid hys
    have HYR := hid hyr
    clear hyl hys hyr
    by_cases hlt : i < X.length
    · have hao' := hao (by omega)
      subst hao'
      clear hao
      obtain ⟨x, hx⟩ : ∃ x, X[i]? = some x := ⟨_, List.getElem?_eq_getElem hlt⟩
      obtain ⟨s, hs⟩ : ∃ s, vs[i]? = some s := ⟨_, List.getElem?_eq_getElem (by rw [ho.len, HY.out]; exact hlt)⟩
      have hYx : Y[i]? = some x := (HYR.out i (Nat.le_refl _)).trans hx
      have hin := ho.inner i s x hs hYx
      obtain ⟨lo', hi', hl, hnar, hout, hblk⟩ := hin.narrow
      have HX := hid hx
      have c0 : wr.cell? ⟨g, i, none⟩ = some (.slice s.a s.n s.c) := by
        obtain ⟨b, off, ao, cap', hv, _, _, hb0, hcl⟩ := ho.outer.1.arr
        simp at hv
        obtain ⟨rfl, _, rfl⟩ := hv
        have := hb0 (by rw [ho.len, HY.out]; omega)
        simp at this
        obtain ⟨⟨rfl, rfl⟩, _⟩ := this
        have := eS1_cells hcl hs
        rwa [Nat.zero_add] at this
      have hok := okInt64SS_st hn hx
      have hsum := sumOf_take List.length hx
      have hle := sumOf_take_le List.length X i
      have hb0 : (totSS (X.take i)) ≤ 1048576 := by unfold okInt64SS at hn; unfold totSS at hn ⊢; omega
      have HS : Hid (totSS (X.take (i + 1)) = totSS (X.take i) + x.length) := hid hsum
      clear hsum hle hx
      have HO := hid ho
      have HB := hid hblk
      have HU := hid hout
      have HC := hid hch
      clear ho hblk hout hch hin
      go_wp2_with (go_at_call 60; refine (markInt64SR_any _ x lo' hi' _ _ hnar hok (by omega) (by omega)).mono ?_; rintro e w2 ⟨rfl, ho2, hm2⟩; unfold cntInt64S)
      go_roundw
      case rel =>
        have hn2 := HO.out.mark (by rfl) hs hYx hl HU.out HB.out ho2 hm2
        have h1 := fill_step (xs := mkXInt64SS k X) (by rw [mkXInt64SS_len]; exact HY.out) HYS.out (mkXInt64SS_get k HX.out)
        refine ⟨i + 1, _, by omega, by go_num, by rw [HS.out]; congr 1; push_cast; omega, ?_, h1.2, fun j hj => ?_, hn2.1, HC.out.trans hn2.2⟩
        · rw [List.length_set]; exact HY.out
        · rw [List.getElem?_set_ne (by omega)]; exact HYR.out j (by omega)
      case measure => simp [intOf]; omega
    · obtain rfl : i = X.length := by omega
      have := fill_done (xs := mkXInt64SS k X) (by rw [mkXInt64SS_len]; exact HY.out) HYS.out (by rw [mkXInt64SS_len]; exact Nat.le_refl _)
      subst this
      clear HYS
      rw [List.take_length]
      go_wp2
      go_ret
      exact ⟨rfl, ho.own, hch⟩
set_option maxRecDepth 100000 in
set_option maxHeartbeats 1000000 in
theorem heldInt64SS_any (v : Value) (X : XInt64SS) (k : Int) (w : World) (h : RowsI w v (mkXInt64SS k X)) (hn : okInt64SS X) (hk0 : 0 ≤ k) (hk1 : k ≤ 10000000) :
    Calls Tryz.prog 34 #[v, .int .i64 k] w (Ret (.int .i64 (k + cntInt64SS X)) w) := by
  obtain ⟨b, off, ao, cap, us, rfl, hnc, hcm, hao, hc, hul, hin⟩ := h.slice
  rw [mkXInt64SS_len] at hnc hao hul
  have hX : X.length ≤ 1048576 := by unfold okInt64SS at hn; omega
  unfold maxLen at hcm
  simp only [mkXInt64SS_len]
  go_enter Tryz.func34, Tryz.ntmps34
  go_wp2
  go_loopw [1, 5] (fun kv iv wr => ∃ (i : Nat), i ≤ X.length ∧ iv = .int .i64 i ∧ kv = .int .i64 (k + (totSS (X.take i) : Int)) ∧ Below w.heap.size w wr) (fun _ i _ => X.length - (intOf i).toNat)
  case atStart => exact ⟨0, Nat.zero_le _, rfl, by simp [totSS, sumOf], Below.refl _ _⟩
  case round =>
    obtain ⟨i, hk, rfl, rfl, hb⟩ := hrel
    by_cases hlt : i < X.length
    · obtain ⟨hao', hbw⟩ := hao (by omega)
      subst hao'
      clear hao
      obtain ⟨x, hx⟩ : ∃ x, X[i]? = some x := ⟨_, List.getElem?_eq_getElem hlt⟩
      obtain ⟨s, hsv⟩ : ∃ s, us[i]? = some s := ⟨_, List.getElem?_eq_getElem (by omega)⟩
      have c0 := eS1_cells (hc.below hb hbw) hsv
      have hA := rInt64S_at ((hin i s _ hsv (mkXInt64SS_get k hx)).below hb)
      have hok := okInt64SS_st hn hx
      have hsum := sumOf_take List.length hx
      have hle := sumOf_take_le List.length X i
      have hb0 : (totSS (X.take i)) ≤ 1048576 := by unfold okInt64SS at hn; unfold totSS at hn ⊢; omega
      have HS : Hid (totSS (X.take (i + 1)) = totSS (X.take i) + x.length) := hid hsum
      have HIN := hid hin
      obtain ⟨sa, sn, sc⟩ := s
      obtain ⟨_, _, hsl⟩ := (rInt64S_arr hA).isSlice
      simp only [SV.val, Value.slice.injEq, mkInt_len] at hsl
      obtain ⟨e1, rfl, e2⟩ := hsl
      clear e1 e2
      simp only at c0
      obtain ⟨kk, hkk⟩ : ∃ kk : Int, kk = k + (totSS (X.take i) : Int) := ⟨_, rfl⟩
      have hk3 : 0 ≤ kk := by omega
      have hk4 : kk ≤ 20000000 := by omega
      have HKK := hid hkk
      have CH := heldInt64SR_any (.slice sa x.length sc) x kk wr (by rw [hkk]; exact hA) hok hk3 hk4
      rw [← hkk]
      clear hsum hle hx hin hkk hb0
      have hlen : (x.length : Int) ≤ 1048576 := by unfold okInt64S at hok; omega
      go_wp2_with fail
      refine CH.mono ?_
      rintro e w2 ⟨rfl, hb2⟩
      unfold cntInt64S
      go_wp2_with fail
      go_roundw
      case rel => exact ⟨i + 1, by omega, by go_num, by rw [HS.out, HKK.out]; congr 1; push_cast; omega, hb.trans (hb2.mono hb.size)⟩
      case measure => simp [intOf]; omega
    · obtain rfl : i = X.length := by omega
      rw [List.take_length]
      go_wp2
      go_ret
      exact ret_int rfl hb
end Go.Proofs.YtbgjojnjbplblaaGreatDoor
