/- The input of features: both calls. -/
import Derived.Test.YtdifhnckhocmdabGreatPcFeats
import Derived.Test.YtdifhnckhocmdabGreatPcNear
import Derived.Test.YtdifhnckhocmdabGreatWrInt64S
import Derived.Deep.Cut
namespace Go.Proofs.YtdifhnckhocmdabGreat
open Go.RowKit

theorem featsOk_len {x : List DFeat} (h : featsOk x = true) : 1 ≤ x.length ∧ x.length ≤ 384 := by
  unfold featsOk at h
  rw [Bool.and_eq_true, inB_true] at h
  omega
theorem featsOk_mem {x : List DFeat} (h : featsOk x = true) {k : Nat} {f : DFeat} (hf : x[k]? = some f) : featOk f = true := by
  unfold featsOk at h
  rw [Bool.and_eq_true, List.all_eq_true] at h
  exact h.1 f (List.mem_of_getElem? hf)
theorem ownE_get {B g n cap : Nat} {w : World} {xs : List Int} (h : Own eI 2 B w (.slice (some ⟨g, 0, none⟩) n cap) xs) {k : Nat} {c : Int} (hx : xs[k]? = some c) : w.cell? ⟨g, k, none⟩ = some (.int .i64 c) := by
  obtain ⟨b, off, ao, cap', hv, _, _, hao, hc⟩ := h.arr
  simp only [Value.slice.injEq] at hv
  have h0 := (hao (by have := (List.getElem?_eq_some_iff.1 hx).1; omega)).1
  rw [← hv.1] at h0
  simp at h0
  have := eI_cell hc hx
  rw [← h0.1, ← h0.2] at this
  simpa using this
theorem ownE_set {B g n cap : Nat} {w : World} {xs : List Int} (h : Own eI 2 B w (.slice (some ⟨g, 0, none⟩) n cap) xs) (hn : n = xs.length) {k : Nat} (hk : k < xs.length) (c : Int) :
    Own eI 2 B (w.setCell ⟨g, k, none⟩ (.int .i64 c)) (.slice (some ⟨g, 0, none⟩) n cap) (xs.set k c) := by
  have h2 := (h.set hn k hk c).1
  have e2 : storesAt w g (k * eI.sz) (eI.row c) = w.setCell ⟨g, k, none⟩ (.int .i64 c) := by
    show w.setCell ⟨g, k * 1, none⟩ _ = _
    rw [Nat.mul_one]
  rwa [e2] at h2

/-- the numbers, of which the first t have been turned -/
def nearTo (n : Nat) (A : List Int) (t : Nat) : List Int := (A.take t).map (fun c => nearQ (c * 256) n) ++ A.drop t
theorem nearTo_zero (n : Nat) (A : List Int) : nearTo n A 0 = A := by simp [nearTo]
theorem nearTo_len (n : Nat) (A : List Int) (t : Nat) : (nearTo n A t).length = A.length := by simp [nearTo]; omega
theorem nearTo_get (n : Nat) {A : List Int} {t : Nat} {c : Int} (h : A[t]? = some c) : (nearTo n A t)[t]? = some c := by
  have := (List.getElem?_eq_some_iff.1 h).1
  unfold nearTo
  rw [List.getElem?_append_right (by simp; omega), List.getElem?_drop]
  simp
  rw [show t + (t - min t A.length) = t by omega]; exact h
theorem nearTo_step (n : Nat) {A : List Int} {t : Nat} {c : Int} (h : A[t]? = some c) : (nearTo n A t).set t (nearQ (c * 256) n) = nearTo n A (t + 1) := by
  have hl := (List.getElem?_eq_some_iff.1 h).1
  have e : A.drop t = c :: A.drop (t + 1) := by
    rw [List.drop_eq_getElem_cons hl]
    rw [List.getElem?_eq_getElem hl] at h
    rw [Option.some.inj h]
  unfold nearTo
  rw [List.take_add_one, h, e, List.set_append_right _ _ (by simp; omega)]
  simp [Nat.min_eq_left (Nat.le_of_lt hl)]
theorem nearTo_all (n : Nat) (A : List Int) (t : Nat) (h : A.length ≤ t) : nearTo n A t = A.map (fun c => nearQ (c * 256) n) := by
  unfold nearTo; rw [List.take_of_length_le h, List.drop_eq_nil_of_le h, List.append_nil]
theorem nearTo_24 (n : Nat) (A : List Int) (h : A.length = 25) : (nearTo n A 24).set 24 256 = (A.map (fun c => nearQ (c * 256) n)).set 24 256 := by
  obtain ⟨c, hc⟩ : ∃ c, A[24]? = some c := ⟨_, List.getElem?_eq_getElem (by omega)⟩
  rw [← nearTo_all n A 25 (by omega), ← nearTo_step n hc, List.set_set]
theorem rInt64S_own2 {w' : World} {lo g : Nat} {u : Value} {x : XInt64S} (h : Own eI 2 g w' u x) (hB : lo ≤ g) : rInt64S.own lo w'.heap.size w' u x := (h.mono hB).in_
set_option maxHeartbeats 2000000 in
theorem inputOf_any (v : Value) (x : XFeatS) (w : World) (h : Arr eFeat w v x) (ok : featsOk x = true) :
    Calls Tryz.prog 78 #[v] w (RetR rInt64S (inpF x) w) := by
  obtain ⟨b, off, ao, cap, rfl, hnc, hcm, hao, hc⟩ := h
  unfold maxLen at hcm
  obtain ⟨hl1, hl2⟩ := featsOk_len ok
  obtain ⟨i0, hi, hz0, hz1, hz2⟩ := info_parts infoI
  go_enter Tryz.func78, Tryz.ntmps78
  go_wp2_with (at_make; refine wpList_make_full _ rfl _ _ 40 rfl w.heap.size 2 i0 _ 1 Tryz.underlying40 hi hz0 hz1 _ _ _ _ 25 rfl rfl rfl rfl (by rw [hz2]; omega) (by unfold maxLen; omega) (Nat.le_refl _) ?_; intro w1 hown hgr)
  have hown := Own.made (E := eI) (z := (0 : Int)) hown rfl
  obtain ⟨g, hg⟩ : ∃ g, g = w.heap.size := ⟨_, rfl⟩
  rw [← hg] at hown ⊢
  have hw1 : Below w.heap.size w w1 := (Below.refl _ _).grown hgr (Nat.le_refl _) (by simp)
  have hg1 : g < w1.heap.size := hown.lt.2
  have Hg := hid hg
  clear hg
  go_loopw [11] (fun i wr => ∃ k : Nat, k ≤ x.length ∧ i = .int .i64 k ∧ Own eI 2 g wr (.slice (some ⟨g, 0, none⟩) 25 25) (cntF (x.take k)) ∧ Below w.heap.size w wr ∧ g < wr.heap.size) (fun i _ => x.length - (intOf i).toNat)
  case atStart => exact ⟨0, Nat.zero_le _, rfl, hown, hw1, hg1⟩
  case round =>
    clear hown hgr hw1 hg1 hi hz0 hz1 hz2 hnc
    obtain ⟨k, hk, rfl, hown, hb, hgw⟩ := hrel
    by_cases hlt : k < x.length
    · obtain ⟨hao', hbw⟩ := hao (by omega)
      subst hao'
      obtain ⟨f, hf⟩ : ∃ f, x[k]? = some f := ⟨_, List.getElem?_eq_getElem hlt⟩
      have hfo := featsOk_mem ok hf
      have hli : (k : Int) < (x.length : Int) := by omega
      obtain ⟨c0, c1, c2⟩ := eFeat_cells (hc.below hb hbw) hf
      have H := hid (cntF_take hf)
      obtain ⟨h1, h2, h3, h4, h5, h6⟩ := featOk_bd hfo
      obtain ⟨fx, fy, fd⟩ := f
      simp only at c0 c1 c2 h1 h2 h3 h4 h5 h6
      obtain ⟨px, rfl⟩ : ∃ p : Nat, fx = p := ⟨fx.toNat, by omega⟩
      obtain ⟨py, rfl⟩ : ∃ p : Nat, fy = p := ⟨fy.toNat, by omega⟩
      obtain ⟨pd, rfl⟩ : ∃ p : Nat, fd = p := ⟨fd.toNat, by omega⟩
      have HF := hid hf
      have HO := hid hfo
      clear hf hfo hao
      have hAl := cntF_len (x.take k)
      have hAo := cntF_ok (x.take k)
      have htl : (x.take k).length ≤ 384 := by rw [List.length_take]; omega
      obtain ⟨A, hA⟩ : ∃ A, A = cntF (x.take k) := ⟨_, rfl⟩
      rw [← hA] at hown hAl hAo H
      have hP : 8 + py / 64 * 4 + px / 64 < 24 := by omega
      have hPne : ¬ (pd = 8 + py / 64 * 4 + px / 64) := by omega
      have hPne2 : ¬ (8 + py / 64 * 4 + px / 64 = pd) := by omega
      have hPi : (8 + (py : Int) / 64 * 4 + (px : Int) / 64) < 25 := by omega
      obtain ⟨cd, hcd⟩ : ∃ c, A[pd]? = some c := ⟨_, List.getElem?_eq_getElem (by omega)⟩
      obtain ⟨cp, hcp⟩ : ∃ c, A[8 + py / 64 * 4 + px / 64]? = some c := ⟨_, List.getElem?_eq_getElem (by omega)⟩
      have hcd2 := hAo pd
      have hcp2 := hAo (8 + py / 64 * 4 + px / 64)
      rw [List.getD, hcd, Option.getD_some] at hcd2
      rw [List.getD, hcp, Option.getD_some] at hcp2
      have hcd3 : 0 ≤ cd ∧ cd ≤ 768 := by omega
      have hcp3 : 0 ≤ cp ∧ cp ≤ 768 := by omega
      clear hcd2 hcp2 hAo htl
      have gd := ownE_get hown hcd
      have gp := ownE_get hown hcp
      have gf := hown.free hAl.symm
      have H2 := hid (show bump (bump A (ixD ⟨px, py, pd⟩)) (ixP ⟨px, py, pd⟩) = (A.set pd (cd + 1)).set (8 + py / 64 * 4 + px / 64) (cp + 1) by
        have e : ixP ⟨px, py, pd⟩ = 8 + py / 64 * 4 + px / 64 := by simp [ixP]; omega
        rw [e]
        simp only [bump, ixD, Int.toNat_natCast, List.getD, hcd, Option.getD_some]
        rw [List.getElem?_set_ne (by omega), hcp, Option.getD_some])
      have HA := hid hA
      have HL := hid hAl
      clear hcd hcp hA hAl
      go_wp2
      go_roundw
      case rel =>
        have h7 := ownE_set (ownE_set hown HL.out.symm (k := pd) (by rw [HL.out]; omega) (cd + 1)) (by rw [List.length_set, HL.out]) (k := 8 + py / 64 * 4 + px / 64) (by rw [List.length_set, HL.out]; omega) (cp + 1)
        rw [← H2.out, ← H.out] at h7
        have hgw0 : w.heap.size ≤ g := by rw [Hg.out]; exact Nat.le_refl _
        have hb2 : Below w.heap.size w ((wr.setCell ⟨g, pd, none⟩ (.int .i64 (cd + 1))).setCell ⟨g, 8 + py / 64 * 4 + px / 64, none⟩ (.int .i64 (cp + 1))) := (hb.setCell hgw0 _).setCell hgw0 _
        exact ⟨k + 1, by omega, by go_num, h7.alloc _, hb2.trans ((below_alloc _ _).mono hb2.size), by simp; omega⟩
      case measure => simp [intOf]; omega
    · obtain rfl : k = x.length := by omega
      rw [List.take_length] at hown
      have hAl := cntF_len x
      have hAo := cntF_ok x
      obtain ⟨A, hA⟩ : ∃ A, A = cntF x := ⟨_, rfl⟩
      rw [← hA] at hown hAl hAo
      have HA := hid hA
      have HL := hid hAl
      have HO := hid hAo
      clear hA hAl hAo hlt hao hc
      go_wp2
      obtain ⟨w0, hw0⟩ : ∃ w0, w0 = wr := ⟨_, rfl⟩
      go_loopw [41] (fun i wq => ∃ (t : Nat), t ≤ 25 ∧ i = .int .i64 t ∧ Own eI 2 g wq (.slice (some ⟨g, 0, none⟩) 25 25) (nearTo x.length A t) ∧ Below w.heap.size w wq ∧ g < wq.heap.size) (fun i _ => 25 - (intOf i).toNat)
      case atStart => exact ⟨0, Nat.zero_le _, rfl, by rw [nearTo_zero]; exact hown, hb, hgw⟩
      case round =>
        clear hown hb hgw hw0
        obtain ⟨t, ht, rfl, hown, hb, hgw⟩ := hrel
        have hNl : (nearTo x.length A t).length = 25 := by rw [nearTo_len]; exact HL.out
        by_cases htl : t < 25
        · have hti : (t : Int) < 25 := by omega
          obtain ⟨c, hcA⟩ : ∃ c, A[t]? = some c := ⟨_, List.getElem?_eq_getElem (by rw [HL.out]; exact htl)⟩
          have hcN := nearTo_get x.length hcA
          have hcb := HO.out t
          rw [List.getD, hcA, Option.getD_some] at hcb
          have gd := ownE_get hown hcN
          have gf := hown.free hNl.symm
          have hcb2 : 0 ≤ c ∧ c ≤ 768 := by omega
          have hc256 : 0 ≤ c * 256 ∧ c * 256 ≤ 196608 := by omega
          have HN := fun w' => nearestDiv_any (c * 256) x.length w' (by omega) (by omega) (by omega) (by omega)
          have HST := hid (nearTo_step x.length hcA)
          have HNL := hid hNl
          clear hcA hcN hNl hcb
          go_wp2_with (go_at_call 91; refine (HN _).mono ?_; rintro e w' ⟨rfl, rfl⟩)
          go_roundw
          case rel =>
            have h7 := ownE_set hown HNL.out.symm (k := t) (by rw [HNL.out]; exact htl) (nearQ (c * 256) x.length)
            rw [HST.out] at h7
            exact ⟨t + 1, by omega, by go_num, h7, hb.setCell (by rw [Hg.out]; exact Nat.le_refl _) _, by simp; omega⟩
          case measure => simp [intOf]; omega
        · obtain rfl : t = 25 := by omega
          have gf := hown.free hNl.symm
          obtain ⟨c, hcA⟩ : ∃ c, (nearTo x.length A 25)[24]? = some c := ⟨_, List.getElem?_eq_getElem (by omega)⟩
          have gd := ownE_get hown hcA
          clear hcA
          have h7 := ownE_set hown hNl.symm (k := 24) (by omega) 256
          have e7 : (nearTo x.length A 25).set 24 256 = inpF x := by rw [inpF, ← HA.out, nearTo_all x.length A 25 (by rw [HL.out]; exact Nat.le_refl _)]
          rw [e7] at h7
          have HR := hid h7
          clear h7 e7 hNl
          go_wp2
          go_ret
          refine ⟨_, rfl, ?_, hb.setCell (by rw [Hg.out]; exact Nat.le_refl _) _⟩
          exact rInt64S_own2 HR.out (by rw [Hg.out]; exact Nat.le_refl _)
set_option maxHeartbeats 2000000 in
theorem l12Input_any (v : Value) (x : XFeatS) (w : World) (h : Arr eFeat w v x) (ok : featsOk x = true) :
    Calls Tryz.prog 66 #[v] w (RetR rInt64S (inpF x) w) := by
  obtain ⟨b, off, ao, cap, rfl, hnc, hcm, hao, hc⟩ := h
  unfold maxLen at hcm
  obtain ⟨hl1, hl2⟩ := featsOk_len ok
  obtain ⟨i0, hi, hz0, hz1, hz2⟩ := info_parts infoI
  go_enter Tryz.func66, Tryz.ntmps66
  go_wp2_with (at_make; refine wpList_make_full _ rfl _ _ 40 rfl w.heap.size 2 i0 _ 1 Tryz.underlying40 hi hz0 hz1 _ _ _ _ 25 rfl rfl rfl rfl (by rw [hz2]; omega) (by unfold maxLen; omega) (Nat.le_refl _) ?_; intro w1 hown hgr)
  have hown := Own.made (E := eI) (z := (0 : Int)) hown rfl
  obtain ⟨g, hg⟩ : ∃ g, g = w.heap.size := ⟨_, rfl⟩
  rw [← hg] at hown ⊢
  have hw1 : Below w.heap.size w w1 := (Below.refl _ _).grown hgr (Nat.le_refl _) (by simp)
  have hg1 : g < w1.heap.size := hown.lt.2
  have Hg := hid hg
  clear hg
  go_loopw [4] (fun i wr => ∃ k : Nat, k ≤ x.length ∧ i = .int .i64 k ∧ Own eI 2 g wr (.slice (some ⟨g, 0, none⟩) 25 25) (cntF (x.take k)) ∧ Below w.heap.size w wr ∧ g < wr.heap.size) (fun i _ => x.length - (intOf i).toNat)
  case atStart => exact ⟨0, Nat.zero_le _, rfl, hown, hw1, hg1⟩
  case round =>
    clear hown hgr hw1 hg1 hi hz0 hz1 hz2 hnc
    obtain ⟨k, hk, rfl, hown, hb, hgw⟩ := hrel
    by_cases hlt : k < x.length
    · obtain ⟨hao', hbw⟩ := hao (by omega)
      subst hao'
      obtain ⟨f, hf⟩ : ∃ f, x[k]? = some f := ⟨_, List.getElem?_eq_getElem hlt⟩
      have hfo := featsOk_mem ok hf
      have hli : (k : Int) < (x.length : Int) := by omega
      obtain ⟨c0, c1, c2⟩ := eFeat_cells (hc.below hb hbw) hf
      have H := hid (cntF_take hf)
      obtain ⟨h1, h2, h3, h4, h5, h6⟩ := featOk_bd hfo
      obtain ⟨fx, fy, fd⟩ := f
      simp only at c0 c1 c2 h1 h2 h3 h4 h5 h6
      obtain ⟨px, rfl⟩ : ∃ p : Nat, fx = p := ⟨fx.toNat, by omega⟩
      obtain ⟨py, rfl⟩ : ∃ p : Nat, fy = p := ⟨fy.toNat, by omega⟩
      obtain ⟨pd, rfl⟩ : ∃ p : Nat, fd = p := ⟨fd.toNat, by omega⟩
      have HF := hid hf
      have HO := hid hfo
      clear hf hfo hao
      have hAl := cntF_len (x.take k)
      have hAo := cntF_ok (x.take k)
      have htl : (x.take k).length ≤ 384 := by rw [List.length_take]; omega
      obtain ⟨A, hA⟩ : ∃ A, A = cntF (x.take k) := ⟨_, rfl⟩
      rw [← hA] at hown hAl hAo H
      have hP : 8 + py / 64 * 4 + px / 64 < 24 := by omega
      have hPne : ¬ (pd = 8 + py / 64 * 4 + px / 64) := by omega
      have hPne2 : ¬ (8 + py / 64 * 4 + px / 64 = pd) := by omega
      have hPi : (8 + (py : Int) / 64 * 4 + (px : Int) / 64) < 25 := by omega
      obtain ⟨cd, hcd⟩ : ∃ c, A[pd]? = some c := ⟨_, List.getElem?_eq_getElem (by omega)⟩
      obtain ⟨cp, hcp⟩ : ∃ c, A[8 + py / 64 * 4 + px / 64]? = some c := ⟨_, List.getElem?_eq_getElem (by omega)⟩
      have hcd2 := hAo pd
      have hcp2 := hAo (8 + py / 64 * 4 + px / 64)
      rw [List.getD, hcd, Option.getD_some] at hcd2
      rw [List.getD, hcp, Option.getD_some] at hcp2
      have hcd3 : 0 ≤ cd ∧ cd ≤ 768 := by omega
      have hcp3 : 0 ≤ cp ∧ cp ≤ 768 := by omega
      clear hcd2 hcp2 hAo htl
      have gd := ownE_get hown hcd
      have gp := ownE_get hown hcp
      have gf := hown.free hAl.symm
      have H2 := hid (show bump (bump A (ixD ⟨px, py, pd⟩)) (ixP ⟨px, py, pd⟩) = (A.set pd (cd + 1)).set (8 + py / 64 * 4 + px / 64) (cp + 1) by
        have e : ixP ⟨px, py, pd⟩ = 8 + py / 64 * 4 + px / 64 := by simp [ixP]; omega
        rw [e]
        simp only [bump, ixD, Int.toNat_natCast, List.getD, hcd, Option.getD_some]
        rw [List.getElem?_set_ne (by omega), hcp, Option.getD_some])
      have HA := hid hA
      have HL := hid hAl
      clear hcd hcp hA hAl
      go_wp2
      go_roundw
      case rel =>
        have h7 := ownE_set (ownE_set hown HL.out.symm (k := pd) (by rw [HL.out]; omega) (cd + 1)) (by rw [List.length_set, HL.out]) (k := 8 + py / 64 * 4 + px / 64) (by rw [List.length_set, HL.out]; omega) (cp + 1)
        rw [← H2.out, ← H.out] at h7
        have hgw0 : w.heap.size ≤ g := by rw [Hg.out]; exact Nat.le_refl _
        have hb2 : Below w.heap.size w ((wr.setCell ⟨g, pd, none⟩ (.int .i64 (cd + 1))).setCell ⟨g, 8 + py / 64 * 4 + px / 64, none⟩ (.int .i64 (cp + 1))) := (hb.setCell hgw0 _).setCell hgw0 _
        exact ⟨k + 1, by omega, by go_num, h7.alloc _, hb2.trans ((below_alloc _ _).mono hb2.size), by simp; omega⟩
      case measure => simp [intOf]; omega
    · obtain rfl : k = x.length := by omega
      rw [List.take_length] at hown
      have hAl := cntF_len x
      have hAo := cntF_ok x
      obtain ⟨A, hA⟩ : ∃ A, A = cntF x := ⟨_, rfl⟩
      rw [← hA] at hown hAl hAo
      have HA := hid hA
      have HL := hid hAl
      have HO := hid hAo
      clear hA hAl hAo hlt hao hc
      go_wp2
      obtain ⟨w0, hw0⟩ : ∃ w0, w0 = wr := ⟨_, rfl⟩
      go_loopw [7] (fun i wq => ∃ (t : Nat), t ≤ 24 ∧ i = .int .i64 t ∧ Own eI 2 g wq (.slice (some ⟨g, 0, none⟩) 25 25) (nearTo x.length A t) ∧ Below w.heap.size w wq ∧ g < wq.heap.size) (fun i _ => 24 - (intOf i).toNat)
      case atStart => exact ⟨0, Nat.zero_le _, rfl, by rw [nearTo_zero]; exact hown, hb, hgw⟩
      case round =>
        clear hown hb hgw hw0
        obtain ⟨t, ht, rfl, hown, hb, hgw⟩ := hrel
        have hNl : (nearTo x.length A t).length = 25 := by rw [nearTo_len]; exact HL.out
        by_cases htl : t < 24
        · have hti : (t : Int) < 24 := by omega
          obtain ⟨c, hcA⟩ : ∃ c, A[t]? = some c := ⟨_, List.getElem?_eq_getElem (by rw [HL.out]; omega)⟩
          have hcN := nearTo_get x.length hcA
          have hcb := HO.out t
          rw [List.getD, hcA, Option.getD_some] at hcb
          have gd := ownE_get hown hcN
          have gf := hown.free hNl.symm
          have hcb2 : 0 ≤ c ∧ c ≤ 768 := by omega
          have hc256 : 0 ≤ 256 * c ∧ 256 * c ≤ 196608 := by omega
          have HN := fun w' => l05Near_any (256 * c) x.length w' (by omega) (by omega) (by omega) (by omega)
          have HST : Hid ((nearTo x.length A t).set t (nearQ (256 * c) x.length) = nearTo x.length A (t + 1)) := hid (by rw [Int.mul_comm]; exact nearTo_step x.length hcA)
          have HNL := hid hNl
          clear hcA hcN hNl hcb
          go_wp2_with (go_at_call 84; refine (HN _).mono ?_; rintro e w' ⟨rfl, rfl⟩)
          go_roundw
          case rel =>
            have h7 := ownE_set hown HNL.out.symm (k := t) (by rw [HNL.out]; omega) (nearQ (256 * c) x.length)
            rw [HST.out] at h7
            exact ⟨t + 1, by omega, by go_num, h7, hb.setCell (by rw [Hg.out]; exact Nat.le_refl _) _, by simp; omega⟩
          case measure => simp [intOf]; omega
        · obtain rfl : t = 24 := by omega
          have gf := hown.free hNl.symm
          obtain ⟨c, hcA⟩ : ∃ c, (nearTo x.length A 24)[24]? = some c := ⟨_, List.getElem?_eq_getElem (by omega)⟩
          have gd := ownE_get hown hcA
          clear hcA
          have h7 := ownE_set hown hNl.symm (k := 24) (by omega) 256
          have e7 : (nearTo x.length A 24).set 24 256 = inpF x := by rw [inpF, ← HA.out, nearTo_24 x.length A HL.out]
          rw [e7] at h7
          have HR := hid h7
          clear h7 e7 hNl
          go_wp2
          go_ret
          refine ⟨_, rfl, ?_, hb.setCell (by rw [Hg.out]; exact Nat.le_refl _) _⟩
          exact rInt64S_own2 HR.out (by rw [Hg.out]; exact Nat.le_refl _)
end Go.Proofs.YtdifhnckhocmdabGreat
