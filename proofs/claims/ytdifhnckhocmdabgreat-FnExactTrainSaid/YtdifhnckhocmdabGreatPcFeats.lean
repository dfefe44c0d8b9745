/- Features are told good: both calls. -/
import Derived.Test.YtdifhnckhocmdabGreatPcPlain
import Derived.Test.YtdifhnckhocmdabGreatPcValid
import Derived.Test.YtdifhnckhocmdabGreatPcClo
namespace Go.Proofs.YtdifhnckhocmdabGreat
open Go.RowKit

set_option maxHeartbeats 1000000 in
theorem l08Feat_any (p : DFeat) (w : World) : Calls Tryz.prog 83 #[.agg #[.int .i64 p.x, .int .i64 p.y, .int .i64 p.d]] w (Ret (.bool (featOk p)) w) := by
  cases h1 : inB p.x 0 255
  · have HV := hid (show featOk p = false by simp [featOk, h1])
    have H1 : ∀ w', Calls Tryz.prog 41 #[.int .i64 p.x, .int .i64 0, .int .i64 255] w' fun e w'' => e = .returned (.bool false) ∧ w' = w'' := fun w' => h1 ▸ l00In_any _ _ _ w'
    clear h1
    go_enter Tryz.func83, Tryz.ntmps83
    go_wp2_with fail
    refine (H1 _).mono ?_
    rintro e w' ⟨rfl, rfl⟩
    go_wp2
    go_ret
    exact ret_bool HV.out.symm (below_alloc _ _)
  have H1 : ∀ w', Calls Tryz.prog 41 #[.int .i64 p.x, .int .i64 0, .int .i64 255] w' fun e w'' => e = .returned (.bool true) ∧ w' = w'' := fun w' => h1 ▸ l00In_any _ _ _ w'
  cases h2 : inB p.y 0 255
  · have HV := hid (show featOk p = false by simp [featOk, h2])
    have H2 : ∀ w', Calls Tryz.prog 41 #[.int .i64 p.y, .int .i64 0, .int .i64 255] w' fun e w'' => e = .returned (.bool false) ∧ w' = w'' := fun w' => h2 ▸ l00In_any _ _ _ w'
    clear h1 h2
    go_enter Tryz.func83, Tryz.ntmps83
    go_wp2_with fail
    refine (H1 _).mono ?_
    rintro e w' ⟨rfl, rfl⟩
    go_wp2_with fail
    refine (H2 _).mono ?_
    rintro e w' ⟨rfl, rfl⟩
    go_wp2
    go_ret
    exact ret_bool HV.out.symm (below_alloc _ _)
  have H2 : ∀ w', Calls Tryz.prog 41 #[.int .i64 p.y, .int .i64 0, .int .i64 255] w' fun e w'' => e = .returned (.bool true) ∧ w' = w'' := fun w' => h2 ▸ l00In_any _ _ _ w'
  have HV := hid (show featOk p = inB p.d 0 7 by simp [featOk, h1, h2])
  clear h1 h2
  go_enter Tryz.func83, Tryz.ntmps83
  go_wp2_with fail
  refine (H1 _).mono ?_
  rintro e w' ⟨rfl, rfl⟩
  go_wp2_with fail
  refine (H2 _).mono ?_
  rintro e w' ⟨rfl, rfl⟩
  go_wp2_with fail
  refine (l00In_any _ _ _ _).mono ?_
  rintro e w' ⟨rfl, rfl⟩
  go_wp2
  go_ret
  exact ret_bool HV.out.symm (below_alloc _ _)
set_option maxHeartbeats 1000000 in
theorem validFeat_any (p : DFeat) (w : World) : Calls Tryz.prog 100 #[.agg #[.int .i64 p.x, .int .i64 p.y, .int .i64 p.d]] w (Ret (.bool (featOk p)) w) := by
  cases h1 : inB p.x 0 255
  · have HV := hid (show featOk p = false by simp [featOk, h1])
    have H1 : ∀ w', Calls Tryz.prog 43 #[.int .i64 p.x, .int .i64 0, .int .i64 255] w' fun e w'' => e = .returned (.bool false) ∧ w' = w'' := fun w' => h1 ▸ within_any _ _ _ w'
    clear h1
    go_enter Tryz.func100, Tryz.ntmps100
    go_wp2_with fail
    refine (H1 _).mono ?_
    rintro e w' ⟨rfl, rfl⟩
    go_wp2
    go_ret
    exact ret_bool HV.out.symm (below_alloc _ _)
  have H1 : ∀ w', Calls Tryz.prog 43 #[.int .i64 p.x, .int .i64 0, .int .i64 255] w' fun e w'' => e = .returned (.bool true) ∧ w' = w'' := fun w' => h1 ▸ within_any _ _ _ w'
  cases h2 : inB p.y 0 255
  · have HV := hid (show featOk p = false by simp [featOk, h2])
    have H2 : ∀ w', Calls Tryz.prog 43 #[.int .i64 p.y, .int .i64 0, .int .i64 255] w' fun e w'' => e = .returned (.bool false) ∧ w' = w'' := fun w' => h2 ▸ within_any _ _ _ w'
    clear h1 h2
    go_enter Tryz.func100, Tryz.ntmps100
    go_wp2_with fail
    refine (H1 _).mono ?_
    rintro e w' ⟨rfl, rfl⟩
    go_wp2_with fail
    refine (H2 _).mono ?_
    rintro e w' ⟨rfl, rfl⟩
    go_wp2
    go_ret
    exact ret_bool HV.out.symm (below_alloc _ _)
  have H2 : ∀ w', Calls Tryz.prog 43 #[.int .i64 p.y, .int .i64 0, .int .i64 255] w' fun e w'' => e = .returned (.bool true) ∧ w' = w'' := fun w' => h2 ▸ within_any _ _ _ w'
  have HV := hid (show featOk p = inB p.d 0 7 by simp [featOk, h1, h2])
  clear h1 h2
  go_enter Tryz.func100, Tryz.ntmps100
  go_wp2_with fail
  refine (H1 _).mono ?_
  rintro e w' ⟨rfl, rfl⟩
  go_wp2_with fail
  refine (H2 _).mono ?_
  rintro e w' ⟨rfl, rfl⟩
  go_wp2_with fail
  refine (within_any _ _ _ _).mono ?_
  rintro e w' ⟨rfl, rfl⟩
  go_wp2
  go_ret
  exact ret_bool HV.out.symm (below_alloc _ _)
theorem featsOk_at {x : List DFeat} {k : Nat} {e : DFeat} (h : x[k]? = some e) (hb : featOk e = false) : featsOk x = false := by
  rw [featsOk, Bool.and_eq_false_iff]
  exact .inl (List.all_eq_false.2 ⟨e, List.mem_of_getElem? h, by rw [hb]; exact Bool.false_ne_true⟩)
theorem featsOk_all {x : List DFeat} (h : ∀ k e, k < x.length → x[k]? = some e → featOk e = true) : featsOk x = inB x.length 1 384 := by
  have : x.all featOk = true := by
    rw [List.all_eq_true]
    intro e he
    obtain ⟨k, hk⟩ := List.mem_iff_getElem?.1 he
    exact h k e (List.getElem?_eq_some_iff.1 hk).1 hk
  rw [featsOk, this, Bool.true_and]
set_option maxHeartbeats 2000000 in
theorem l08Ok_any (v : Value) (x : XFeatS) (w : World) (h : Arr eFeat w v x) (ok : okFeatS x) :
    Calls Tryz.prog 65 #[v] w (Ret (.bool (featsOk x)) w) := by
  obtain ⟨b, off, ao, cap, rfl, hnc, hcm, hao, hc⟩ := h
  unfold maxLen at hcm
  have ok' : x.length ≤ 1048576 := ok
  go_enter Tryz.func65, Tryz.ntmps65
  go_wp2
  go_loopw [3] (fun i wr => ∃ k : Nat, k ≤ x.length ∧ i = .int .i64 k ∧ Below w.heap.size w wr ∧ Hid (∀ j e, j < k → x[j]? = some e → featOk e = true)) (fun i _ => x.length - (intOf i).toNat)
  case atStart => exact ⟨0, Nat.zero_le _, rfl, Below.refl _ _, hid (fun j e h => by omega)⟩
  case round =>
    obtain ⟨k, hk, rfl, hb, HA⟩ := hrel
    by_cases hlt : k < x.length
    · obtain ⟨hao', hbw⟩ := hao (by omega)
      subst hao'
      obtain ⟨e, he⟩ : ∃ e, x[k]? = some e := ⟨_, List.getElem?_eq_getElem hlt⟩
      obtain ⟨c0, c1, c2⟩ := eFeat_cells (hc.below hb hbw) he
      have hli : (k : Int) < (x.length : Int) := by omega
      have HE := hid he
      have HF := fun w' => l08Feat_any e w'
      cases hf : featOk e
      · rw [hf] at HF
        clear he hao
        go_wp2_with (go_at_call 83; refine (HF _).mono ?_; rintro e w' ⟨rfl, hb2⟩)
        go_ret
        exact ret_bool (featsOk_at HE.out hf).symm (hb.trans (hb2.mono hb.size))
      · rw [hf] at HF
        clear he hao
        go_wp2_with (go_at_call 83; refine (HF _).mono ?_; rintro e w' ⟨rfl, hb2⟩)
        go_roundw
        case rel =>
          refine ⟨k + 1, by omega, by go_num, hb.trans (hb2.mono hb.size), hid (fun j e' hj he' => ?_)⟩
          by_cases ej : j = k
          · subst ej; rw [HE.out] at he'; obtain rfl := Option.some.inj he'; exact hf
          · exact HA.out j e' (by omega) he'
        case measure => simp [intOf]; omega
    · have hkd : ¬ ((k : Int) < (x.length : Int)) := by omega
      obtain rfl : k = x.length := by omega
      have HZ := hid (featsOk_all HA.out)
      have HI := fun w' => l00In_any (x.length : Int) 1 384 w'
      go_wp2_with (go_at_call 41; refine (HI _).mono ?_; rintro e w' ⟨rfl, rfl⟩)
      go_ret
      exact ret_bool HZ.out.symm hb
theorem areFeatsClo_any (e : DFeat) (w : World) : Calls Tryz.prog 99 #[.agg #[.int .i64 e.x, .int .i64 e.y, .int .i64 e.d]] w (Ret (.bool (!featOk e)) w) := by
  go_enter Tryz.func99, Tryz.ntmps99
  go_wp2_with fail
  refine (validFeat_any e _).mono ?_
  rintro e w' ⟨rfl, hb⟩
  go_wp2
  go_ret
  exact ret_bool rfl ((below_alloc _ _).trans (hb.mono (by simp)))
theorem all_any2 {α : Type} (l : List α) (p : α → Bool) : (!l.any fun a => !p a) = l.all p := by
  rw [← List.not_all_eq_any_not, Bool.not_not]
set_option maxHeartbeats 1000000 in
theorem areFeats_any (v : Value) (x : XFeatS) (w : World) (h : Arr eFeat w v x) (ok : okFeatS x) :
    Calls Tryz.prog 90 #[v, .int .i64 384] w (Ret (.bool (featsOk x)) w) := by
  obtain ⟨sa, sc, hv⟩ := h.isSlice
  subst hv
  have ok' : x.length ≤ 1048576 := ok
  have CC := containsFt_any 99 #[] (fun e => !featOk e) _ x w h ok' (enters_of Tryz.func99 (by kernel_rfl) rfl) (fun k e w' _ _ => areFeatsClo_any e w')
  by_cases h1 : 1 ≤ x.length
  · have d1 : decide ((1 : Int) ≤ (x.length : Int)) = true := by simp; omega
    by_cases h2 : x.length ≤ 384
    · have d2 : decide ((x.length : Int) ≤ 384) = true := by simp; omega
      have HZ : Hid ((!x.any fun e => !featOk e) = featsOk x) := hid (by rw [all_any2, featsOk, inB_true.2 ⟨by omega, by omega⟩, Bool.and_true])
      generalize (x.any fun e => !featOk e) = bb at CC HZ
      clear h1 h2
      go_enter Tryz.func90, Tryz.ntmps90
      go_wp2_with (go_at_call 98; refine CC.mono ?_; rintro e w' ⟨rfl, hb⟩)
      go_ret
      exact ret_bool HZ.out hb
    · have d2 : decide ((x.length : Int) ≤ 384) = false := by simp; omega
      have HZ : Hid (featsOk x = false) := hid (by rw [featsOk, Bool.and_eq_false_iff]; refine .inr ?_; rw [← Bool.not_eq_true, inB_true]; omega)
      clear h1 h2 CC
      go_enter Tryz.func90, Tryz.ntmps90
      go_wp2
      go_ret
      exact ret_bool HZ.out.symm (Below.refl _ _)
  · have d1 : decide ((1 : Int) ≤ (x.length : Int)) = false := by simp; omega
    have HZ : Hid (featsOk x = false) := hid (by rw [featsOk, Bool.and_eq_false_iff]; refine .inr ?_; rw [← Bool.not_eq_true, inB_true]; omega)
    clear h1 CC
    go_enter Tryz.func90, Tryz.ntmps90
    go_wp2
    go_ret
    exact ret_bool HZ.out.symm (Below.refl _ _)
theorem validFeats_any (v : Value) (x : XFeatS) (w : World) (h : Arr eFeat w v x) (ok : okFeatS x) :
    Calls Tryz.prog 76 #[v] w (Ret (.bool (featsOk x)) w) := by
  go_enter Tryz.func76, Tryz.ntmps76
  go_wp2_with (go_at_call 90; refine (areFeats_any _ x _ h ok).mono ?_; rintro e w' ⟨rfl, hb⟩)
  go_ret
  exact ret_bool rfl hb
end Go.Proofs.YtdifhnckhocmdabGreat
