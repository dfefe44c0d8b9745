/- The cost of a label; hypotheses with greater costs: what the calls return. -/
import Derived.Test.YtmbmkmhpkaglhaaHyFns
import Derived.Deep.AppendLies
import Derived.Deep.DrawnRows
namespace Go.Proofs.Ytmbmkmhpkaglhaa
open Go.RowKit
attribute [local go_sem ↓] Go.wp_at_zero Go.wp_at_succ

set_option maxHeartbeats 1000000 in
theorem specCostOf_any (v : Value) (x : XHypS) (s : ByteArray) (w : World) {lo hi : Nat} (h : rHypS.at_ lo hi w v x) (ok : okHypS x) (g : goodHypS x) (_ : s.size ≤ 1048576) :
    Calls Try.prog 19 #[v, .string s] w (Ret (.tuple #[.int .i64 (costHy x s), .int .i64 (costC x s)]) w) := by
  replace h := rHypS_arr h
  have hA := h
  obtain ⟨b, off, ao, cap, rfl, hnc, hcm, hao, hcc⟩ := h
  unfold maxLen at hcm
  have ok' : x.length ≤ 1048576 := ok
  cases hvb : validHy x
  · have HB : Hid (costHy x s = 0 ∧ costC x s = 1) := by show _ ∧ _; simp [costHy, costC, hvb]
    go_enter Try.func19, Try.ntmps19
    go_wp2_with fail
    refine (l13Ok_any _ x _ hA ok g).mono ?_
    rintro e w2 ⟨rfl, hb⟩
    rw [hvb]
    go_wp2
    go_ret2
    exact ⟨by rw [HB.out.1, HB.out.2]; rfl, hb⟩
  have HV := hid hvb
  go_enter Try.func19, Try.ntmps19
  go_wp2_with fail
  refine (l13Ok_any _ x _ hA ok g).mono ?_
  rintro e w2 ⟨rfl, hb0⟩
  rw [hvb]
  clear hvb hA
  go_wp2
  go_loopw [6] (fun i wr => ∃ k : Nat, k ≤ x.length ∧ i = .int .i64 k ∧ Below w.heap.size w wr ∧ ∀ j a, j < k → x[j]? = some a → isLab s a = false) (fun i _ => x.length - (intOf i).toNat)
  case atStart => exact ⟨0, Nat.zero_le _, rfl, hb0, fun j e h => by omega⟩
  case round =>
    clear hb0
    obtain ⟨k, hk, rfl, hb, hall⟩ := hrel
    have HA := hid hall
    clear hall
    by_cases hlt : k < x.length
    · obtain ⟨hao', hbw⟩ := hao (by omega)
      subst hao'
      obtain ⟨e, he⟩ : ∃ e, x[k]? = some e := ⟨_, List.getElem?_eq_getElem hlt⟩
      obtain ⟨c0, c1⟩ := eHyp_cells (hcc.below hb hbw) he
      have hli : (k : Int) < (x.length : Int) := by omega
      have HE := hid he
      clear he hao
      cases hq : (e.label.toList == s.toList)
      · go_wp2
        go_roundw
        case rel =>
          refine ⟨k + 1, by omega, by go_num, hb, fun j a hj ha => ?_⟩
          by_cases ej : j = k
          · subst ej; rw [HE.out] at ha; obtain rfl := Option.some.inj ha; exact hq
          · exact HA.out j a (by omega) ha
        case measure => simp [intOf]; omega
      · have HF := hid (find_some (q := isLab s) HE.out hq HA.out)
        go_wp2
        go_ret2
        exact ⟨by simp only [costHy, costC, HV.out, HF.out, if_true, List.getD, HE.out]; rfl, hb⟩
    · have HF := hid (find_none (x := x) (q := isLab s) fun j a hj => HA.out j a (by omega))
      clear hao
      go_wp2
      go_ret2
      exact ⟨by simp only [costHy, costC, HV.out, HF.out, if_true]; rfl, hb⟩
set_option maxHeartbeats 400000 in
theorem costClo_any (p : Nat) (a : DHyp) (l : ByteArray) (w : World) (c0 : w.cell? ⟨p, 0, none⟩ = some (.string l)) :
    Calls Try.prog 36 #[.agg #[.string a.label, .int .i64 a.cost], .pointer (some ⟨p, 0, none⟩)] w (Ret (.bool (isLab l a)) w) := by
  have c1 := cell_alloc c0 (.cells #[.string a.label, .int .i64 a.cost] 30)
  have hlt := cell_lt c0
  go_enter Try.func36, Try.ntmps36
  go_wp2
  go_ret
  exact ret_bool rfl (below_alloc _ _)
set_option maxHeartbeats 1000000 in
theorem implCostOf_any (v : Value) (x : XHypS) (s : ByteArray) (w : World) {lo hi : Nat} (h : rHypS.at_ lo hi w v x) (ok : okHypS x) (g : goodHypS x) (_ : s.size ≤ 1048576) :
    Calls Try.prog 20 #[v, .string s] w (Ret (.tuple #[.int .i64 (costHy x s), .int .i64 (costC x s)]) w) := by
  have hRW := rHypS.at_alloc h (.cells #[.string s] 9)
  replace h := rHypS_arr h
  obtain ⟨b, off, ao, cap, rfl, hnc, hcm, hao, hcc⟩ := h
  unfold maxLen at hcm
  have ok' : x.length ≤ 1048576 := ok
  have hen : Hid (Enters 36) := enters_of (Try.func36) (by kernel_rfl) rfl
  have q0 : (w.alloc (.cells #[.string s] 9)).cell? ⟨w.heap.size, 0, none⟩ = some (.string s) := by simp
  cases hvb : validHy x
  · have HB : Hid (costHy x s = 0 ∧ costC x s = 1) := by show _ ∧ _; simp [costHy, costC, hvb]
    go_enter Try.func20, Try.ntmps20
    go_wp2_with fail
    refine (implValidHyps_any _ x _ hRW ok g).mono ?_
    rintro e w2 ⟨rfl, hb⟩
    rw [hvb]
    go_wp2
    go_ret2
    exact ⟨by rw [HB.out.1, HB.out.2]; rfl, (below_alloc _ _).trans (hb.mono (by simp))⟩
  have HV := hid hvb
  cases hf : x.findIdx? (isLab s) with
  | none =>
    have HF := hid hf
    go_enter Try.func20, Try.ntmps20
    go_wp2_with fail
    refine (implValidHyps_any _ x _ hRW ok g).mono ?_
    rintro e w2 ⟨rfl, hb⟩
    rw [hvb]
    clear hf hvb
    have q1 := hid (cell_later hb q0)
    have hA2 := rHypS_arr (rHypS.at_below hRW hb)
    have hbb := (below_alloc w (.cells #[.string s] 9)).trans (hb.mono (by simp))
    go_wp2_with fail
    refine (indexHy_any 36 _ (isLab s) _ x _ hA2 ok' hen.out (fun a w' h3 => costClo_any _ a s w' (cell_later h3 q1.out))).mono ?_
    rintro e w3 ⟨rfl, hb3⟩
    rw [HF.out]
    unfold posOf
    go_wp2
    go_ret2
    exact ⟨by simp only [costHy, costC, HV.out, HF.out, if_true]; rfl, hbb.trans (hb3.mono hbb.size)⟩
  | some k =>
    obtain ⟨e, he⟩ := find_get hf
    have hlt := (List.getElem?_eq_some_iff.1 he).1
    have HF := hid hf
    have HE := hid he
    obtain ⟨hao', hbw⟩ := hao (by omega)
    subst hao'
    have hli : (k : Int) < (x.length : Int) := by omega
    have hk0 : (0 : Int) ≤ (k : Int) := by omega
    go_enter Try.func20, Try.ntmps20
    go_wp2_with fail
    refine (implValidHyps_any _ x _ hRW ok g).mono ?_
    rintro e' w2 ⟨rfl, hb⟩
    rw [hvb]
    clear hf hvb he hao
    have q1 := hid (cell_later hb q0)
    have hA2 := rHypS_arr (rHypS.at_below hRW hb)
    have hbb := (below_alloc w (.cells #[.string s] 9)).trans (hb.mono (by simp))
    go_wp2_with fail
    refine (indexHy_any 36 _ (isLab s) _ x _ hA2 ok' hen.out (fun a w' h3 => costClo_any _ a s w' (cell_later h3 q1.out))).mono ?_
    rintro e' w3 ⟨rfl, hb3⟩
    rw [HF.out]
    unfold posOf
    have hb4 := hbb.trans (hb3.mono hbb.size)
    obtain ⟨c0, c1⟩ := eHyp_cells (hcc.below hb4 hbw) HE.out
    go_wp2
    go_ret2
    exact ⟨by simp only [costHy, costC, HV.out, HF.out, if_true, List.getD, HE.out]; rfl, hb4⟩
end Go.Proofs.Ytmbmkmhpkaglhaa
