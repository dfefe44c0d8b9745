/- Hypotheses with greater costs: what the calls return. -/
import Derived.Test.YtmbmkmhpkaglhaaHyFns
import Derived.Deep.AppendLies
import Derived.Deep.DrawnRows
namespace Go.Proofs.Ytmbmkmhpkaglhaa
open Go.RowKit
attribute [local go_sem ↓] Go.wp_at_zero Go.wp_at_succ

theorem infHyp : (Try.prog.info? 30).map (fun i => (i.zero, i.size, i.bytes)) = some (some (.agg #[.string ByteArray.empty, .int .i64 0]), eHyp.sz, 24) := by kernel_rfl

def raiseE (d : Int) (e : DHyp) : DHyp := ⟨e.label, e.cost + d⟩
def raiseOk (x : List DHyp) (d : Int) : Bool := x.all fun e => decide (e.cost + d ≤ 1000000)
def raiseHy (x : List DHyp) (d : Int) : List DHyp := if validHy x && inB d 0 1000000 && raiseOk x d then x.map (raiseE d) else []
def raiseC (x : List DHyp) (d : Int) : Int := if validHy x then (if inB d 0 1000000 && raiseOk x d then 0 else 2) else 1
theorem okRaise {x : List DHyp} {d : Int} (h : okHypS x) : okHypS (raiseHy x d) := by
  unfold okHypS at *
  unfold raiseHy
  split
  · simpa using h
  · simp
theorem cmpI_add (a b d : Int) : cmpI (a + d) (b + d) = cmpI a b := by
  unfold cmpI
  by_cases h1 : a < b
  · rw [if_pos h1, if_pos (by omega)]
  · rw [if_neg h1, if_neg (by omega)]
    by_cases h2 : b < a
    · rw [if_pos h2, if_pos (by omega)]
    · rw [if_neg h2, if_neg (by omega)]
theorem ordH_raise (a b : DHyp) (d : Int) : ordH (raiseE d a) (raiseE d b) = ordH a b := by
  unfold ordH raiseE
  simp only
  rw [cmpI_add]
  by_cases h : a.cost = b.cost
  · rw [if_neg (by simp [h]), if_neg (by simp [h])]
  · rw [if_pos (by omega), if_pos h]
theorem newAt_raise (x : List DHyp) (k : Nat) (e : DHyp) (d : Int) : newAt (x.map (raiseE d)) k (raiseE d e) = newAt x k e := by
  unfold newAt
  rw [← List.map_take, List.all_map]
  rfl
theorem ordAt_raise (x : List DHyp) (k : Nat) (e : DHyp) (d : Int) : ordAtH (x.map (raiseE d)) k (raiseE d e) = ordAtH x k e := by
  unfold ordAtH
  cases k with
  | zero => rfl
  | succ k =>
    rw [List.getElem?_map]
    cases h : x[k + 1 - 1]? with
    | none => simp
    | some p => simp [ordH_raise]
theorem valid_raise {x : List DHyp} (hv : validHy x = true) {d : Int} (hd : 0 ≤ d) : validHy (x.map (raiseE d)) = raiseOk x d := by
  have hl : x.length ≤ 8 := by simp [validHy] at hv; exact hv.2
  cases ho : raiseOk x d with
  | true =>
    rw [allHy_all]
    · simpa using hl
    · intro k e' hk he'
      rw [List.getElem?_map] at he'
      obtain ⟨e, he, rfl⟩ := Option.map_eq_some_iff.1 he'
      have h1 : hyOk x k e = true := by
        cases h : hyOk x k e with
        | true => rfl
        | false => rw [allHy_at he h] at hv; cases hv
      have h2 : decide (e.cost + d ≤ 1000000) = true := by
        rw [raiseOk, List.all_eq_true] at ho
        exact ho e (List.mem_of_getElem? he)
      simp only [hyOk, Bool.and_eq_true] at h1 ⊢
      rw [newAt_raise, ordAt_raise]
      have hb := inB_true.1 h1.1.1.2
      refine ⟨⟨⟨h1.1.1.1, inB_true.2 ⟨?_, by simpa [raiseE] using h2⟩⟩, h1.1.2⟩, h1.2⟩
      show 0 ≤ e.cost + d
      omega
  | false =>
    rw [raiseOk, List.all_eq_false] at ho
    obtain ⟨e, he, hf⟩ := ho
    obtain ⟨k, hk⟩ := List.mem_iff_getElem?.1 he
    refine allHy_at (k := k) (e := raiseE d e) (by rw [List.getElem?_map, hk]; rfl) ?_
    have : inB (e.cost + d) 0 1000000 = false := inB_false.2 (.inr (by simpa using hf))
    simp [hyOk, raiseE, this]
theorem raise_at {x : List DHyp} {d : Int} {k : Nat} {e : DHyp} (h : x[k]? = some e) (hf : 1000000 < e.cost + d) : raiseOk x d = false := by
  rw [raiseOk, List.all_eq_false]
  exact ⟨e, List.mem_of_getElem? h, by simp; omega⟩
theorem raise_all {x : List DHyp} {d : Int} (h : ∀ j a, j < x.length → x[j]? = some a → a.cost + d ≤ 1000000) : raiseOk x d = true := by
  rw [raiseOk, List.all_eq_true]
  intro a ha
  obtain ⟨j, hj⟩ := List.mem_iff_getElem?.1 ha
  simpa using h j a (List.getElem?_eq_some_iff.1 hj).1 hj
theorem take_raise {x : List DHyp} {d : Int} {k : Nat} {e : DHyp} (h : x[k]? = some e) : (x.take (k + 1)).map (raiseE d) = (x.take k).map (raiseE d) ++ [raiseE d e] := by
  rw [List.take_add_one, h]; simp
theorem wf_small {n : Int} (h0 : -9000000000000000000 ≤ n) (h1 : n ≤ 9000000000000000000) : (Lit.int .i64 n).wf = true := by
  have e1 : IntKind.i64.min = -9223372036854775808 := by decide
  have e2 : IntKind.i64.max = 9223372036854775807 := by decide
  rw [Lit.wf, Bool.and_eq_true, decide_eq_true_iff, decide_eq_true_iff, e1, e2]
  omega

set_option maxHeartbeats 2000000 in
theorem specRaiseHyps_any (v : Value) (x : XHypS) (d : Int) (w : World) {lo hi : Nat} (h : rHypS.at_ lo hi w v x) (ok : okHypS x) (g : goodHypS x) :
    Calls Try.prog 21 #[v, .int .i64 d] w (RetNew rHypS (raiseHy x d) #[.int .i64 (raiseC x d)] w) := by
  replace h := rHypS_arr h
  have hA := h
  obtain ⟨b, off, ao, cap, rfl, hnc, hcm, hao, hcc⟩ := h
  unfold maxLen at hcm
  have ok' : x.length ≤ 1048576 := ok
  have finish : ∀ (w' : World) (u : Value) (z : List DHyp) (c : Int), Hid (raiseHy x d = z ∧ raiseC x d = c) → Own eHyp 30 w.heap.size w' u z → Below w.heap.size w w' → RetNew rHypS (raiseHy x d) #[.int .i64 (raiseC x d)] w (.returned (.tuple #[u, .int .i64 c])) w' := by
    intro w' u z c hz ho hb
    rw [hz.out.1, hz.out.2]
    exact ⟨_, rfl, rHypS_own ho (Nat.le_refl _), hb⟩
  cases hvb : validHy x
  · have HB : Hid (raiseHy x d = [] ∧ raiseC x d = 1) := by show _ ∧ _; simp [raiseHy, raiseC, hvb]
    go_enter Try.func21, Try.ntmps21
    go_wp2_with fail
    refine (l13Ok_any _ x _ hA ok g).mono ?_
    rintro e w2 ⟨rfl, hb⟩
    rw [hvb]
    go_wp2
    go_ret2
    exact finish _ _ _ _ HB (Own.nil _ _ _) hb
  have HI : ∀ w', Calls Try.prog 37 #[.int .i64 d, .int .i64 0, .int .i64 1000000] w' fun e w'' => e = .returned (.bool (inB d 0 1000000)) ∧ w' = w'' := fun w' => l00In_any _ _ _ w'
  cases hi : inB d 0 1000000
  · have HB : Hid (raiseHy x d = [] ∧ raiseC x d = 2) := by show _ ∧ _; simp [raiseHy, raiseC, hvb, hi]
    rw [hi] at HI
    go_enter Try.func21, Try.ntmps21
    go_wp2_with fail
    refine (l13Ok_any _ x _ hA ok g).mono ?_
    rintro e w2 ⟨rfl, hb⟩
    rw [hvb]
    go_wp2_with (go_at_call 37; refine (HI _).mono ?_; rintro e w' ⟨rfl, rfl⟩)
    go_ret2
    exact finish _ _ _ _ HB (Own.nil _ _ _) hb
  rw [hi] at HI
  have hdb := inB_true.1 hi
  have hd0 : 0 ≤ d := hdb.1
  have hd1 : d ≤ 1000000 := hdb.2
  have HV := hid hvb
  have HIN := hid hi
  go_enter Try.func21, Try.ntmps21
  go_wp2_with fail
  refine (l13Ok_any _ x _ hA ok g).mono ?_
  rintro e w2 ⟨rfl, hb0⟩
  rw [hvb]
  clear hvb hdb hi
  go_wp2_with (go_at_call 37; refine (HI _).mono ?_; rintro e w' ⟨rfl, rfl⟩)
  clear HI
  go_loopw [6, 7] (fun u i wr => ∃ k : Nat, k ≤ x.length ∧ i = .int .i64 k ∧ Own eHyp 30 w.heap.size wr u ((x.take k).map (raiseE d)) ∧ Below w.heap.size w wr ∧ ∀ j a, j < k → x[j]? = some a → a.cost + d ≤ 1000000) (fun _ i _ => x.length - (intOf i).toNat)
  case atStart => exact ⟨0, Nat.zero_le _, rfl, Own.empty _ _ hb0.size, hb0.alloc hb0.size _, fun j e h => by omega⟩
  case round =>
    clear hb0
    obtain ⟨k, hk, rfl, ho, hb, hall⟩ := hrel
    have HA := hid hall
    clear hall
    by_cases hlt : k < x.length
    · obtain ⟨hao', hbw⟩ := hao (by omega)
      subst hao'
      obtain ⟨e, he⟩ : ∃ e, x[k]? = some e := ⟨_, List.getElem?_eq_getElem hlt⟩
      obtain ⟨c0, c1⟩ := eHyp_cells (hcc.below hb hbw) he
      obtain ⟨n1, n2⟩ := hy_bd HV.out he
      have hli : (k : Int) < (x.length : Int) := by omega
      have HE := hid he
      have HT := hid (take_raise (d := d) he)
      have hlk : ((x.take k).map (raiseE d)).length ≤ 1048576 := by simp; omega
      clear he hao
      by_cases hbig : 1000000 < e.cost + d
      · have HB : Hid (raiseHy x d = [] ∧ raiseC x d = 2) := by show _ ∧ _; simp [raiseHy, raiseC, HV.out, HIN.out, raise_at HE.out hbig]
        go_wp2
        go_ret2
        exact finish _ _ _ _ HB (Own.nil _ _ _) hb
      · have hwr : IntKind.i64.wrap (e.cost + d) = e.cost + d := IntWalk.i64_in _ (by omega)
        have hbs := hb.size
        go_wp2
        go_region_held3 (fun w' => w'.cell? ⟨b, off + k * 2, none⟩ = some (.string e.label) ∧ w'.cell? ⟨b, off + k * 2 + 1, none⟩ = some (.int .i64 e.cost)) (first | go_keep | (go_split_ands; refine ⟨?_, ?_⟩ <;> (first | exact below_cell hbA hbw (by assumption) | exact below_cell hbA hbw (cell_alloc (by assumption) _))))
          ((refine step_appA (by rfl) _ _ _ (by rfl) w.heap.size 30 _ 24 infHyp Try.underlying25 rfl _ _ (by rfl) (ho.alloc _).drew _ [raiseE d e] (by rfl) (arr_block [raiseE d e] _ (by rfl) (by rfl) (maxLen_ge (Nat.le_of_ble_eq_true rfl))).drew (by unfold maxLen; simp at hlk ⊢; omega) (by simp at hlk ⊢; omega) (by simp; omega) ?_; intro v' wA hoA hbA htA))
        clear hwr
        have hbA' : Below w.heap.size w wA := (hb.alloc hbs _).drew.trans hbA
        go_wp2
        go_roundw
        case rel =>
          refine ⟨k + 1, by omega, by go_num, by rw [HT.out]; exact hoA, hbA', fun j a hj ha => ?_⟩
          by_cases ej : j = k
          · subst ej; rw [HE.out] at ha; obtain rfl := Option.some.inj ha; omega
          · exact HA.out j a (by omega) ha
        case measure => simp [intOf]; omega
    · have hx : x.take k = x := List.take_of_length_le (by omega)
      rw [hx] at ho
      have HR := hid (raise_all (x := x) (d := d) fun j a hj => HA.out j a (by omega))
      have HB : Hid (raiseHy x d = x.map (raiseE d) ∧ raiseC x d = 0) := by show _ ∧ _; simp [raiseHy, raiseC, HV.out, HIN.out, HR.out]
      clear hao hx
      go_wp2
      go_ret2
      exact finish _ _ _ _ HB ho hb
set_option maxHeartbeats 2000000 in
set_option maxRecDepth 100000 in
theorem implRaiseHyps_any (v : Value) (x : XHypS) (d : Int) (w : World) {lo hi : Nat} (h : rHypS.at_ lo hi w v x) (ok : okHypS x) (g : goodHypS x) :
    Calls Try.prog 22 #[v, .int .i64 d] w (RetNew rHypS (raiseHy x d) #[.int .i64 (raiseC x d)] w) := by
  have hRW := h
  replace h := rHypS_arr h
  obtain ⟨b, off, ao, cap, rfl, hnc, hcm, hao, hcc⟩ := h
  unfold maxLen at hcm
  have ok' : x.length ≤ 1048576 := ok
  have finish : ∀ (w' : World) (u : Value) (z : List DHyp) (c : Int), Hid (raiseHy x d = z ∧ raiseC x d = c) → Own eHyp 30 w.heap.size w' u z → Below w.heap.size w w' → RetNew rHypS (raiseHy x d) #[.int .i64 (raiseC x d)] w (.returned (.tuple #[u, .int .i64 c])) w' := by
    intro w' u z c hz ho hb
    rw [hz.out.1, hz.out.2]
    exact ⟨_, rfl, rHypS_own ho (Nat.le_refl _), hb⟩
  cases hvb : validHy x
  · have HB : Hid (raiseHy x d = [] ∧ raiseC x d = 1) := by show _ ∧ _; simp [raiseHy, raiseC, hvb]
    go_enter Try.func22, Try.ntmps22
    go_wp2_with fail
    refine (implValidHyps_any _ x _ hRW ok g).mono ?_
    rintro e w2 ⟨rfl, hb⟩
    rw [hvb]
    go_wp2
    go_ret2
    exact finish _ _ _ _ HB (Own.nil _ _ _) hb
  have HI : ∀ w', Calls Try.prog 31 #[.int .i64 d] w' fun e w'' => e = .returned (.bool (inB d 0 1000000)) ∧ w' = w'' := fun w' => isCost_any _ w'
  cases hi : inB d 0 1000000
  · have HB : Hid (raiseHy x d = [] ∧ raiseC x d = 2) := by show _ ∧ _; simp [raiseHy, raiseC, hvb, hi]
    rw [hi] at HI
    go_enter Try.func22, Try.ntmps22
    go_wp2_with fail
    refine (implValidHyps_any _ x _ hRW ok g).mono ?_
    rintro e w2 ⟨rfl, hb⟩
    rw [hvb]
    go_wp2_with (go_at_call 31; refine (HI _).mono ?_; rintro e w' ⟨rfl, rfl⟩)
    go_ret2
    exact finish _ _ _ _ HB (Own.nil _ _ _) hb
  rw [hi] at HI
  have hdb := inB_true.1 hi
  have hd0 : 0 ≤ d := hdb.1
  have hd1 : d ≤ 1000000 := hdb.2
  have HV := hid hvb
  have HIN := hid hi
  have HX := hid (valid_raise hvb hd0)
  have okR : okHypS (x.map (raiseE d)) := by show (x.map (raiseE d)).length ≤ 1048576; simpa using ok'
  have gR : goodHypS (x.map (raiseE d)) := by
    intro e' he'
    obtain ⟨e, he, rfl⟩ := List.mem_map.1 he'
    obtain ⟨k, hk⟩ := List.mem_iff_getElem?.1 he
    obtain ⟨n1, n2⟩ := hy_bd hvb hk
    exact ⟨(g e he).1, wf_small (by show _ ≤ e.cost + d; omega) (by show e.cost + d ≤ _; omega)⟩
  go_enter Try.func22, Try.ntmps22
  go_wp2_with fail
  refine (implValidHyps_any _ x _ hRW ok g).mono ?_
  rintro e w2 ⟨rfl, hb0⟩
  rw [hvb]
  clear hvb hdb hi
  go_wp2_with (go_at_call 31; refine (HI _).mono ?_; rintro e w' ⟨rfl, rfl⟩)
  clear HI
  go_loopw [6, 17] (fun u i wr => ∃ k : Nat, k ≤ x.length ∧ i = .int .i64 k ∧ Own eHyp 30 w.heap.size wr u ((x.take k).map (raiseE d)) ∧ Below w.heap.size w wr) (fun _ i _ => x.length - (intOf i).toNat)
  case atStart => exact ⟨0, Nat.zero_le _, rfl, Own.nil _ _ _, hb0⟩
  case round =>
    clear hb0
    obtain ⟨k, hk, rfl, ho, hb⟩ := hrel
    by_cases hlt : k < x.length
    · obtain ⟨hao', hbw⟩ := hao (by omega)
      subst hao'
      obtain ⟨e, he⟩ : ∃ e, x[k]? = some e := ⟨_, List.getElem?_eq_getElem hlt⟩
      obtain ⟨c0, c1⟩ := eHyp_cells (hcc.below hb hbw) he
      obtain ⟨n1, n2⟩ := hy_bd HV.out he
      have hli : (k : Int) < (x.length : Int) := by omega
      have HT := hid (take_raise (d := d) he)
      have hlk : ((x.take k).map (raiseE d)).length ≤ 1048576 := by simp; omega
      have hbs := hb.size
      clear he hao
      go_wp2_with (at_builtin; (refine wpList_appA rfl _ _ 25 rfl w.heap.size 30 _ 24 infHyp Try.underlying25 rfl _ _ rfl ((ho.alloc _).alloc _) _ [raiseE d e] rfl (by exact arr_block1 (E := eHyp) (n := 1) [raiseE d e] #[.string e.label, .int .i64 (e.cost + d)] rfl rfl (maxLen_ge (Nat.le_of_ble_eq_true rfl)) (by simp)) (by unfold maxLen; simp at hlk ⊢; omega) (by simp at hlk ⊢; omega) (by simp; omega) ?_; intro v' wA hoA hbA htA))
      have hbA' : Below w.heap.size w wA := ((hb.alloc hbs _).alloc (by simp; omega) _).trans hbA
      go_roundw
      case rel => exact ⟨k + 1, by omega, by go_num, by rw [HT.out]; exact hoA, hbA'⟩
      case measure => simp [intOf]; omega
    · have hx : x.take k = x := List.take_of_length_le (by omega)
      rw [hx] at ho
      clear hao hx
      have hat : rHypS.at_ w.heap.size wr.heap.size wr _ _ := rHypS.own_at (rHypS_own ho (Nat.le_refl _))
      cases hr : raiseOk x d
      · have HB : Hid (raiseHy x d = [] ∧ raiseC x d = 2) := by show _ ∧ _; simp [raiseHy, raiseC, HV.out, HIN.out, hr]
        have HR := hid hr
        clear hr
        go_wp2_with (go_at_call 12; refine (implValidHyps_any _ _ _ hat okR gR).mono ?_; rintro e w3 ⟨rfl, hb3⟩; rw [HX.out, HR.out])
        go_ret2
        exact finish _ _ _ _ HB (Own.nil _ _ _) (hb.trans (hb3.mono hb.size))
      · have HB : Hid (raiseHy x d = x.map (raiseE d) ∧ raiseC x d = 0) := by show _ ∧ _; simp [raiseHy, raiseC, HV.out, HIN.out, hr]
        have HR := hid hr
        clear hr
        go_wp2_with (go_at_call 12; refine (implValidHyps_any _ _ _ hat okR gR).mono ?_; rintro e w3 ⟨rfl, hb3⟩; rw [HX.out, HR.out])
        go_ret2
        exact finish _ _ _ _ HB (ho.below hb3) (hb.trans (hb3.mono hb.size))
end Go.Proofs.Ytmbmkmhpkaglhaa
