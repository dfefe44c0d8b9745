/- The order of the strokes. -/
import Derived.Test.YtdadmphmpojjhaaInkHomeOf
import Derived.Test.YtdadmphmpojjhaaInkGroup
import Derived.Test.YtdadmphmpojjhaaWrInt64S
namespace Go.Proofs.Ytdadmphmpojjhaa
open Go.RowKit

def homesTo (X : XInk) (k : Nat) : List Int := (List.range k).map fun i => homeI X i
def ordRow (H : List Int) (k m : Nat) : List Int := ((List.range m).filter fun d => H[d]? == some (k : Int)).map fun (d : Nat) => (d : Int)
def ordAt (H : List Int) (k : Nat) : List Int := match H[k]? with
  | some h => if 0 ≤ h then [] else (k : Int) :: ordRow H k H.length
  | none => []
def ordTo (H : List Int) (k : Nat) : List Int := (List.range k).flatMap fun i => ordAt H i
def orderI (X : XInk) : List Int := ordTo (homesTo X X.length) X.length
theorem homesTo_succ (X : XInk) (k : Nat) : homesTo X (k + 1) = homesTo X k ++ [homeI X k] := by simp [homesTo, List.range_succ]
theorem homesTo_len (X : XInk) (k : Nat) : (homesTo X k).length = k := by simp [homesTo]
theorem homesTo_get {X : XInk} {n k : Nat} (h : k < n) : (homesTo X n)[k]? = some (homeI X k) := by simp [homesTo, h]
theorem ordRow_zero (H : List Int) (k : Nat) : ordRow H k 0 = [] := rfl
theorem ordRow_t {H : List Int} {k m : Nat} (h : H[m]? = some (k : Int)) : ordRow H k (m + 1) = ordRow H k m ++ [(m : Int)] := by simp [ordRow, List.range_succ, h]
theorem ordRow_f {H : List Int} {k m : Nat} {x : Int} (h : H[m]? = some x) (hne : x ≠ k) : ordRow H k (m + 1) = ordRow H k m := by simp [ordRow, List.range_succ, h, hne]
theorem ordRow_len (H : List Int) (k m : Nat) : (ordRow H k m).length ≤ m := by
  unfold ordRow
  rw [List.length_map]
  exact Nat.le_trans (List.length_filter_le _ _) (by simp)
theorem ordTo_succ (H : List Int) (k : Nat) : ordTo H (k + 1) = ordTo H k ++ ordAt H k := by simp [ordTo, List.range_succ]
theorem ordAt_len (H : List Int) (k : Nat) : (ordAt H k).length ≤ H.length + 1 := by
  unfold ordAt
  split
  · split
    · simp
    · simp only [List.length_cons]; have := ordRow_len H k H.length; omega
  · simp
theorem ordTo_len (H : List Int) (k : Nat) : (ordTo H k).length ≤ k * (H.length + 1) := by
  induction k with
  | zero => simp [ordTo]
  | succ k ih => rw [ordTo_succ, List.length_append, Nat.add_mul, Nat.one_mul]; exact Nat.add_le_add ih (ordAt_len H k)
theorem ordTo_bd {H : List Int} {k : Nat} (hk : k ≤ 16) (hH : H.length ≤ 16) : (ordTo H k).length ≤ 272 := Nat.le_trans (ordTo_len H k) (Nat.mul_le_mul hk (by omega : H.length + 1 ≤ 17))
theorem ordAt_t {H : List Int} {k : Nat} {x : Int} (h : H[k]? = some x) (hx : 0 ≤ x) : ordAt H k = [] := by simp [ordAt, h, hx]
theorem ordAt_f {H : List Int} {k : Nat} {x : Int} (h : H[k]? = some x) (hx : x < 0) : ordAt H k = (k : Int) :: ordRow H k H.length := by simp [ordAt, h]; omega

set_option maxHeartbeats 4000000 in
set_option maxRecDepth 100000 in
theorem l14Order_any (p o : Nat) (v : Value) (X : XInk) (w : World) (hp : w.cell? ⟨p, o, none⟩ = some v) (h : Strokes w v X) (ok : okInk X) (hv : validInk X = true) :
    Calls Try.prog 25 #[.pointer (some ⟨p, o, none⟩)] w (RetOwn eI 2 (orderI X) w) := by
  obtain ⟨sa, sc, rfl⟩ := strokes_shape h
  have hn := validInk_len hv
  go_enter Try.func25, Try.ntmps25
  go_wp2
  go_loopw [3, 4] (fun u i wr => ∃ k : Nat, k ≤ X.length ∧ i = .int .i64 k ∧ Own eI 2 w.heap.size wr u (homesTo X k) ∧ Below w.heap.size w wr) (fun _ i _ => X.length - (intOf i).toNat)
  case atStart => exact ⟨0, Nat.zero_le _, rfl, Own.empty _ _ (Nat.le_refl _), below_alloc _ _⟩
  case round =>
    obtain ⟨k, hk, rfl, ho, hb⟩ := hrel
    have q1 := cell_later hb hp
    by_cases hlt : k < X.length
    · have hli : (k : Int) < (X.length : Int) := by omega
      have HT := hid (homesTo_succ X k)
      have hlk := homesTo_len X k
      go_wp2_with fail
      refine (l14Home_any _ _ _ X k _ q1 (h.below hb) ok hv hlt).mono ?_
      rintro e w2 ⟨rfl, hb2⟩
      replace ho := ho.below hb2
      have hb' := hb.trans (hb2.mono hb.size)
      have hbs := hb'.size
      clear hb hb2 q1
      go_wp2_with (at_builtin; (refine wpList_appA rfl _ _ 61 rfl w.heap.size 2 _ 8 infoI Try.underlying61 rfl _ _ rfl (ho.alloc _) _ [homeI X k] rfl (by exact arr_block1 (E := eI) (n := 1) [homeI X k] #[.int .i64 (homeI X k)] rfl rfl maxLen_1 (by simp)) (by unfold maxLen; simp <;> omega) (by simp <;> omega) (by simp <;> omega) ?_; intro v' wA hoA hbA htA))
      have hbA' : Below w.heap.size w wA := (hb'.alloc hbs _).trans hbA
      go_roundw
      case rel => exact ⟨k + 1, by omega, by go_num, by rw [HT.out]; exact hoA, hbA'⟩
      case measure => simp [intOf]; omega
    · obtain rfl : k = X.length := by omega
      obtain ⟨w1, rfl⟩ : ∃ w1, w1 = wr := ⟨wr, rfl⟩
      have HO : Hid (orderI X = ordTo (homesTo X X.length) X.length) := hid rfl
      have hlen := homesTo_len X X.length
      obtain ⟨H, hH⟩ : ∃ H, H = homesTo X X.length := ⟨_, rfl⟩
      rw [← hH] at HO ho hlen
      clear hH
      obtain ⟨hb0, hoff, hao, hcap, rfl, hnc, hcm, hao', hc⟩ := ho.arr
      clear ho
      unfold maxLen at hcm
      have hbs := hb.size
      have HN : Hid (H.length = X.length) := hlen
      have hH16 : H.length ≤ 16 := by omega
      clear hlen
      go_wp2
      go_loopw [5, 6] (fun u i wq => ∃ k : Nat, k ≤ H.length ∧ i = .int .i64 k ∧ Own eI 2 w1.heap.size wq u (ordTo H k) ∧ Below w1.heap.size w1 wq) (fun _ i _ => H.length - (intOf i).toNat)
      case atStart => exact ⟨0, Nat.zero_le _, rfl, Own.empty _ _ (Nat.le_refl _), below_alloc _ _⟩
      case round =>
        clear q1
        obtain ⟨k, hk, rfl, ho, hbq⟩ := hrel
        have hqs := hbq.size
        have hlk := ordTo_bd (H := H) (k := k) (by omega) (by omega)
        by_cases hlt : k < H.length
        · obtain ⟨hao0, hbw⟩ := hao' (by omega)
          subst hao0
          obtain ⟨x, hx⟩ : ∃ x, H[k]? = some x := ⟨_, List.getElem?_eq_getElem hlt⟩
          have c0 := eI_cell (hc.below hbq hbw) hx
          have hli : (k : Int) < (H.length : Int) := by omega
          have HS := hid (ordTo_succ H k)
          by_cases hx0 : 0 ≤ x
          · have HA := hid (ordAt_t hx hx0)
            clear hx
            go_wp2
            go_roundw
            case rel => exact ⟨k + 1, by omega, by go_num, by rw [HS.out, HA.out, List.append_nil]; exact ho, hbq⟩
            case measure => simp [intOf]; omega
          · have HA := hid (ordAt_f hx (by omega))
            clear hx
            go_wp2_with (at_builtin; (refine wpList_appA rfl _ _ 61 rfl w1.heap.size 2 _ 8 infoI Try.underlying61 rfl _ (ordTo H k) rfl (ho.alloc _) _ [(k : Int)] rfl (by exact arr_block1 (E := eI) (n := 1) [(k : Int)] #[.int .i64 k] rfl rfl maxLen_1 (by simp)) (by unfold maxLen; simp <;> omega) (by simp <;> omega) (by simp <;> omega) ?_; intro v' wA hoA hbA htA))
            have hbA' : Below w1.heap.size w1 wA := (hbq.alloc hqs _).trans hbA
            clear c0 ho hbq hqs htA hbA
            go_loopw [5, 7] (fun u i wz => ∃ d : Nat, d ≤ H.length ∧ i = .int .i64 d ∧ Own eI 2 w1.heap.size wz u (ordTo H k ++ ((k : Int) :: ordRow H k d)) ∧ Below w1.heap.size w1 wz) (fun _ i _ => H.length - (intOf i).toNat)
            case atStart => exact ⟨0, Nat.zero_le _, rfl, by rw [ordRow_zero]; exact hoA, hbA'⟩
            case round =>
              clear hoA hbA'
              obtain ⟨d, hd, rfl, ho, hbq⟩ := hrel
              have hqs := hbq.size
              have hlr := ordRow_len H k d
              by_cases hdl : d < H.length
              · obtain ⟨y, hy⟩ : ∃ y, H[d]? = some y := ⟨_, List.getElem?_eq_getElem hdl⟩
                have d0 := eI_cell (hc.below hbq hbw) hy
                have hdi : (d : Int) < (H.length : Int) := by omega
                by_cases hyk : y = (k : Int)
                · subst hyk
                  have HR := hid (ordRow_t hy)
                  clear hy
                  go_wp2_with (at_builtin; (refine wpList_appA rfl _ _ 61 rfl w1.heap.size 2 _ 8 infoI Try.underlying61 rfl _ (ordTo H k ++ ((k : Int) :: ordRow H k d)) rfl (ho.alloc _) _ [(d : Int)] rfl (by exact arr_block1 (E := eI) (n := 1) [(d : Int)] #[.int .i64 d] rfl rfl maxLen_1 (by simp)) (by unfold maxLen; simp <;> omega) (by simp <;> omega) (by simp <;> omega) ?_; intro v2 wB hoB hbB htB))
                  have hbB' : Below w1.heap.size w1 wB := (hbq.alloc hqs _).trans hbB
                  go_roundw
                  case rel => exact ⟨d + 1, by omega, by go_num, by rw [HR.out, ← List.cons_append, ← List.append_assoc]; exact hoB, hbB'⟩
                  case measure => simp [intOf]; omega
                · have HR := hid (ordRow_f hy hyk)
                  have hq : (y == (k : Int)) = false := by rw [beq_eq_false_iff_ne]; exact hyk
                  clear hy
                  go_wp2
                  go_roundw
                  case rel => exact ⟨d + 1, by omega, by go_num, by rw [HR.out]; exact ho, hbq⟩
                  case measure => simp [intOf]; omega
              · obtain rfl : d = H.length := by omega
                rw [← HA.out, ← HS.out] at ho
                go_wp2
                go_roundw
                case rel => exact ⟨k + 1, by omega, by go_num, ho, hbq⟩
                case measure => simp [intOf]; omega
        · obtain rfl : k = H.length := by omega
          go_wp2
          go_ret
          refine ⟨_, rfl, ?_, hb.trans (hbq.mono hbs)⟩
          rw [HO.out, ← HN.out]
          exact ho.mono hbs
theorem infoI2 : (Try.prog.info? 3).map (fun i => (i.zero, i.size, i.bytes)) = some (some (.int .i64 0), 1, 8) := by kernel_rfl
set_option maxHeartbeats 4000000 in
set_option maxRecDepth 100000 in
theorem orderOf_any (v : Value) (X : XInk) (w : World) (h : Strokes w v X) (ok : okInk X) (hv : validInk X = true) :
    Calls Try.prog 32 #[.agg #[v]] w (RetOwn eI 2 (orderI X) w) := by
  obtain ⟨sa, sc, rfl⟩ := strokes_shape h
  have hn := validInk_len hv
  obtain ⟨i0, hi, hz0, hz1, hz2⟩ := info_parts infoI2
  have q0 : (w.alloc (.cells #[.slice sa X.length sc] 30)).cell? ⟨w.heap.size, 0, none⟩ = some (.slice sa X.length sc) := by simp
  have hA := h.alloc (.cells #[.slice sa X.length sc] 30)
  have hbA : Below w.heap.size w (w.alloc (.cells #[.slice sa X.length sc] 30)) := below_alloc _ _
  obtain ⟨Wb, hWb⟩ : ∃ Wb, Wb = w.alloc (.cells #[.slice sa X.length sc] 30) := ⟨_, rfl⟩
  rw [← hWb] at q0 hA hbA
  have HWB := hid hWb
  clear hWb
  go_enter Try.func32, Try.ntmps32
  go_wp2_with (at_make; rw [← HWB.out]; refine wpList_make_full _ rfl _ _ 78 rfl Wb.heap.size 3 i0 _ 1 Try.underlying78 hi hz0 hz1 _ _ _ _ X.length rfl rfl rfl rfl (by rw [hz2]; omega) (by unfold maxLen; omega) (Nat.le_refl _) ?_; intro w1 hown hgr; have q1 := cell_later ((Below.refl _ _).grown hgr (Nat.le_refl _) (by simp) : Below Wb.heap.size Wb w1) q0)
  have hown := Own.made (E := eI) (z := (0 : Int)) hown rfl
  obtain ⟨g, hg⟩ : ∃ g, g = Wb.heap.size := ⟨_, rfl⟩
  rw [← hg] at hown ⊢
  have hw1 : Below Wb.heap.size Wb w1 := (Below.refl _ _).grown hgr (Nat.le_refl _) (by simp)
  have hg1 : g < w1.heap.size := hown.lt.2
  have Hg := hid hg
  clear hg hi hz0 hz1 hz2 hgr
  clear q1
  go_loopw [16] (fun i wr => ∃ (k : Nat) (ys : List Int), k ≤ X.length ∧ i = .int .i64 k ∧ ys.length = X.length ∧ (∀ j, j < k → ys[j]? = (homesTo X X.length)[j]?) ∧ Own eI 3 g wr (.slice (some ⟨g, 0, none⟩) X.length X.length) ys ∧ Below Wb.heap.size Wb wr ∧ g < wr.heap.size) (fun i _ => X.length - (intOf i).toNat)
  case atStart => exact ⟨0, _, Nat.zero_le _, rfl, by simp, by simp, hown, hw1, hg1⟩
  case round =>
    clear hown hw1 hg1
    obtain ⟨k, ys, hk, rfl, hyl, hys, ho, hb, hgw⟩ := hrel
    have HY := hid hyl
    have HYS := hid hys
    clear hyl hys
    have q1 := cell_later hb q0
    by_cases hlt : k < X.length
    · have hli : (k : Int) < (X.length : Int) := by omega
      go_wp2_with fail
      refine (homeOf_any _ X k _ (hA.below hb) ok hv hlt).mono ?_
      rintro e w2 ⟨rfl, hb2⟩
      replace ho := ho.below hb2
      have hb' := hb.trans (hb2.mono hb.size)
      have hbs := hb2.size
      clear hb hb2 q1
      obtain ⟨y, hy⟩ : ∃ y, ys[k]? = some y := ⟨_, List.getElem?_eq_getElem (by rw [HY.out]; exact hlt)⟩
      have Y0 := hid hy
      clear hy
      obtain ⟨u0, hv0⟩ := ownN_slot ho (by simp [HY.out]) rfl hlt
      have hf := ho.free (by simp [HY.out])
      go_wp2
      have S0 := ho.set1 (by simp [HY.out]) Y0.out (j := 0) (x' := homeI X k) (u := .int .i64 (homeI X k)) (by decide) rfl
      rw [show k * eI.sz + 0 = k by show k * 1 + 0 = k; omega] at S0
      go_roundw
      case rel =>
        have h1 := fill_step (xs := homesTo X X.length) (by rw [homesTo_len]; exact HY.out) HYS.out (homesTo_get hlt)
        exact ⟨k + 1, ys.set k (homeI X k), by omega, by go_num, by rw [h1.1, homesTo_len], h1.2, S0.1, hb'.grown S0.2 hb'.size (by have := Hg.out; simp; omega), Nat.lt_of_lt_of_le (Nat.lt_of_lt_of_le hgw hbs) S0.2.size⟩
      case measure => simp [intOf]; omega
    · obtain rfl : k = X.length := by omega
      obtain ⟨w1, rfl⟩ : ∃ w1, w1 = wr := ⟨wr, rfl⟩
      have hdone := fill_done (xs := homesTo X X.length) (by rw [homesTo_len]; exact HY.out) HYS.out (by rw [homesTo_len]; exact Nat.le_refl _)
      have HO : Hid (orderI X = ordTo (homesTo X X.length) X.length) := hid rfl
      have hlen := homesTo_len X X.length
      rw [← hdone] at HO hlen
      obtain ⟨H, hH⟩ : ∃ H, H = ys := ⟨_, rfl⟩
      rw [← hH] at HO ho hlen
      clear hH hdone HY HYS ys
      have HN : Hid (H.length = X.length) := hlen
      have ho2 : Own eI 3 g w1 (.slice (some ⟨g, 0, none⟩) X.length X.length) H := ho
      obtain ⟨hb0, hoff, hao, hcap, hsl, hnc, hcm, hao', hc⟩ := ho.arr
      simp only [Value.slice.injEq] at hsl
      obtain ⟨rfl, -, rfl⟩ := hsl
      clear ho ho2
      unfold maxLen at hcm
      have hbs : w.heap.size ≤ w1.heap.size := Nat.le_trans hbA.size hb.size
      have hbw1 := hbA.trans (hb.mono hbA.size)
      have hH16 : H.length ≤ 16 := by omega
      have hgX : 0 < X.length → hb0 = g ∧ hoff = 0 := by
        intro h0
        have := (hao' (by omega)).1
        simp at this
        exact ⟨this.1.symm, this.2.symm⟩
      clear hlen
      go_wp2
      go_loopw [5, 29] (fun u i wq => ∃ k : Nat, k ≤ X.length ∧ i = .int .i64 k ∧ Own eI 2 w1.heap.size wq u (ordTo H k) ∧ Below w1.heap.size w1 wq) (fun _ i _ => X.length - (intOf i).toNat)
      case atStart => exact ⟨0, Nat.zero_le _, rfl, Own.nil _ _ _, Below.refl _ _⟩
      case round =>
        clear q1
        obtain ⟨k, hk, rfl, ho, hbq⟩ := hrel
        have hqs := hbq.size
        have hlk := ordTo_bd (H := H) (k := k) (by omega) hH16
        by_cases hlt : k < X.length
        · obtain ⟨hao0, hbw⟩ := hao' (by rw [HN.out]; omega)
          clear hao0
          obtain ⟨rfl, rfl⟩ := hgX (by omega)
          obtain ⟨x, hx⟩ : ∃ x, H[k]? = some x := ⟨_, List.getElem?_eq_getElem (by rw [HN.out]; exact hlt)⟩
          have c0 := eI_cell (hc.below hbq hbw) hx
          rw [Nat.zero_add] at c0
          have hli : (k : Int) < (X.length : Int) := by omega
          have HS := hid (ordTo_succ H k)
          by_cases hx0 : 0 ≤ x
          · have HA := hid (ordAt_t hx hx0)
            clear hx
            go_wp2
            go_roundw
            case rel => exact ⟨k + 1, by omega, by go_num, by rw [HS.out, HA.out, List.append_nil]; exact ho, hbq⟩
            case measure => simp [intOf]; omega
          · have HA := hid (ordAt_f hx (by omega))
            rw [HN.out] at HA
            clear hx
            go_wp2_with (at_builtin; (refine wpList_appA rfl _ _ 61 rfl w1.heap.size 2 _ 8 infoI Try.underlying61 rfl _ (ordTo H k) rfl (ho.alloc _) _ [(k : Int)] rfl (by exact arr_block1 (E := eI) (n := 1) [(k : Int)] #[.int .i64 k] rfl rfl maxLen_1 (by simp)) (by unfold maxLen; simp <;> omega) (by simp <;> omega) (by simp <;> omega) ?_; intro v' wA hoA hbA htA))
            have hbA' : Below w1.heap.size w1 wA := (hbq.alloc hqs _).trans hbA
            clear c0 ho hbq hqs htA hbA
            go_loopw [5, 43] (fun u i wz => ∃ d : Nat, d ≤ X.length ∧ i = .int .i64 d ∧ Own eI 2 w1.heap.size wz u (ordTo H k ++ ((k : Int) :: ordRow H k d)) ∧ Below w1.heap.size w1 wz) (fun _ i _ => X.length - (intOf i).toNat)
            case atStart => exact ⟨0, Nat.zero_le _, rfl, by rw [ordRow_zero]; exact hoA, hbA'⟩
            case round =>
              clear hoA hbA'
              obtain ⟨d, hd, rfl, ho, hbq⟩ := hrel
              have hqs := hbq.size
              have hlr := ordRow_len H k d
              by_cases hdl : d < X.length
              · obtain ⟨y, hy⟩ : ∃ y, H[d]? = some y := ⟨_, List.getElem?_eq_getElem (by rw [HN.out]; exact hdl)⟩
                have d0 := eI_cell (hc.below hbq hbw) hy
                rw [Nat.zero_add] at d0
                have hdi : (d : Int) < (X.length : Int) := by omega
                by_cases hyk : y = (k : Int)
                · subst hyk
                  have HR := hid (ordRow_t hy)
                  clear hy
                  go_wp2_with (at_builtin; (refine wpList_appA rfl _ _ 61 rfl w1.heap.size 2 _ 8 infoI Try.underlying61 rfl _ (ordTo H k ++ ((k : Int) :: ordRow H k d)) rfl (ho.alloc _) _ [(d : Int)] rfl (by exact arr_block1 (E := eI) (n := 1) [(d : Int)] #[.int .i64 d] rfl rfl maxLen_1 (by simp)) (by unfold maxLen; simp <;> omega) (by simp <;> omega) (by simp <;> omega) ?_; intro v2 wB hoB hbB htB))
                  have hbB' : Below w1.heap.size w1 wB := (hbq.alloc hqs _).trans hbB
                  go_roundw
                  case rel => exact ⟨d + 1, by omega, by go_num, by rw [HR.out, ← List.cons_append, ← List.append_assoc]; exact hoB, hbB'⟩
                  case measure => simp [intOf]; omega
                · have HR := hid (ordRow_f hy hyk)
                  have hq : (y == (k : Int)) = false := by rw [beq_eq_false_iff_ne]; exact hyk
                  clear hy
                  go_wp2
                  go_roundw
                  case rel => exact ⟨d + 1, by omega, by go_num, by rw [HR.out]; exact ho, hbq⟩
                  case measure => simp [intOf]; omega
              · obtain rfl : d = X.length := by omega
                rw [← HA.out, ← HS.out] at ho
                go_wp2
                go_roundw
                case rel => exact ⟨k + 1, by omega, by go_num, ho, hbq⟩
                case measure => simp [intOf]; omega
        · obtain rfl : k = X.length := by omega
          go_wp2
          go_ret
          refine ⟨_, rfl, ?_, hbw1.trans (hbq.mono hbs)⟩
          rw [HO.out]
          exact ho.mono hbs
end Go.Proofs.Ytdadmphmpojjhaa
