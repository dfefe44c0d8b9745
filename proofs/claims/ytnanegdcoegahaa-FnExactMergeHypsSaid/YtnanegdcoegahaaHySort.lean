/- The best hypotheses of a list: sorted by slices.SortFunc. -/
import Derived.Test.YtnanegdcoegahaaHyMerge
import Derived.Test.YtnanegdcoegahaaHyRaise
import Derived.Test.YtnanegdcoegahaaSortOwn
import Derived.Test.YtnanegdcoegahaaHyLay
import Derived.Deep.RegionHeld3
namespace Go.Proofs.Ytnanegdcoegahaa
open Go.RowKit Go.Sort
attribute [local go_sem ↓] Go.wp_at_zero Go.wp_at_succ

instance : Inhabited DHyp := ⟨hy0⟩
theorem valid_best {a : List DHyp} (h : validHy a = true) : IsBest a a := by
  rw [validHy, Bool.and_eq_true, allHy, List.all_eq_true] at h
  have hk : ∀ k e, a[k]? = some e → hyOk a k e = true := by
    intro k e he
    have := h.1 k (by simp; exact (List.getElem?_eq_some_iff.1 he).1)
    simpa [he] using this
  have hlab : a.Pairwise fun x y => smH x y = false := by
    refine List.pairwise_iff_getElem.2 fun i j hi hj hij => ?_
    have h1 := hk j _ (List.getElem?_eq_getElem hj)
    simp only [hyOk, Bool.and_eq_true] at h1
    have h2 := h1.2
    rw [newAt, List.all_eq_true] at h2
    have := h2 a[i] (List.mem_of_getElem? (i := i) (by rw [List.getElem?_take, if_pos hij, List.getElem?_eq_getElem hi]))
    simpa [smH] using this
  have hstep : ∀ k (hk1 : k + 1 < a.length), ltH (a[k]'(by omega)) a[k + 1] = true := by
    intro k hk1
    have h1 := hk (k + 1) _ (List.getElem?_eq_getElem hk1)
    simp only [hyOk, Bool.and_eq_true] at h1
    have h2 := h1.1.2
    unfold ordAtH at h2
    rw [Nat.add_sub_cancel, List.getElem?_eq_getElem (by omega : k < a.length)] at h2
    exact h2
  have hlt : ∀ d i (hi : i < a.length) (hj : i + d + 1 < a.length), ltH a[i] a[i + d + 1] = true := by
    intro d
    induction d with
    | zero => intro i hi hj; exact hstep i hj
    | succ d ih => intro i hi hj; exact swoH.trans _ _ _ (ih i hi (by omega)) (hstep (i + d + 1) hj)
  refine ⟨List.pairwise_iff_getElem.2 fun i j hi hj hij => ?_, hlab, fun x => ⟨fun hx => ⟨hx, fun y hy hs => ?_⟩, fun hx => hx.1⟩⟩
  · obtain ⟨d, rfl⟩ : ∃ d, j = i + d + 1 := ⟨j - i - 1, by omega⟩
    exact hlt d i hi hj
  · rw [one_label hlab hy hx hs]; exact swoH.irrefl _
theorem merge_eq {a b Y : List DHyp} (ha : validHy a = true) (hp : Y.Perm (a ++ b)) (hu : Up ltH Y) : dedup Y = b.foldl insH a :=
  isBest_uniq (dedup_best hp hu) (fold_best b a a (valid_best ha))
def mergeHy (a b : List DHyp) (k : Int) : List DHyp := if validHy a && validHy b && inB k 1 8 then (b.foldl insH a).take k.toNat else []
def mergeC (a b : List DHyp) (k : Int) : Int := if validHy a && validHy b then (if inB k 1 8 then 0 else 2) else 1
theorem okMerge {a b : List DHyp} {k : Int} : okHypS (mergeHy a b k) := by
  unfold mergeHy okHypS
  split
  · rename_i h
    simp only [Bool.and_eq_true] at h
    have := inB_true.1 h.2
    rw [List.length_take]; omega
  · simp
set_option maxHeartbeats 2000000 in
theorem compareHyps_lays (a b : DHyp) (w : World) :
    Calls Try.prog 127 #[.agg #[.string a.label, .int .i64 a.cost], .agg #[.string b.label, .int .i64 b.cost]] w fun e w' => e = .returned (.int .i64 (ordH a b)) ∧ ∃ q os', w' = grow (w.drewN q) os' := by
  rw [← ordH_or]
  go_enter Try.func127, Try.ntmps127
  go_wp2
  obtain ⟨w1, hw1⟩ : ∃ w1, w1 = ((w.alloc (.cells #[.string a.label, .int .i64 a.cost] 130)).alloc (.cells #[.string b.label, .int .i64 b.cost] 130)) := ⟨_, rfl⟩
  have hg1 : Hid (w1 = grow w #[.cells #[.string a.label, .int .i64 a.cost] 130, .cells #[.string b.label, .int .i64 b.cost] 130]) := hid (by rw [hw1, alloc_eq_grow, alloc_eq_grow, grow_grow]; rfl)
  have c0 : w1.cell? ⟨w.heap.size, 0, none⟩ = some (.string a.label) := by rw [hw1]; simp
  have c1 : w1.cell? ⟨w.heap.size, 1, none⟩ = some (.int .i64 a.cost) := by rw [hw1]; simp
  have d0 : w1.cell? ⟨w.heap.size + 1, 0, none⟩ = some (.string b.label) := by rw [hw1]; simp
  have d1 : w1.cell? ⟨w.heap.size + 1, 1, none⟩ = some (.int .i64 b.cost) := by rw [hw1]; simp
  rw [← hw1]
  clear hw1
  generalize w.heap.size = n0 at c0 c1 d0 d1 ⊢
  go_region_held3 (fun w' => w'.cell? ⟨n0, 0, none⟩ = some (.string a.label) ∧ w'.cell? ⟨n0, 1, none⟩ = some (.int .i64 a.cost) ∧ w'.cell? ⟨n0 + 1, 0, none⟩ = some (.string b.label) ∧ w'.cell? ⟨n0 + 1, 1, none⟩ = some (.int .i64 b.cost)) (go_keep)
    (first | (go_at_call 114; refine (cmpInt_any _ _ _).mono ?_; rintro e w' ⟨rfl, rfl⟩) | (go_at_call 115; refine (cmpStr_any _ _ _).mono ?_; rintro e w' ⟨rfl, rfl⟩) | (go_at_call 113; refine (cmpOr_any _ [cmpI a.cost b.cost, cmpB a.label b.label] _ (Arr.drew (arr_new _ _ rfl rfl (maxLen_ge (Nat.le_of_ble_eq_true rfl))))).mono ?_; rintro e w' ⟨rfl, rfl⟩))
  go_wp2
  go_ret
  exact ⟨rfl, 1, _, by rw [hg1.out, alloc_eq_grow, grow_grow]; rfl⟩
theorem compareHyps_enters : ∀ args w, (callFunc 127 args).run Try.prog w = .ok (.enter 127 args) w := enters_of Try.func127 (by kernel_rfl) rfl
theorem sortHyp_any (g cap n B : Nat) (X : List DHyp) (w : World) (h : Own eHyp 130 B w (.slice (some ⟨g, 0, none⟩) n cap) X) (hn : n = X.length) (hs : X.length ≤ 1048576) :
    Calls Try.prog 131 #[.slice (some ⟨g, 0, none⟩) n cap, .func (.func 127) #[] #[]] w fun e w' => e = .returned (.tuple #[]) ∧ ∃ Y, Y.Perm X ∧ Up ltH Y ∧ Own eHyp 130 B w' (.slice (some ⟨g, 0, none⟩) n cap) Y ∧ Below B w w' := by
  have hlt := h.lt
  have hcon := AnyQ.slices_SortFunc Try.sortHyp 2 Try.isAgg130 Try.sizeOf130 eHyp.row eHyp.len eHyp.one ordH swoH 127 #[] g 0 cap X.toArray w compareHyps_enters
    (fun m os dk _ x y => compareHyps_lays x y _) (own_holds h hn) hlt.2 (by simp; omega)
  subst hn
  have hcon' : Calls Try.prog 131 #[.slice (some ⟨g, 0, none⟩) X.length cap, .func (.func 127) #[] #[]] w _ := hcon
  refine hcon'.mono ?_
  rintro e w' ⟨rfl, d', m, os, ⟨hsz, _, hperm⟩, hsort, rfl⟩
  refine ⟨rfl, d'.toList, ?_, ?_, ?_⟩
  · have e1 : (d'.extract 0 X.toArray.size).toList = d'.toList := by rw [← hsz]; simp
    have e2 : (X.toArray.extract 0 X.toArray.size).toList = X := by simp
    rw [e1, e2] at hperm
    exact hperm
  · refine List.pairwise_iff_getElem.2 fun i j hi hj hij => ?_
    have hi' : i < d'.size := by simpa using hi
    have hj' : j < d'.size := by simpa using hj
    have := hsort i j (Nat.zero_le _) hij (by rw [← hsz]; exact hj')
    rw [getElem!_pos d' i hi', getElem!_pos d' j hj'] at this
    simpa [ltH, ltOf] using this
  · have := own_sorted (n := m) (os := os) (Y := d'.toList) h rfl (by have := hsz; simpa using this)
    rw [show d'.toList.toArray = d' by simp] at this
    refine ⟨this.1, ?_⟩
    have hb := (Below.refl B w).grown this.2 (Nat.le_trans hlt.1 (Nat.le_of_lt hlt.2)) (by intro k hk; cases hk; exact hlt.1)
    exact hb
set_option maxHeartbeats 1000000 in
theorem cloneHy_any (v : Value) (x : List DHyp) (w : World) (h : Arr eHyp w v x) (ok : x.length ≤ 1048576) :
    Calls Try.prog 130 #[v] w fun e w' => ∃ u, e = .returned u ∧ Own eHyp 130 w.heap.size w' u x ∧ Below w.heap.size w w' := by
  obtain ⟨b, off, ao, cap, rfl, hnc, hcm, hao, hc⟩ := h
  unfold maxLen at hcm
  have q22 : ∀ (w : World) (a : Option Addr) (n c n' c' : Nat), (binOp .eql 78 (.slice a n c) (.slice none n' c')).run Try.prog w = .ok (.bool a.isNone) w := fun w a n c n' c' => Lib.run_eql_slice_nil w _ _ a n c n' c' Try.underlying78
  cases ao with
  | none =>
    have hx : x = [] := by
      cases x with
      | nil => rfl
      | cons a t => have := (hao (by simp)).1; simp at this
    subst hx
    go_enter Try.func130, Try.ntmps130
    go_wp2
    go_ret
    exact ⟨_, rfl, Own.nil _ _ _, Below.refl _ _⟩
  | some ad =>
    go_enter Try.func130, Try.ntmps130
    go_wp2_with (at_builtin; refine wpList_appE rfl _ _ 78 rfl w.heap.size 130 _ 24 infHyp Try.underlying78 rfl _ _ rfl (Own.empty _ _ (Nat.le_refl _)) ad x.length cap x rfl rfl ?qc2 (by unfold maxLen; simp; omega) (by simp; omega) (by simp) ?_)
    case qc2 =>
      intro j u hu
      have hlen := (List.getElem?_eq_some_iff.1 hu).1
      rw [Enc.flat_len] at hlen
      have hpos : 0 < x.length := by
        cases x with
        | nil => simp at hlen
        | cons a t => simp
      obtain ⟨h1, h2⟩ := hao hpos
      cases h1
      rw [Addr.add_lit]
      exact flat_cells (hc.below (below_alloc w _) h2) j u hu
    intro u w1 ho hb1
    go_wp2
    go_ret
    exact ⟨_, rfl, by simpa using ho, (below_alloc _ _).trans hb1⟩
set_option maxHeartbeats 400000 in
theorem hypsClo_any (p : Nat) (a : DHyp) (l : ByteArray) (w : World) (c0 : w.cell? ⟨p, 0, none⟩ = some (.string l)) :
    Calls Try.prog 132 #[.agg #[.string a.label, .int .i64 a.cost], .pointer (some ⟨p, 0, none⟩)] w (Ret (.bool (eqS a.label l)) w) := by
  have hlt := cell_lt c0
  have c1 := cell_alloc c0 (.cells #[.string a.label, .int .i64 a.cost] 130)
  go_enter Try.func132, Try.ntmps132
  go_wp2
  go_ret
  exact ret_bool rfl (below_alloc _ _)
theorem hypsClo_enters : Enters 132 := fun args w => enters_of Try.func132 (by kernel_rfl) rfl args w
set_option maxHeartbeats 4000000 in
set_option maxRecDepth 100000 in
/-- what the loop leaves: the best of a sorted permutation, the first k -/
theorem hypsOf_any (v : Value) (X : List DHyp) (k : Nat) (w : World) (h : Arr eHyp w v X) (hk : k ≤ 8) (hX : X.length ≤ 1000) :
    Calls Try.prog 99 #[v, .int .i64 k] w fun e w' => ∃ Y, Y.Perm X ∧ Up ltH Y ∧ RetOwn eHyp 130 ((dedup Y).take k) w e w' := by
  have HC := hid (cloneHy_any v X w h (by omega))
  have NIL : ∀ w1 : World, Calls Try.prog 131 #[.slice none 0 0, .func (.func 127) #[] #[]] w1 fun e w' => e = .returned (.tuple #[]) ∧ w' = w1 := fun w1 => AnyF.slices_SortFunc_none { Try.sortHyp with } none 0 (.func (.func 127) #[] #[]) w1
  have HS : ∀ (w1 : World) (u : Value), Own eHyp 130 w.heap.size w1 u X → Below w.heap.size w w1 → Calls Try.prog 131 #[u, .func (.func 127) #[] #[]] w1 fun e w' => e = .returned (.tuple #[]) ∧ ∃ Y, Y.Perm X ∧ Up ltH Y ∧ Own eHyp 130 w.heap.size w' u Y ∧ Below w.heap.size w w' := by
    intro w1 u ho hb
    rcases ho.shape with ⟨rfl, h0⟩ | ⟨g, cap, rfl, hB, hl⟩
    · refine (NIL w1).mono ?_
      rintro e w' ⟨rfl, rfl⟩
      exact ⟨rfl, [], by rw [h0], List.Pairwise.nil, Own.nil _ _ _, hb⟩
    · refine (sortHyp_any g cap _ w.heap.size X w1 ho rfl (by omega)).mono ?_
      rintro e w' ⟨rfl, Y, h1, h2, h3, h4⟩
      exact ⟨rfl, Y, h1, h2, h3, hb.trans h4⟩
  have HSS := hid HS
  clear HS NIL h
  have hki : (k : Int) ≤ 8 := by omega
  go_enter Try.func99, Try.ntmps99
  go_wp2_with (first | (go_at_call 130; refine HC.out.mono ?_; rintro e w1 ⟨u, rfl, ho, hb1⟩; obtain ⟨sa, sc, hu⟩ := ho.isSlice; subst hu) | (go_at_call 131; refine (HSS.out _ _ ho hb1).mono ?_; rintro e w2 ⟨rfl, Y, hperm, hup, hoY, hb2⟩))
  have hYl : Y.length = X.length := hperm.length_eq
  have HYL := hid hYl
  obtain ⟨B, hB⟩ : ∃ B, B = w2.heap.size := ⟨_, rfl⟩
  have hwB : w.heap.size ≤ B := by rw [hB]; exact hb2.size
  obtain ⟨by_, offy, ay, capy, hey, hncy, hcmy, haoy, hcy⟩ := hoY.arr
  simp only [Value.slice.injEq] at hey
  obtain ⟨rfl, -, rfl⟩ := hey
  unfold maxLen at hcmy
  rw [← hB] at haoy
  have HB := hid hB
  have HP := hid hperm
  have HU := hid hup
  clear hB ho hb1 hoY hYl hperm hup
  go_loopw [6, 15] (fun l i wr => ∃ j : Nat, j ≤ X.length ∧ i = .int .i64 j ∧ Own eHyp 130 B wr l ((Y.take j).foldl (stepM k) []) ∧ Below B w2 wr) (fun _ i _ => X.length - (intOf i).toNat)
  case atStart => exact ⟨0, Nat.zero_le _, rfl, Own.nil _ _ _, Below.refl _ _⟩
  case round =>
    obtain ⟨j, hj, rfl, ho, hb⟩ := hrel
    have hBr : B ≤ wr.heap.size := by rw [HB.out]; exact hb.size
    by_cases hlt : j < X.length
    · obtain ⟨hao', hbw⟩ := haoy (by rw [HYL.out]; omega)
      subst hao'
      obtain ⟨e, he⟩ : ∃ e, Y[j]? = some e := ⟨_, List.getElem?_eq_getElem (by rw [HYL.out]; exact hlt)⟩
      have hli : (j : Int) < (X.length : Int) := by omega
      obtain ⟨c0, c1⟩ := eHyp_cells (hcy.below hb hbw) he
      have HT : Hid ((Y.take (j + 1)).foldl (stepM k) [] = stepM k ((Y.take j).foldl (stepM k) []) e) := hid (by rw [List.take_add_one, he, List.foldl_append]; rfl)
      have hxl : ((Y.take j).foldl (stepM k) []).length ≤ 8 := by
        have := fold_take_m k (Y.take j) []
        rw [List.take_nil] at this
        rw [this, List.length_take]; omega
      obtain ⟨XS, hXS⟩ : ∃ XS, XS = (Y.take j).foldl (stepM k) [] := ⟨_, rfl⟩
      rw [← hXS] at ho hxl HT
      obtain ⟨sl, sc2, hls⟩ := ho.isSlice
      subst hls
      obtain ⟨la, co⟩ := e
      simp only at c0 c1
      clear he hXS
      obtain ⟨w3, hw3⟩ : ∃ w3, w3 = wr.alloc (.cells #[.string la, .int .i64 co] 130) := ⟨_, rfl⟩
      have hm3 : Below wr.heap.size wr w3 := by rw [hw3]; exact below_alloc _ _
      have hb3 : Below B w2 w3 := hb.trans (hm3.mono hBr)
      have ho3 := ho.below hm3
      have hB3 : B ≤ w3.heap.size := Nat.le_trans hBr hm3.size
      have e0 : w3.cell? ⟨wr.heap.size, 0, none⟩ = some (.string la) := by rw [hw3]; simp
      have e1 : w3.cell? ⟨wr.heap.size, 1, none⟩ = some (.int .i64 co) := by rw [hw3]; simp
      have HW3 := hid hw3
      clear hw3
      have HCF := hid (containsHy_any 132 (.pointer (some ⟨wr.heap.size, 0, none⟩)) (fun a => eqS a.label la) (.slice sl XS.length sc2) XS w3 ho3.arr (by omega) hypsClo_enters (fun a w' hb' => hypsClo_any _ a la w' (cell_later hb' e0)))
      by_cases hlk : XS.length < k
      · have hlki : (XS.length : Int) < (k : Int) := by omega
        cases ha : XS.any (fun a => eqS a.label la)
        · have HT' : Hid ((Y.take (j + 1)).foldl (stepM k) [] = XS ++ [⟨la, co⟩]) := hid (by rw [HT.out]; unfold stepM smH; simp only [ha]; simp [hlk])
          rw [ha] at HCF
          clear ha
          go_wp2_with (first | (go_at_call 128; rw [← HW3.out]; refine HCF.out.mono ?_; rintro e w4 ⟨rfl, hb4⟩; have f0 := cell_later hb4 e0; have f1 := cell_later hb4 e1; have ho4 := ho3.below hb4; have hb4' := hb3.trans (hb4.mono hB3); have hB4 := Nat.le_trans hB3 hb4.size) | (at_builtin; (refine wpList_appA rfl _ _ 78 rfl B 130 _ 24 infHyp Try.underlying78 rfl _ XS rfl (ho4.alloc _) _ [⟨la, co⟩] rfl (by exact arr_block1 (E := eHyp) (n := 1) [⟨la, co⟩] #[.string la, .int .i64 co] rfl rfl (maxLen_ge (Nat.le_of_ble_eq_true rfl)) (by simp)) (by unfold maxLen; simp <;> omega) (by simp <;> omega) (by simp <;> omega) ?_; intro v' wA hoA hbA htA)))
          go_roundw
          case rel => exact ⟨j + 1, by omega, by go_num, by rw [HT'.out]; exact hoA, (hb4'.alloc hB4 _).trans hbA⟩
          case measure => simp [intOf]; omega
        · have HT' : Hid ((Y.take (j + 1)).foldl (stepM k) [] = XS) := hid (by rw [HT.out]; unfold stepM smH; simp only [ha]; simp)
          rw [ha] at HCF
          clear ha
          go_wp2_with (first | (go_at_call 128; rw [← HW3.out]; refine HCF.out.mono ?_; rintro e w4 ⟨rfl, hb4⟩) | (at_builtin; fail))
          go_roundw
          case rel => exact ⟨j + 1, by omega, by go_num, by rw [HT'.out]; exact ho3.below hb4, hb3.trans (hb4.mono hB3)⟩
          case measure => simp [intOf]; omega
      · have hdk : decide ((XS.length : Int) < (k : Int)) = false := by simp; omega
        have HT' : Hid ((Y.take (j + 1)).foldl (stepM k) [] = XS) := hid (by rw [HT.out]; unfold stepM; simp [hlk])
        have hdn : decide (XS.length < k) = false := by simp; omega
        have hdi : ¬ ((XS.length : Int) < (k : Int)) := by omega
        go_wp2
        rw [← HW3.out]
        go_roundw
        case rel => exact ⟨j + 1, by omega, by go_num, by rw [HT'.out]; exact ho3, hb3⟩
        case measure => simp [intOf]; omega
    · obtain rfl : j = X.length := by omega
      have hfin : Hid ((Y.take X.length).foldl (stepM k) [] = (dedup Y).take k) := hid (by
        rw [← HYL.out, List.take_length]
        have := fold_take_m k Y []
        rwa [List.take_nil] at this)
      go_wp2
      go_ret
      exact ⟨Y, HP.out, HU.out, _, rfl, by rw [← hfin.out]; exact ho.mono hwB, hb2.trans (hb.mono hwB)⟩
end Go.Proofs.Ytnanegdcoegahaa
