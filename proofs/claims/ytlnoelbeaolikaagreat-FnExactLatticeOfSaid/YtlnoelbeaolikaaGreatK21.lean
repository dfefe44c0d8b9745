/- slices.SortFunc at hypotheses: the shelf's contract at this program, by the numbers of its functions and types (written by the kit's lay-plain). -/
import Derived.Shelf.SlSortCmp.NoneTotal
import Derived.Ground.SlsfProg
import Derived.Test.YtlnoelbeaolikaaGreatProg
import Derived.Test.YtlnoelbeaolikaaGreatK20
import Derived.Deep.RegionHeld3
import Derived.Lib.AppendZeros
import Derived.Test.YtlnoelbeaolikaaGreatK03
import Derived.Test.YtlnoelbeaolikaaGreatK06
import Derived.StillTailTactics
namespace Go.Proofs
open Go.Shelf
def Tryz.sortHyp_ren : Go.Shelf.Ren := ⟨fun | 6 => 110 | 15 => 83 | 14 => 158 | 28 => 132 | 29 => 133 | 20 => 198 | 21 => 199 | 22 => 200 | 23 => 201 | 24 => 202 | 25 => 203 | 26 => 204 | 27 => 205 | 46 => 220 | 47 => 175 | 48 => 176 | 49 => 221 | 50 => 222 | 57 => 232 | n => n, fun | 22 => 32 | 24 => 76 | 25 => 170 | 3 => 3 | 39 => 145 | 0 => 0 | 53 => 195 | 55 => 197 | 4 => 4 | 46 => 188 | 45 => 187 | 50 => 192 | 5 => 5 | 9 => 9 | 66 => 231 | 70 => 235 | 76 => 252 | 77 => 253 | n => n, fun | n => n⟩
theorem Tryz.sortHyp : Go.Proofs.SlLaysF0.n6 Tryz.prog Tryz.sortHyp_ren := {
 mixed := by kernel_rfl
 f6 := ⟨Tryz.f110.name, by decide, Tryz.func110.trans (congrArg some (by kernel_rfl))⟩
 f14 := ⟨Tryz.f158.name, by decide, Tryz.func158.trans (congrArg some (by kernel_rfl))⟩
 f15 := Tryz.func83.trans (congrArg some (by kernel_rfl))
 f20 := ⟨Tryz.f198.name, by decide, Tryz.func198.trans (congrArg some (by kernel_rfl))⟩
 f21 := ⟨Tryz.f199.name, by decide, Tryz.func199.trans (congrArg some (by kernel_rfl))⟩
 f22 := ⟨Tryz.f200.name, by decide, Tryz.func200.trans (congrArg some (by kernel_rfl))⟩
 f23 := ⟨Tryz.f201.name, by decide, Tryz.func201.trans (congrArg some (by kernel_rfl))⟩
 f24 := ⟨Tryz.f202.name, by decide, Tryz.func202.trans (congrArg some (by kernel_rfl))⟩
 f25 := ⟨Tryz.f203.name, by decide, Tryz.func203.trans (congrArg some (by kernel_rfl))⟩
 f26 := ⟨Tryz.f204.name, by decide, Tryz.func204.trans (congrArg some (by kernel_rfl))⟩
 f27 := ⟨Tryz.f205.name, by decide, Tryz.func205.trans (congrArg some (by kernel_rfl))⟩
 f28 := Tryz.func132.trans (congrArg some (by kernel_rfl))
 f29 := Tryz.func133.trans (congrArg some (by kernel_rfl))
 f46 := ⟨Tryz.f220.name, by decide, Tryz.func220.trans (congrArg some (by kernel_rfl))⟩
 f47 := Tryz.func175.trans (congrArg some (by kernel_rfl))
 f48 := Tryz.func176.trans (congrArg some (by kernel_rfl))
 f49 := ⟨Tryz.f221.name, by decide, Tryz.func221.trans (congrArg some (by kernel_rfl))⟩
 f50 := ⟨Tryz.f222.name, by decide, Tryz.func222.trans (congrArg some (by kernel_rfl))⟩
 f57 := ⟨Tryz.f232.name, by decide, Tryz.func232.trans (congrArg some (by kernel_rfl))⟩
 t0 := Tryz.underlying0
 a0 := Tryz.isAgg0
 z0 := Tryz.sizeOf0
 v0 := Tryz.zeroValue0
 t3 := Tryz.underlying3
 a3 := Tryz.isAgg3
 z3 := Tryz.sizeOf3
 v3 := Tryz.zeroValue3
 t4 := Tryz.underlying4
 a4 := Tryz.isAgg4
 z4 := Tryz.sizeOf4
 v4 := Tryz.zeroValue4
 t5 := Tryz.underlying5
 a5 := Tryz.isAgg5
 z5 := Tryz.sizeOf5
 v5 := Tryz.zeroValue5
 t9 := Tryz.underlying9
 a9 := Tryz.isAgg9
 z9 := Tryz.sizeOf9
 v9 := Tryz.zeroValue9
 t22 := Tryz.underlying32
 a22 := Tryz.isAgg32
 z22 := Tryz.sizeOf32
 v22 := Tryz.zeroValue32
 t25 := Tryz.underlying170
 a25 := Tryz.isAgg170
 z25 := Tryz.sizeOf170
 v25 := Tryz.zeroValue170
 t39 := Tryz.underlying145
 a39 := Tryz.isAgg145
 z39 := Tryz.sizeOf145
 v39 := Tryz.zeroValue145
 t45 := Tryz.underlying187
 a45 := Tryz.isAgg187
 z45 := Tryz.sizeOf187
 v45 := Tryz.zeroValue187
 t46 := Tryz.underlying188
 a46 := Tryz.isAgg188
 z46 := Tryz.sizeOf188
 v46 := Tryz.zeroValue188
 t50 := Tryz.underlying192
 a50 := Tryz.isAgg192
 z50 := Tryz.sizeOf192
 v50 := Tryz.zeroValue192
 t53 := Tryz.underlying195
 a53 := Tryz.isAgg195
 z53 := Tryz.sizeOf195
 v53 := Tryz.zeroValue195
 t55 := Tryz.underlying197
 a55 := Tryz.isAgg197
 z55 := Tryz.sizeOf197
 v55 := Tryz.zeroValue197
 t66 := Tryz.underlying231
 a66 := Tryz.isAgg231
 z66 := Tryz.sizeOf231
 v66 := Tryz.zeroValue231
 t70 := Tryz.underlying235
 a70 := Tryz.isAgg235
 z70 := Tryz.sizeOf235
 v70 := Tryz.zeroValue235
 t76 := Tryz.underlying252
 a76 := Tryz.isAgg252
 z76 := Tryz.sizeOf252
 v76 := Tryz.zeroValue252
 t77 := Tryz.underlying253
 a77 := Tryz.isAgg253
 z77 := Tryz.sizeOf253
 v77 := Tryz.zeroValue253 }
end Go.Proofs
namespace Go.Proofs.YtlnoelbeaolikaaGreat
open Go.RowKit Go.Sort
attribute [local go_sem ↓] Go.wp_at_zero Go.wp_at_succ
instance : Inhabited DHyp := ⟨hy0⟩
set_option maxHeartbeats 2000000 in
theorem compareHyps_lays (a b : DHyp) (w : World) :
  Calls Tryz.prog 111 #[.agg #[.string a.label, .int .i64 a.cost], .agg #[.string b.label, .int .i64 b.cost]] w fun e w' => e = .returned (.int .i64 (ordH a b)) ∧ ∃ q os', w' = grow (w.drewN q) os' := by
 rw [← ordH_or]
 go_enter Tryz.func111, Tryz.ntmps111
 go_wp2
 obtain ⟨w1, hw1⟩ : ∃ w1, w1 = ((w.alloc (.cells #[.string a.label, .int .i64 a.cost] 76)).alloc (.cells #[.string b.label, .int .i64 b.cost] 76)) := ⟨_, rfl⟩
 have hg1 : Hid (w1 = grow w #[.cells #[.string a.label, .int .i64 a.cost] 76, .cells #[.string b.label, .int .i64 b.cost] 76]) := hid (by rw [hw1, alloc_eq_grow, alloc_eq_grow, grow_grow]; rfl)
 have c0 : w1.cell? ⟨w.heap.size, 0, none⟩ = some (.string a.label) := by rw [hw1]; simp
 have c1 : w1.cell? ⟨w.heap.size, 1, none⟩ = some (.int .i64 a.cost) := by rw [hw1]; simp
 have d0 : w1.cell? ⟨w.heap.size + 1, 0, none⟩ = some (.string b.label) := by rw [hw1]; simp
 have d1 : w1.cell? ⟨w.heap.size + 1, 1, none⟩ = some (.int .i64 b.cost) := by rw [hw1]; simp
 rw [← hw1]
 clear hw1
 generalize w.heap.size = n0 at c0 c1 d0 d1 ⊢
 go_region_held3 (fun w' => w'.cell? ⟨n0, 0, none⟩ = some (.string a.label) ∧ w'.cell? ⟨n0, 1, none⟩ = some (.int .i64 a.cost) ∧ w'.cell? ⟨n0 + 1, 0, none⟩ = some (.string b.label) ∧ w'.cell? ⟨n0 + 1, 1, none⟩ = some (.int .i64 b.cost)) (go_keep)
  (first | (go_at_call 85; refine (cmpInt_any _ _ _).mono ?_; rintro e w' ⟨rfl, rfl⟩) | (go_at_call 86; refine (cmpStr_any _ _ _).mono ?_; rintro e w' ⟨rfl, rfl⟩) | (go_at_call 84; refine (cmpOr_any _ [cmpI a.cost b.cost, cmpB a.label b.label] _ (Arr.drew (arr_new _ _ rfl rfl (maxLen_ge (Nat.le_of_ble_eq_true rfl))))).mono ?_; rintro e w' ⟨rfl, rfl⟩))
 go_wp2
 go_ret
 exact ⟨rfl, 1, _, by rw [hg1.out, alloc_eq_grow, grow_grow]; rfl⟩
theorem compareHyps_enters : ∀ args w, (callFunc 111 args).run Tryz.prog w = .ok (.enter 111 args) w := enters_of Tryz.func111 (by kernel_rfl) rfl
theorem sortHyp_any (g cap n B : Nat) (X : List DHyp) (w : World) (h : Own eHyp 76 B w (.slice (some ⟨g, 0, none⟩) n cap) X) (hn : n = X.length) (hs : X.length ≤ 1048576) :
  Calls Tryz.prog 110 #[.slice (some ⟨g, 0, none⟩) n cap, .func (.func 111) #[] #[]] w fun e w' => e = .returned (.tuple #[]) ∧ ∃ Y, Y.Perm X ∧ Up ltH Y ∧ Own eHyp 76 B w' (.slice (some ⟨g, 0, none⟩) n cap) Y ∧ Below B w w' := by
 have hlt := h.lt
 have hcon := AnyQ.slices_SortFunc Tryz.sortHyp 2 Tryz.isAgg76 Tryz.sizeOf76 eHyp.row eHyp.len eHyp.one ordH swoH 111 #[] g 0 cap X.toArray w compareHyps_enters
  (fun m os dk _ x y => compareHyps_lays x y _) (own_holds h hn) hlt.2 (by simp; omega)
 subst hn
 have hcon' : Calls Tryz.prog 110 #[.slice (some ⟨g, 0, none⟩) X.length cap, .func (.func 111) #[] #[]] w _ := hcon
 refine hcon'.mono ?_
 rintro e w' ⟨rfl, d', m, os, ⟨hsz, _, hperm⟩, hsort, rfl⟩
 refine ⟨rfl, d'.toList, ?_, ?_, ?_⟩
 ·have e1 : (d'.extract 0 X.toArray.size).toList = d'.toList := by rw [← hsz]; simp
  have e2 : (X.toArray.extract 0 X.toArray.size).toList = X := by simp
  rw [e1, e2] at hperm
  exact hperm
 ·refine List.pairwise_iff_getElem.2 fun i j hi hj hij => ?_
  have hi' : i < d'.size := by simpa using hi
  have hj' : j < d'.size := by simpa using hj
  have := hsort i j (Nat.zero_le _) hij (by rw [← hsz]; exact hj')
  rw [getElem!_pos d' i hi', getElem!_pos d' j hj'] at this
  simpa [ltH, ltOf] using this
 ·have := own_sorted (n := m) (os := os) (Y := d'.toList) h rfl (by have := hsz; simpa using this)
  rw [show d'.toList.toArray = d' by simp] at this
  refine ⟨this.1, ?_⟩
  have hb := (Below.refl B w).grown this.2 (Nat.le_trans hlt.1 (Nat.le_of_lt hlt.2)) (by intro k hk; cases hk; exact hlt.1)
  exact hb
set_option maxHeartbeats 1000000 in
theorem cloneHy_any (v : Value) (x : List DHyp) (w : World) (h : Arr eHyp w v x) (ok : x.length ≤ 1048576) :
  Calls Tryz.prog 109 #[v] w fun e w' => ∃ u, e = .returned u ∧ Own eHyp 76 w.heap.size w' u x ∧ Below w.heap.size w w' := by
 obtain ⟨b, off, ao, cap, rfl, hnc, hcm, hao, hc⟩ := h
 unfold maxLen at hcm
 have q22 : ∀ (w : World) (a : Option Addr) (n c n' c' : Nat), (binOp .eql 32 (.slice a n c) (.slice none n' c')).run Tryz.prog w = .ok (.bool a.isNone) w := fun w a n c n' c' => Lib.run_eql_slice_nil w _ _ a n c n' c' Tryz.underlying32
 cases ao with
 | none =>
  have hx : x = [] := by
   cases x with
   | nil => rfl
   | cons a t => have := (hao (by simp)).1; simp at this
  subst hx
  go_enter Tryz.func109, Tryz.ntmps109
  go_wp2
  go_ret
  exact ⟨_, rfl, Own.nil _ _ _, Below.refl _ _⟩
 | some ad =>
  go_enter Tryz.func109, Tryz.ntmps109
  go_wp2_with (at_builtin; refine wpList_appE rfl _ _ 32 rfl w.heap.size 76 _ 24 infHyp Tryz.underlying32 rfl _ _ rfl (Own.empty _ _ (Nat.le_refl _)) ad x.length cap x rfl rfl ?qc2 (by unfold maxLen; simp; omega) (by simp; omega) (by simp) ?_)
  case qc2 =>
   intro j u hu
   have hlen := (List.getElem?_eq_some_iff.1 hu).1
   rw [Enc.flat_len] at hlen
   have hpos : 0 < x.length := by
    cases x with
    | nil => simp at hlen
    | cons a t => simp
   obtain ⟨h1, h2⟩ := hao hpos
   cases h1
   rw [Addr.add_lit]
   exact flat_cells (hc.below (below_alloc w _) h2) j u hu
  intro u w1 ho hb1
  go_wp2
  go_ret
  exact ⟨_, rfl, by simpa using ho, (below_alloc _ _).trans hb1⟩
set_option maxHeartbeats 400000 in
theorem hypsClo_any (p : Nat) (a : DHyp) (l : ByteArray) (w : World) (c0 : w.cell? ⟨p, 0, none⟩ = some (.string l)) :
  Calls Tryz.prog 113 #[.agg #[.string a.label, .int .i64 a.cost], .pointer (some ⟨p, 0, none⟩)] w (Ret (.bool (eqS a.label l)) w) := by
 have hlt := cell_lt c0
 have c1 := cell_alloc c0 (.cells #[.string a.label, .int .i64 a.cost] 76)
 go_enter Tryz.func113, Tryz.ntmps113
 go_wp2
 go_ret
 exact ret_bool rfl (below_alloc _ _)
theorem hypsClo_enters : Enters 113 := fun args w => enters_of Tryz.func113 (by kernel_rfl) rfl args w
set_option maxHeartbeats 4000000 in
set_option maxRecDepth 100000 in
/-- what the loop leaves: the best of a sorted permutation, the first k -/
theorem hypsOf_any (v : Value) (X : List DHyp) (k : Nat) (w : World) (h : Arr eHyp w v X) (hk : k ≤ 8) (hX : X.length ≤ 1000) :
  Calls Tryz.prog 71 #[v, .int .i64 k] w fun e w' => ∃ Y, Y.Perm X ∧ Up ltH Y ∧ RetOwn eHyp 76 ((dedup Y).take k) w e w' := by
 have HC := hid (cloneHy_any v X w h (by omega))
 have NIL : ∀ w1 : World, Calls Tryz.prog 110 #[.slice none 0 0, .func (.func 111) #[] #[]] w1 fun e w' => e = .returned (.tuple #[]) ∧ w' = w1 := fun w1 => AnyF.slices_SortFunc_none { Tryz.sortHyp with } none 0 (.func (.func 111) #[] #[]) w1
 have HS : ∀ (w1 : World) (u : Value), Own eHyp 76 w.heap.size w1 u X → Below w.heap.size w w1 → Calls Tryz.prog 110 #[u, .func (.func 111) #[] #[]] w1 fun e w' => e = .returned (.tuple #[]) ∧ ∃ Y, Y.Perm X ∧ Up ltH Y ∧ Own eHyp 76 w.heap.size w' u Y ∧ Below w.heap.size w w' := by
  intro w1 u ho hb
  rcases ho.shape with ⟨rfl, h0⟩ | ⟨g, cap, rfl, hB, hl⟩
  ·refine (NIL w1).mono ?_
   rintro e w' ⟨rfl, rfl⟩
   exact ⟨rfl, [], by rw [h0], List.Pairwise.nil, Own.nil _ _ _, hb⟩
  ·refine (sortHyp_any g cap _ w.heap.size X w1 ho rfl (by omega)).mono ?_
   rintro e w' ⟨rfl, Y, h1, h2, h3, h4⟩
   exact ⟨rfl, Y, h1, h2, h3, hb.trans h4⟩
 have HSS := hid HS
 clear HS NIL h
 have hki : (k : Int) ≤ 8 := by omega
 go_enter Tryz.func71, Tryz.ntmps71
 go_wp2_with (first | (go_at_call 109; refine HC.out.mono ?_; rintro e w1 ⟨u, rfl, ho, hb1⟩; obtain ⟨sa, sc, hu⟩ := ho.isSlice; subst hu) | (go_at_call 110; refine (HSS.out _ _ ho hb1).mono ?_; rintro e w2 ⟨rfl, Y, hperm, hup, hoY, hb2⟩))
 have hYl : Y.length = X.length := hperm.length_eq
 have HYL := hid hYl
 obtain ⟨B, hB⟩ : ∃ B, B = w2.heap.size := ⟨_, rfl⟩
 have hwB : w.heap.size ≤ B := by rw [hB]; exact hb2.size
 obtain ⟨by_, offy, ay, capy, hey, hncy, hcmy, haoy, hcy⟩ := hoY.arr
 simp only [Value.slice.injEq] at hey
 obtain ⟨rfl, -, rfl⟩ := hey
 unfold maxLen at hcmy
 rw [← hB] at haoy
 have HB := hid hB
 have HP := hid hperm
 have HU := hid hup
 clear hB ho hb1 hoY hYl hperm hup
 go_loopw [6, 15] (fun l i wr => ∃ j : Nat, j ≤ X.length ∧ i = .int .i64 j ∧ Own eHyp 76 B wr l ((Y.take j).foldl (stepM k) []) ∧ Below B w2 wr) (fun _ i _ => X.length - (intOf i).toNat)
 case atStart => exact ⟨0, Nat.zero_le _, rfl, Own.nil _ _ _, Below.refl _ _⟩
 case round =>
  obtain ⟨j, hj, rfl, ho, hb⟩ := hrel
  have hBr : B ≤ wr.heap.size := by rw [HB.out]; exact hb.size
  by_cases hlt : j < X.length
  ·obtain ⟨hao', hbw⟩ := haoy (by rw [HYL.out]; omega)
   subst hao'
   obtain ⟨e, he⟩ : ∃ e, Y[j]? = some e := ⟨_, List.getElem?_eq_getElem (by rw [HYL.out]; exact hlt)⟩
   have hli : (j : Int) < (X.length : Int) := by omega
   obtain ⟨c0, c1⟩ := eHyp_cells (hcy.below hb hbw) he
   have HT : Hid ((Y.take (j + 1)).foldl (stepM k) [] = stepM k ((Y.take j).foldl (stepM k) []) e) := hid (by rw [List.take_add_one, he, List.foldl_append]; rfl)
   have hxl : ((Y.take j).foldl (stepM k) []).length ≤ 8 := by
    have := fold_take_m k (Y.take j) []
    rw [List.take_nil] at this
    rw [this, List.length_take]; omega
   obtain ⟨XS, hXS⟩ : ∃ XS, XS = (Y.take j).foldl (stepM k) [] := ⟨_, rfl⟩
   rw [← hXS] at ho hxl HT
   obtain ⟨sl, sc2, hls⟩ := ho.isSlice
   subst hls
   obtain ⟨la, co⟩ := e
   simp only at c0 c1
   clear he hXS
   obtain ⟨w3, hw3⟩ : ∃ w3, w3 = wr.alloc (.cells #[.string la, .int .i64 co] 76) := ⟨_, rfl⟩
   have hm3 : Below wr.heap.size wr w3 := by rw [hw3]; exact below_alloc _ _
   have hb3 : Below B w2 w3 := hb.trans (hm3.mono hBr)
   have ho3 := ho.below hm3
   have hB3 : B ≤ w3.heap.size := Nat.le_trans hBr hm3.size
   have e0 : w3.cell? ⟨wr.heap.size, 0, none⟩ = some (.string la) := by rw [hw3]; simp
   have e1 : w3.cell? ⟨wr.heap.size, 1, none⟩ = some (.int .i64 co) := by rw [hw3]; simp
   have HW3 := hid hw3
   clear hw3
   have HCF := hid (containsHy_any 113 (.pointer (some ⟨wr.heap.size, 0, none⟩)) (fun a => eqS a.label la) (.slice sl XS.length sc2) XS w3 ho3.arr (by omega) hypsClo_enters (fun a w' hb' => hypsClo_any _ a la w' (cell_later hb' e0)))
   by_cases hlk : XS.length < k
   ·have hlki : (XS.length : Int) < (k : Int) := by omega
    cases ha : XS.any (fun a => eqS a.label la)
    ·have HT' : Hid ((Y.take (j + 1)).foldl (stepM k) [] = XS ++ [⟨la, co⟩]) := hid (by rw [HT.out]; unfold stepM smH; simp only [ha]; simp [hlk])
     rw [ha] at HCF
     clear ha
     go_wp2_with (first | (go_at_call 112; rw [← HW3.out]; refine HCF.out.mono ?_; rintro e w4 ⟨rfl, hb4⟩; have f0 := cell_later hb4 e0; have f1 := cell_later hb4 e1; have ho4 := ho3.below hb4; have hb4' := hb3.trans (hb4.mono hB3); have hB4 := Nat.le_trans hB3 hb4.size) | (at_builtin; (refine wpList_appA rfl _ _ 32 rfl B 76 _ 24 infHyp Tryz.underlying32 rfl _ XS rfl (ho4.alloc _) _ [⟨la, co⟩] rfl (by exact arr_block1 (E := eHyp) (n := 1) [⟨la, co⟩] #[.string la, .int .i64 co] rfl rfl (maxLen_ge (Nat.le_of_ble_eq_true rfl)) (by simp)) (by unfold maxLen; simp <;> omega) (by simp <;> omega) (by simp <;> omega) ?_; intro v' wA hoA hbA htA)))
     go_roundw
     case rel => exact ⟨j + 1, by omega, by go_num, by rw [HT'.out]; exact hoA, (hb4'.alloc hB4 _).trans hbA⟩
     case measure => simp [intOf]; omega
    ·have HT' : Hid ((Y.take (j + 1)).foldl (stepM k) [] = XS) := hid (by rw [HT.out]; unfold stepM smH; simp only [ha]; simp)
     rw [ha] at HCF
     clear ha
     go_wp2_with (first | (go_at_call 112; rw [← HW3.out]; refine HCF.out.mono ?_; rintro e w4 ⟨rfl, hb4⟩) | (at_builtin; fail))
     go_roundw
     case rel => exact ⟨j + 1, by omega, by go_num, by rw [HT'.out]; exact ho3.below hb4, hb3.trans (hb4.mono hB3)⟩
     case measure => simp [intOf]; omega
   ·have hdk : decide ((XS.length : Int) < (k : Int)) = false := by simp; omega
    have HT' : Hid ((Y.take (j + 1)).foldl (stepM k) [] = XS) := hid (by rw [HT.out]; unfold stepM; simp [hlk])
    have hdn : decide (XS.length < k) = false := by simp; omega
    have hdi : ¬ ((XS.length : Int) < (k : Int)) := by omega
    go_wp2
    rw [← HW3.out]
    go_roundw
    case rel => exact ⟨j + 1, by omega, by go_num, by rw [HT'.out]; exact ho3, hb3⟩
    case measure => simp [intOf]; omega
  ·obtain rfl : j = X.length := by omega
   have hfin : Hid ((Y.take X.length).foldl (stepM k) [] = (dedup Y).take k) := hid (by
    rw [← HYL.out, List.take_length]
    have := fold_take_m k Y []
    rwa [List.take_nil] at this)
   go_wp2
   go_ret
   exact ⟨Y, HP.out, HU.out, _, rfl, by rw [← hfin.out]; exact ho.mono hwB, hb2.trans (hb.mono hwB)⟩
end Go.Proofs.YtlnoelbeaolikaaGreat
namespace Go.Proofs.YtlnoelbeaolikaaGreat
open Go.RowKit Go.Sort
attribute [local go_sem ↓] Go.wp_at_zero Go.wp_at_succ
end Go.Proofs.YtlnoelbeaolikaaGreat
namespace Go.Proofs.YtlnoelbeaolikaaGreat
open Go.RowKit
/-- the elements from k on, where a slicing of an owned slice points -/
theorem sub_addr {α : Type} {E : Enc α} {w : World} {g n cap k : Nat} {xs : List α} (hc : Cells E w g 0 xs) (hn : n = xs.length) (hnc : n ≤ cap) (hk : k ≤ n) :
  ∃ A : Addr, (if cap = k then some (⟨g, 0, none⟩ : Addr) else some ⟨g, k * E.sz, none⟩) = some A ∧ A.block = g ∧ ∀ w' : World, (∀ o, w'.cell? ⟨g, o, none⟩ = w.cell? ⟨g, o, none⟩) → ∀ j u, (E.flat (xs.drop k))[j]? = some u → w'.cell? (A.add j) = some u := by
 by_cases h : cap = k
 ·refine ⟨⟨g, 0, none⟩, by simp [h], rfl, fun w' hw j u hu => ?_⟩
  rw [List.drop_of_length_le (by omega)] at hu
  simp [Enc.flat_nil] at hu
 ·refine ⟨⟨g, k * E.sz, none⟩, by simp [h], rfl, fun w' hw j u hu => ?_⟩
  rw [Addr.add_lit, hw]
  have h1 := flat_cells hc (k * E.sz + j) u
  rw [Nat.zero_add] at h1
  refine h1 ?_
  have hsp : E.flat xs = E.flat (xs.take k) ++ E.flat (xs.drop k) := by rw [← E.flat_append, List.take_append_drop]
  have hl1 : (E.flat (xs.take k)).length = k * E.sz := by rw [E.flat_len, List.length_take, Nat.min_eq_left (by omega)]
  rw [hsp, List.getElem?_append_right (by omega), hl1]
  rw [← hu]; congr 1; omega
theorem wpList_appN {α : Type} {E : Enc α} {P : Program} {w : World} {ops : Array Oper} {rest : List Oper} {o : Oper} {a : Act} {Q : Exit → Act → World → Prop} (hgd : o.guard = none) (s x : Operand) (t : TypeId)
  (ho : o.op = .call { callee := .builtin .append, args := #[s, x], argTypes := #[t, t] })
  (B : Nat) (e : TypeId) (z : Value) (bytes : Nat) (hi : (P.info? e).map (fun i => (i.zero, i.size, i.bytes)) = some (some z, E.sz, bytes)) (ht : P.underlying t = some (.slice e)) (hzs : z.cells.size = E.sz)
  (g n cap : Nat) (xs : List α) (hs : a.eval s = .slice (some ⟨g, 0, none⟩) n cap) (hown : Own E e B w (.slice (some ⟨g, 0, none⟩) n cap) xs)
  (ad : Addr) (m c : Nat) (ys : List α) (hx : a.eval x = .slice (some ad) m c) (hm : m = ys.length) (hc : ∀ j u, (E.flat ys)[j]? = some u → w.cell? (ad.add j) = some u)
  (h63 : xs.length + ys.length ≤ maxLen) (hbytes : (xs.length + ys.length) * bytes ≤ 140737488355328) (hB : B ≤ w.heap.size)
  (h : ∀ g' cap' w', Own E e B w' (.slice (some ⟨g', 0, none⟩) (xs ++ ys).length cap') (xs ++ ys) → Below B w w' → (xs ++ ys).length ≤ cap' → wpList P ops Q rest (a.put o.dst (.slice (some ⟨g', 0, none⟩) (xs ++ ys).length cap')) w') : wpList P ops Q (o :: rest) a w := by
 obtain ⟨i, hi1, hz, hsz, hby⟩ := info_parts hi
 subst hm
 refine wpList_append_own w hgd s x t ho B e i z E.sz bytes ht hi1 hz hsz hby hzs E.pos (.slice (some ⟨g, 0, none⟩) n cap) xs.length (E.flat xs) hs hown ad ys.length c (E.flat ys) hx (E.flat_len ys) hc (E.flat_one ys) h63 hbytes hB fun v' w' h2 h3 h4 => ?_
 have h5 : Own E e B w' v' (xs ++ ys) := by
  unfold Own
  rw [List.length_append, E.flat_append]
  exact h2
 rcases h5.shape with ⟨h6, _⟩ | ⟨g', cap', rfl, _, _⟩
 ·have := (h4.1 h6).1
  cases this
 ·refine h g' cap' w' h5 (below_grown h3 (fun k hk => (World.ownsRow.lt hown k hk).1) hB) ?_
  obtain ⟨_, _, _, _, hv, hl, _⟩ := h5.arr
  simp only [Value.slice.injEq] at hv
  obtain ⟨_, _, rfl⟩ := hv
  exact hl
theorem wpList_appM {α : Type} {E : Enc α} {P : Program} {w : World} {ops : Array Oper} {rest : List Oper} {o : Oper} {a : Act} {Q : Exit → Act → World → Prop} (hgd : o.guard = none) (s x : Operand) (t : TypeId)
  (ho : o.op = .call { callee := .builtin .append, args := #[s, x], argTypes := #[t, t] })
  (B : Nat) (e : TypeId) (z : Value) (bytes : Nat) (hi : (P.info? e).map (fun i => (i.zero, i.size, i.bytes)) = some (some z, E.sz, bytes)) (ht : P.underlying t = some (.slice e)) (hzs : z.cells.size = E.sz)
  (g n cap : Nat) (xs : List α) (hs : a.eval s = .slice (some ⟨g, 0, none⟩) n cap) (hown : Own E e B w (.slice (some ⟨g, 0, none⟩) n cap) xs)
  (ad : Addr) (m c : Nat) (ys : List α) (hx : a.eval x = .slice (some ad) m c) (hm : m = ys.length) (hc : ∀ j u, (E.flat ys)[j]? = some u → w.cell? (ad.add j) = some u)
  (N : Nat) (hN : N = xs.length + ys.length) (h63 : N ≤ maxLen) (hbytes : N * bytes ≤ 140737488355328) (hB : B ≤ w.heap.size)
  (h : ∀ g' cap' w', Own E e B w' (.slice (some ⟨g', 0, none⟩) N cap') (xs ++ ys) → Below B w w' → N ≤ cap' → wpList P ops Q rest (a.put o.dst (.slice (some ⟨g', 0, none⟩) N cap')) w') : wpList P ops Q (o :: rest) a w := by
 subst hN
 refine wpList_appN hgd s x t ho B e z bytes hi ht hzs g n cap xs hs hown ad m c ys hx hm hc h63 hbytes hB ?_
 simp only [List.length_append]
 exact h
theorem cell_eqN {w w2 : World} {n : Nat} (h : w2 = w.drewN n) {a : Addr} {v : Value} (hc : w.cell? a = some v) : w2.cell? a = some v := by subst h; exact hc
end Go.Proofs.YtlnoelbeaolikaaGreat
namespace Go.Proofs.YtlnoelbeaolikaaGreat
open Go.RowKit Go.Sort
attribute [local go_sem ↓] Go.wp_at_zero Go.wp_at_succ
theorem cells_oneH (e : DHyp) (w : World) : ∀ j u, (eHyp.flat [e])[j]? = some u → (w.alloc (.cells #[.string e.label, .int .i64 e.cost] 76)).cell? ((⟨w.heap.size, 0, none⟩ : Addr).add j) = some u := by
 intro j u hu
 match j, hu with
 | 0, hu => cases hu; simp [Addr.add]
 | 1, hu => cases hu; simp [Addr.add]
 | j + 2, hu => simp [Enc.flat, eHyp] at hu
theorem own_cellsH {α : Type} {E : Enc α} {e : TypeId} {B g n cap : Nat} {w : World} {X : List α} (h : Own E e B w (.slice (some ⟨g, 0, none⟩) n cap) X) (hn : n = X.length) : Cells E w g 0 X ∧ X.length ≤ cap := by
 obtain ⟨b, off, ao, c, hv, hl, _, hao, hc⟩ := h.arr
 simp only [Value.slice.injEq] at hv
 obtain ⟨h1, _, rfl⟩ := hv
 refine ⟨?_, hl⟩
 cases X with
 | nil => intro k x hx; simp at hx
 | cons a t =>
  have := (hao (by simp)).1
  rw [← h1] at this
  cases this
  exact hc
theorem insH_len (L : List DHyp) (h : DHyp) : (insH L h).length ≤ L.length + 1 := by
 unfold insH
 split
 ·omega
 ·rw [insE_len]
  have := List.length_filter_le (fun g => !smH g h) L
  omega
set_option maxHeartbeats 8000000 in
set_option maxRecDepth 100000 in
theorem l13Insert_any (v : Value) (L : List DHyp) (h : DHyp) (w : World) (hL : Arr eHyp w v L) (hl : L.length ≤ 100) :
  Calls Tryz.prog 58 #[v, .agg #[.string h.label, .int .i64 h.cost]] w fun e w' => ∃ u, e = .returned u ∧ Arr eHyp w' u (insH L h) ∧ Below w.heap.size w w' := by
 have hL0 := hL
 obtain ⟨b, off, ao, capL, rfl, hnc, hcm, hao, hc⟩ := hL
 unfold maxLen at hcm
 obtain ⟨la, co⟩ := h
 obtain ⟨p0, hp0⟩ : ∃ p, p = w.heap.size := ⟨_, rfl⟩
 obtain ⟨W, hW⟩ : ∃ W, W = w.alloc (.cells #[.string la, .int .i64 co] 76) := ⟨_, rfl⟩
 obtain ⟨B, hB⟩ : ∃ B, B = W.heap.size := ⟨_, rfl⟩
 have hbW : Below w.heap.size w W := by rw [hW]; exact below_alloc _ _
 have e0 : W.cell? ⟨p0, 0, none⟩ = some (.string la) := by rw [hW, hp0]; simp
 have e1 : W.cell? ⟨p0, 1, none⟩ = some (.int .i64 co) := by rw [hW, hp0]; simp
 have hpB : p0 < B := by rw [hB]; exact cell_lt e0
 have hwB : w.heap.size ≤ B := by rw [hB]; exact hbW.size
 have hbb : 0 < L.length → b < B := fun hl => Nat.lt_of_lt_of_le (hao hl).2 hwB
 have hcW : 0 < L.length → Cells eHyp W b off L := fun hl => hc.below hbW (hao hl).2
 have HP := hid hp0
 have HW := hid hW
 have HB := hid hB
 have HB1 := hid (show B = w.heap.size + 1 by rw [hB, hW]; simp)
 clear hp0 hW hB hc
 go_enter Tryz.func58, Tryz.ntmps58
 go_wp2_with fail
 rw [← HW.out, ← HB1.out, ← HP.out]
 go_loopw [5, 6] (fun l i wr => ∃ j g cap : Nat, j ≤ L.length ∧ i = .int .i64 j ∧ l = .slice (some ⟨g, 0, none⟩) ((L.take j).filter fun x => !smH x ⟨la, co⟩).length cap ∧ Own eHyp 76 B wr (.slice (some ⟨g, 0, none⟩) ((L.take j).filter fun x => !smH x ⟨la, co⟩).length cap) ((L.take j).filter fun x => !smH x ⟨la, co⟩) ∧ (L.take j).any (fun x => smH x ⟨la, co⟩ && decide (x.cost ≤ co)) = false ∧ Below B W wr) (fun _ i _ => L.length - (intOf i).toNat)
 case atStart => exact ⟨0, B, 0, Nat.zero_le _, rfl, by simp, by simpa using (by rw [HB.out]; exact Own.empty (E := eHyp) 76 W (Nat.le_refl _) : Own eHyp 76 B (W.alloc (.cells #[] 76)) (.slice (some ⟨B, 0, none⟩) 0 0) []), by simp, by rw [HB.out]; exact below_alloc _ _⟩
 case round =>
  obtain ⟨j, g, cap, hj, rfl, rfl, ho, hno, hb⟩ := hrel
  have hXl : ((L.take j).filter fun x => !smH x ⟨la, co⟩).length ≤ 100 := Nat.le_trans (List.length_filter_le _ _) (by rw [List.length_take]; omega)
  obtain ⟨XS, hXS⟩ : ∃ XS, XS = (L.take j).filter fun x => !smH x ⟨la, co⟩ := ⟨_, rfl⟩
  rw [← hXS] at ho hXl ⊢
  have HXS := hid hXS
  have HNO := hid hno
  clear hXS hno
  have t0 := below_cell hb hpB e0
  have t1 := below_cell hb hpB e1
  have hBr : B ≤ wr.heap.size := by rw [HB.out]; exact hb.size
  have hbw : Below w.heap.size w wr := hbW.trans (hb.mono hwB)
  by_cases hlt : j < L.length
  ·obtain ⟨hao', hbwl⟩ := hao (by omega)
   subst hao'
   obtain ⟨e, he⟩ : ∃ e, L[j]? = some e := ⟨_, List.getElem?_eq_getElem hlt⟩
   have hli : (j : Int) < (L.length : Int) := by omega
   obtain ⟨c0, c1⟩ := eHyp_cells ((hcW (by omega)).below hb (hbb (by omega))) he
   obtain ⟨lb, cb⟩ := e
   simp only at c0 c1
   have HMEM := hid (List.mem_of_getElem? he)
   have HT := hid (show L.take (j + 1) = L.take j ++ [⟨lb, cb⟩] by rw [List.take_add_one, he]; rfl)
   clear he
   cases hs : eqS lb la
   ·have hq : (lb.toList == la.toList) = false := hs
    have hsm : smH ⟨lb, cb⟩ ⟨la, co⟩ = false := hs
    have HF : Hid ((L.take (j + 1)).filter (fun x => !smH x ⟨la, co⟩) = XS ++ [⟨lb, cb⟩]) := hid (by rw [HT.out, List.filter_append, ← HXS.out]; simp [hsm])
    have HN2 : Hid ((L.take (j + 1)).any (fun x => smH x ⟨la, co⟩ && decide (x.cost ≤ co)) = false) := hid (by rw [HT.out, List.any_append, HNO.out]; simp [hsm])
    clear hs hsm
    go_wp2
    go_big_quiet (fail)
    obtain ⟨w2, hw2⟩ : ∃ w2, w2 = wr.drewN nq := ⟨_, rfl⟩
    replace c0 := cell_eqN hw2 c0
    replace c1 := cell_eqN hw2 c1
    have ho2 : Own eHyp 76 B w2 (.slice (some ⟨g, 0, none⟩) XS.length cap) XS := by rw [hw2]; exact ho
    have hb2 : Below B W w2 := by rw [hw2]; exact below_drewN hb _
    have hB2 : B ≤ w2.heap.size := by rw [HB.out]; exact hb2.size
    rw [← hw2]
    clear hw2 ho t0 t1
    go_wp2_with (at_builtin; refine wpList_appM rfl _ _ 32 rfl B 76 _ 24 infHyp Tryz.underlying32 rfl g _ cap XS rfl (ho2.alloc _) ⟨w2.heap.size, 0, none⟩ 1 1 [⟨lb, cb⟩] rfl rfl (cells_oneH ⟨lb, cb⟩ w2) (XS.length + 1) (by simp) (by unfold maxLen; omega) (by omega) (by simp; omega) ?_)
    intro g2 cap2 w3 ho3 hb3 hc3
    go_wp2
    go_roundw
    case rel => exact ⟨j + 1, g2, cap2, by omega, by go_num, by rw [HF.out]; simp, by rw [HF.out]; simpa using ho3, HN2.out, (hb2.alloc hB2 _).trans hb3⟩
    case measure => simp [intOf]; omega
   ·have hq : (lb.toList == la.toList) = true := hs
    have hsm : smH ⟨lb, cb⟩ ⟨la, co⟩ = true := hs
    by_cases hle : cb ≤ co
    ·have HR : Hid (insH L ⟨la, co⟩ = L) := hid (by
      unfold insH
      rw [if_pos (List.any_eq_true.2 ⟨_, HMEM.out, by simp [hsm, hle]⟩)])
     clear hs hsm
     go_wp2
     go_big_quiet (fail)
     obtain ⟨w2, hw2⟩ : ∃ w2, w2 = wr.drewN nq := ⟨_, rfl⟩
     replace c1 := cell_eqN hw2 c1
     replace t1 := cell_eqN hw2 t1
     have hb2 : Below w.heap.size w w2 := by rw [hw2]; exact below_drewN hbw _
     rw [← hw2]
     clear hw2
     go_wp2
     go_big_quiet (fail)
     go_wp2
     go_ret
     exact ⟨_, rfl, by rw [HR.out]; exact hL0.below (below_drewN hb2 _), below_drewN hb2 _⟩
    ·have hdl : decide (cb ≤ co) = false := by simp; omega
     have HF : Hid ((L.take (j + 1)).filter (fun x => !smH x ⟨la, co⟩) = XS) := hid (by rw [HT.out, List.filter_append, ← HXS.out]; simp [hsm])
     have HN2 : Hid ((L.take (j + 1)).any (fun x => smH x ⟨la, co⟩ && decide (x.cost ≤ co)) = false) := hid (by rw [HT.out, List.any_append, HNO.out]; simp [hdl])
     clear hs hsm hle
     go_wp2
     go_big_quiet (fail)
     obtain ⟨w2, hw2⟩ : ∃ w2, w2 = wr.drewN nq := ⟨_, rfl⟩
     replace c1 := cell_eqN hw2 c1
     replace t1 := cell_eqN hw2 t1
     have ho2 : Own eHyp 76 B w2 (.slice (some ⟨g, 0, none⟩) XS.length cap) XS := by rw [hw2]; exact ho
     have hb2 : Below B W w2 := by rw [hw2]; exact below_drewN hb _
     rw [← hw2]
     clear hw2
     go_wp2
     go_big_quiet (fail)
     go_wp2
     go_roundw
     case rel => exact ⟨j + 1, g, cap, by omega, by go_num, by rw [HF.out], by rw [HF.out]; exact ho2, HN2.out, below_drewN hb2 _⟩
     case measure => simp [intOf]; omega
  ·obtain rfl : j = L.length := by omega
   rw [List.take_length] at HXS HNO
   have HEND : Hid (insH L ⟨la, co⟩ = insE ltH XS ⟨la, co⟩) := hid (by unfold insH; rw [if_neg (by rw [HNO.out]; exact Bool.false_ne_true), ← HXS.out])
   obtain ⟨hcc, hncx⟩ := own_cellsH ho rfl
   obtain ⟨w5, rfl⟩ : ∃ w5, w5 = wr := ⟨wr, rfl⟩
   have hgl := ho.lt.2
   have hB5 : B ≤ w5.heap.size := hBr
   have hbw5 : Below w.heap.size w w5 := hbw
   have f0 := t0
   have f1 := t1
   clear t0 t1 ho
   go_wp2
   go_loopw [7] (fun i wz => ∃ k : Nat, k ≤ XS.length ∧ i = .int .i64 k ∧ Below w5.heap.size w5 wz ∧ wz.cell? ⟨p0, 0, none⟩ = some (.string la) ∧ wz.cell? ⟨p0, 1, none⟩ = some (.int .i64 co) ∧ posE ltH ⟨la, co⟩ XS XS.length = posE ltH ⟨la, co⟩ XS k) (fun i _ => (intOf i).toNat)
   case atStart => exact ⟨XS.length, Nat.le_refl _, rfl, Below.refl _ _, f0, f1, rfl⟩
   case round =>
    clear f0 f1
    obtain ⟨k, hk, rfl, hbz, f0, f1, hpos⟩ := hrel
    have HPP := hid hpos
    clear hpos
    have x_f0 := ext_cell f0
    have x_f1 := ext_cell f1
    by_cases hk0 : 0 < k
    ·have hki : (0 : Int) < (k : Int) := by omega
     have hk1 : (0 : Int) ≤ (k : Int) - 1 := by omega
     have hk2 : (k : Int) - 1 < (XS.length : Int) := by omega
     have et : ((k : Int) - 1).toNat = k - 1 := by omega
     obtain ⟨a, ha⟩ : ∃ a, XS[k - 1]? = some a := ⟨_, List.getElem?_eq_getElem (by omega)⟩
     obtain ⟨c0, c1⟩ := eHyp_cells (hcc.below hbz hgl) ha
     have c0' : wr.cell? ⟨g, (k - 1) * 2, none⟩ = some (.string a.label) := by simpa using c0
     have c1' : wr.cell? ⟨g, (k - 1) * 2 + 1, none⟩ = some (.int .i64 a.cost) := by simpa using c1
     have x_c0 := ext_cell c0'
     have x_c1 := ext_cell c1'
     have HAA := hid ha
     clear ha c0 c1
     have HST : Hid (posE ltH ⟨la, co⟩ XS k = if ltH ⟨la, co⟩ a = true then posE ltH ⟨la, co⟩ XS (k - 1) else k) := hid (by
      obtain ⟨k', rfl⟩ : ∃ k', k = k' + 1 := ⟨k - 1, by omega⟩
      have := HAA.out
      rw [Nat.add_sub_cancel] at this ⊢
      rw [posE, this])
     cases hl : ltH ⟨la, co⟩ a
     ·rw [hl] at HST
      have HCM := fun w' => before_is (a := ⟨la, co⟩) (b := a) (c := false) hl w'
      have HPOS : Hid (posE ltH ⟨la, co⟩ XS XS.length = k) := hid (by rw [HPP.out, HST.out]; rfl)
      clear hl
      go_wp2
      refine wp_region_ext (by kernel_rfl) (by kernel_rfl) ?_
      repeat (go_big_quiet_step ((go_at_call 97; exact ret_ext (HCM _))))
      refine wpQuiet_nil ?_
      intro _ hw'
      obtain ⟨nq, hw''⟩ := hw'
      subst hw''
      have HB := hbz.trans ((ext_below _ nq).mono hbz.size)
      have F0 := ext_cell f0 nq
      have F1 := ext_cell f1 nq
      have hfz := cell_lt F0
      generalize ext wr nq = WN at HB F0 F1 hfz ⊢
      obtain ⟨C, hC⟩ : ∃ B, B = WN.heap.size := ⟨_, rfl⟩
      have hgB : g < C := by rw [hC]; exact Nat.lt_of_lt_of_le hgl HB.size
      have hccN : Cells eHyp WN g 0 XS := hcc.below HB hgl
      have hH5B : w5.heap.size ≤ C := by rw [hC]; exact HB.size
      have hHB : B ≤ C := Nat.le_trans hB5 hH5B
      have hfB : p0 < C := by rw [hC]; exact hfz
      obtain ⟨L1, hL1⟩ : ∃ L1, L1 = XS.take k := ⟨_, rfl⟩
      have hl1 : k = L1.length := by rw [hL1, List.length_take]; omega
      have hin : Hid (∀ w', Below C WN w' → ∀ j u, (eHyp.flat L1)[j]? = some u → w'.cell? ((⟨g, 0, none⟩ : Addr).add j) = some u) := by
       intro w' hb' j u hu
       rw [Addr.add_lit]
       refine flat_cells (hccN.below hb' hgB) j u ?_
       have hsp : eHyp.flat XS = eHyp.flat L1 ++ eHyp.flat (XS.drop k) := by rw [hL1, ← eHyp.flat_append, List.take_append_drop]
       rw [hsp, List.getElem?_append_left (List.getElem?_eq_some_iff.1 hu).1]; exact hu
      obtain ⟨A, hA, _, hAc⟩ := sub_addr hccN rfl hncx hk
      have hA' : (if cap = k then some (⟨g, 0, none⟩ : Addr) else some ⟨g, k * 2, none⟩) = some A := hA
      have HAC := hid hAc
      have HINS : Hid (insE ltH XS ⟨la, co⟩ = L1 ++ ⟨la, co⟩ :: XS.drop k) := hid (by unfold insE; rw [HPOS.out, hL1])
      clear hA hAc hbz f0 f1
      have HL1 := hid hL1
      have Hl1 := hid hl1
      clear hL1 hl1
      have hl2 : XS.length - k = (XS.drop k).length := by rw [List.length_drop]
      have Hl2 := hid hl2
      clear hl2
      have hkc : k ≤ cap := by omega
      have hbB : Below C WN (WN.alloc (.cells #[] 76)) := by rw [hC]; exact below_alloc _ _
      have HBQ := hid hC
      clear hC
      go_wp2_with (at_builtin; refine wpList_appM rfl _ _ 32 rfl C 76 _ 24 infHyp Tryz.underlying32 rfl WN.heap.size 0 0 [] rfl (Own.empty _ _ (by rw [HBQ.out]; exact Nat.le_refl _)) ⟨g, 0, none⟩ k cap L1 rfl Hl1.out (hin.out _ hbB) k (by have := Hl1.out; simp; omega) (by unfold maxLen; omega) (by omega) (by rw [HBQ.out]; simp) ?_)
      intro g1 cap1 w1 ho1 hb1 hc1
      have HB1 : Below C WN w1 := hbB.trans hb1
      have z1 : C ≤ w1.heap.size := by rw [HBQ.out]; exact HB1.size
      have G0 := (HB1.cell (p := ⟨p0, 0, none⟩) hfB).trans F0
      have G1 := (HB1.cell (p := ⟨p0, 1, none⟩) hfB).trans F1
      go_wp2_with (at_builtin; refine wpList_appM rfl _ _ 32 rfl C 76 _ 24 infHyp Tryz.underlying32 rfl g1 _ cap1 L1 rfl (ho1.alloc _) ⟨w1.heap.size, 0, none⟩ 1 1 [⟨la, co⟩] rfl rfl (cells_oneH ⟨la, co⟩ w1) (k + 1) (by have := Hl1.out; simp; omega) (by unfold maxLen; omega) (by omega) (by simp; omega) ?_)
      intro g2 cap2 w2 ho2 hb2 hc2
      have HB2 : Below C WN w2 := (HB1.alloc z1 _).trans hb2
      have z2 : C ≤ w2.heap.size := by rw [HBQ.out]; exact HB2.size
      go_wp2_with (at_builtin; refine wpList_appM rfl _ _ 32 rfl C 76 _ 24 infHyp Tryz.underlying32 rfl g2 _ cap2 (L1 ++ [⟨la, co⟩]) rfl ho2 A (XS.length - k) (cap - k) (XS.drop k) rfl Hl2.out (HAC.out w2 (fun o => HB2.cell (p := ⟨g, o, none⟩) hgB)) (XS.length + 1) (by have := Hl1.out; have := Hl2.out; simp only [List.length_append, List.length_cons, List.length_nil]; omega) (by unfold maxLen; omega) (by omega) (by omega) ?_)
      intro g3 cap3 w3 ho3 hb3 hc3
      have HLEN : Hid ((L1 ++ (⟨la, co⟩ : DHyp) :: XS.drop k).length = XS.length + 1) := hid (by have := Hl1.out; have := Hl2.out; simp only [List.length_append, List.length_cons]; omega)
      have HBE : Below w.heap.size w w3 := hbw5.trans ((HB.mono (Nat.le_trans hwB hB5)).trans ((HB2.trans hb3).mono (Nat.le_trans hwB hHB)))
      go_wp2
      go_ret
      refine ⟨_, rfl, ?_, HBE⟩
      rw [HEND.out, HINS.out]
      have ho4 : Own eHyp 76 C w3 (.slice (some ⟨g3, 0, none⟩) (XS.length + 1) cap3) (L1 ++ ⟨la, co⟩ :: XS.drop k) := by simpa using ho3
      exact ho4.arr
     ·rw [hl] at HST
      have HCM := fun w' => before_is (a := ⟨la, co⟩) (b := a) (c := true) hl w'
      clear hl
      go_wp2
      refine wp_region_ext (by kernel_rfl) (by kernel_rfl) ?_
      repeat (go_big_quiet_step ((go_at_call 97; exact ret_ext (HCM _))))
      refine wpQuiet_nil ?_
      intro _ hw'
      obtain ⟨nq, hw''⟩ := hw'
      subst hw''
      go_wp2
      go_roundw
      case rel => exact ⟨k - 1, by omega, by go_num, hbz.trans ((ext_below _ _).mono hbz.size), x_f0 nq, x_f1 nq, by rw [HPP.out, HST.out]; rfl⟩
      case measure => simp [intOf]; omega
    ·have hki : (k : Int) ≤ 0 := by omega
     have HPOS : Hid (posE ltH ⟨la, co⟩ XS XS.length = k) := hid (by rw [HPP.out, show k = 0 by omega]; rfl)
     have hdk : decide ((0 : Int) < (k : Int)) = false := by simp; omega
     go_wp2
     refine wp_region_ext (by kernel_rfl) (by kernel_rfl) ?_
     repeat (go_big_quiet_step (fail))
     refine wpQuiet_nil ?_
     intro _ hw'
     obtain ⟨nq, hw''⟩ := hw'
     subst hw''
     have HB := hbz.trans ((ext_below _ nq).mono hbz.size)
     have F0 := ext_cell f0 nq
     have F1 := ext_cell f1 nq
     have hfz := cell_lt F0
     generalize ext wr nq = WN at HB F0 F1 hfz ⊢
     obtain ⟨C, hC⟩ : ∃ B, B = WN.heap.size := ⟨_, rfl⟩
     have hgB : g < C := by rw [hC]; exact Nat.lt_of_lt_of_le hgl HB.size
     have hccN : Cells eHyp WN g 0 XS := hcc.below HB hgl
     have hH5B : w5.heap.size ≤ C := by rw [hC]; exact HB.size
     have hHB : B ≤ C := Nat.le_trans hB5 hH5B
     have hfB : p0 < C := by rw [hC]; exact hfz
     obtain ⟨L1, hL1⟩ : ∃ L1, L1 = XS.take k := ⟨_, rfl⟩
     have hl1 : k = L1.length := by rw [hL1, List.length_take]; omega
     have hin : Hid (∀ w', Below C WN w' → ∀ j u, (eHyp.flat L1)[j]? = some u → w'.cell? ((⟨g, 0, none⟩ : Addr).add j) = some u) := by
      intro w' hb' j u hu
      rw [Addr.add_lit]
      refine flat_cells (hccN.below hb' hgB) j u ?_
      have hsp : eHyp.flat XS = eHyp.flat L1 ++ eHyp.flat (XS.drop k) := by rw [hL1, ← eHyp.flat_append, List.take_append_drop]
      rw [hsp, List.getElem?_append_left (List.getElem?_eq_some_iff.1 hu).1]; exact hu
     obtain ⟨A, hA, _, hAc⟩ := sub_addr hccN rfl hncx hk
     have hA' : (if cap = k then some (⟨g, 0, none⟩ : Addr) else some ⟨g, k * 2, none⟩) = some A := hA
     have HAC := hid hAc
     have HINS : Hid (insE ltH XS ⟨la, co⟩ = L1 ++ ⟨la, co⟩ :: XS.drop k) := hid (by unfold insE; rw [HPOS.out, hL1])
     clear hA hAc hbz f0 f1
     have HL1 := hid hL1
     have Hl1 := hid hl1
     clear hL1 hl1
     have hl2 : XS.length - k = (XS.drop k).length := by rw [List.length_drop]
     have Hl2 := hid hl2
     clear hl2
     have hkc : k ≤ cap := by omega
     have hbB : Below C WN (WN.alloc (.cells #[] 76)) := by rw [hC]; exact below_alloc _ _
     have HBQ := hid hC
     clear hC
     go_wp2_with (at_builtin; refine wpList_appM rfl _ _ 32 rfl C 76 _ 24 infHyp Tryz.underlying32 rfl WN.heap.size 0 0 [] rfl (Own.empty _ _ (by rw [HBQ.out]; exact Nat.le_refl _)) ⟨g, 0, none⟩ k cap L1 rfl Hl1.out (hin.out _ hbB) k (by have := Hl1.out; simp; omega) (by unfold maxLen; omega) (by omega) (by rw [HBQ.out]; simp) ?_)
     intro g1 cap1 w1 ho1 hb1 hc1
     have HB1 : Below C WN w1 := hbB.trans hb1
     have z1 : C ≤ w1.heap.size := by rw [HBQ.out]; exact HB1.size
     have G0 := (HB1.cell (p := ⟨p0, 0, none⟩) hfB).trans F0
     have G1 := (HB1.cell (p := ⟨p0, 1, none⟩) hfB).trans F1
     go_wp2_with (at_builtin; refine wpList_appM rfl _ _ 32 rfl C 76 _ 24 infHyp Tryz.underlying32 rfl g1 _ cap1 L1 rfl (ho1.alloc _) ⟨w1.heap.size, 0, none⟩ 1 1 [⟨la, co⟩] rfl rfl (cells_oneH ⟨la, co⟩ w1) (k + 1) (by have := Hl1.out; simp; omega) (by unfold maxLen; omega) (by omega) (by simp; omega) ?_)
     intro g2 cap2 w2 ho2 hb2 hc2
     have HB2 : Below C WN w2 := (HB1.alloc z1 _).trans hb2
     have z2 : C ≤ w2.heap.size := by rw [HBQ.out]; exact HB2.size
     go_wp2_with (at_builtin; refine wpList_appM rfl _ _ 32 rfl C 76 _ 24 infHyp Tryz.underlying32 rfl g2 _ cap2 (L1 ++ [⟨la, co⟩]) rfl ho2 A (XS.length - k) (cap - k) (XS.drop k) rfl Hl2.out (HAC.out w2 (fun o => HB2.cell (p := ⟨g, o, none⟩) hgB)) (XS.length + 1) (by have := Hl1.out; have := Hl2.out; simp only [List.length_append, List.length_cons, List.length_nil]; omega) (by unfold maxLen; omega) (by omega) (by omega) ?_)
     intro g3 cap3 w3 ho3 hb3 hc3
     have HLEN : Hid ((L1 ++ (⟨la, co⟩ : DHyp) :: XS.drop k).length = XS.length + 1) := hid (by have := Hl1.out; have := Hl2.out; simp only [List.length_append, List.length_cons]; omega)
     have HBE : Below w.heap.size w w3 := hbw5.trans ((HB.mono (Nat.le_trans hwB hB5)).trans ((HB2.trans hb3).mono (Nat.le_trans hwB hHB)))
     go_wp2
     go_ret
     refine ⟨_, rfl, ?_, HBE⟩
     rw [HEND.out, HINS.out]
     have ho4 : Own eHyp 76 C w3 (.slice (some ⟨g3, 0, none⟩) (XS.length + 1) cap3) (L1 ++ ⟨la, co⟩ :: XS.drop k) := by simpa using ho3
     exact ho4.arr
end Go.Proofs.YtlnoelbeaolikaaGreat
namespace Go.Proofs.YtlnoelbeaolikaaGreat
open Go.RowKit Go.Sort
attribute [local go_sem ↓] Go.wp_at_zero Go.wp_at_succ
set_option maxHeartbeats 1000000 in
set_option maxRecDepth 100000 in
theorem l13First_any (v : Value) (L : List DHyp) (k : Nat) (w : World) (hL : Arr eHyp w v L) (hl : L.length ≤ 100) (hk : k ≤ 8) :
  Calls Tryz.prog 59 #[v, .int .i64 k] w (RetOwn eHyp 76 (L.take k) w) := by
 have hL0 := hL
 obtain ⟨b, off, ao, cap, rfl, hnc, hcm, hao, hc⟩ := hL
 unfold maxLen at hcm
 have hb0 : Below w.heap.size w (w.alloc (.cells #[] 76)) := below_alloc _ _
 cases ao with
 | none =>
  have hx : L = [] := by
   cases L with
   | nil => rfl
   | cons a t => have := (hao (by simp)).1; simp at this
  subst hx
  have hmin : min (k : Int) 0 = 0 := by omega
  simp only [List.length_nil]
  have hsrc : Arr eHyp (w.alloc (.cells #[] 76)) (.slice none 0 cap) [] := ⟨0, 0, none, cap, rfl, Nat.zero_le _, hL0.isSlice.elim fun _ _ => by unfold maxLen; omega, fun h => absurd h (by simp), fun j a ha => by simp at ha⟩
  go_enter Tryz.func59, Tryz.ntmps59
  go_wp2_with (first | (go_at_call 98; refine (l00Min_any _ _ _).mono ?_; rintro e w' ⟨rfl, rfl⟩; rw [hmin]) | (at_builtin; (refine wpList_appA rfl _ _ 32 rfl w.heap.size 76 _ 24 infHyp Tryz.underlying32 rfl _ [] rfl (Own.empty _ _ (Nat.le_refl _)) _ [] rfl hsrc (by unfold maxLen; simp) (by simp) (by simp) ?_; intro v' wA hoA hbA htA)))
  go_ret
  exact ⟨_, rfl, by simpa using hoA, hb0.trans hbA⟩
 | some ad =>
  have had : ∃ b' off', ad = ⟨b', off', none⟩ ∨ L = [] := by
   cases L with
   | nil => exact ⟨0, 0, .inr rfl⟩
   | cons a t => have := (hao (by simp)).1; cases this; exact ⟨b, off, .inl rfl⟩
  obtain ⟨q, hq⟩ : ∃ q : Nat, q = min k L.length := ⟨_, rfl⟩
  have hmin : min (k : Int) (L.length : Int) = (q : Int) := by omega
  have hqX : L.take k = L.take q := by
   rcases Nat.le_total k L.length with h | h
   ·rw [hq, Nat.min_eq_left h]
   ·rw [hq, Nat.min_eq_right h, List.take_of_length_le h, List.take_length]
  have hql : q ≤ L.length := by omega
  have hqc : (q : Int) ≤ (cap : Int) := by omega
  have hqt : (L.take q).length = q := by rw [List.length_take]; omega
  have hsrc : Arr eHyp (w.alloc (.cells #[] 76)) (.slice (some ad) q cap) (L.take q) := by
   refine (show Arr eHyp w (.slice (some ad) q cap) (L.take q) from ?_).alloc _
   refine ⟨b, off, some ad, cap, by rw [hqt], by omega, by unfold maxLen; omega, fun h => ?_, fun j a ha => ?_⟩
   ·exact hao (by rw [hqt] at h; omega)
   ·rw [List.getElem?_take] at ha
    split at ha
    ·exact hc j a ha
    ·cases ha
  have HQX := hid hqX
  have hq8 : q ≤ 100 := by omega
  clear hq hqX hc hao had hL0
  go_enter Tryz.func59, Tryz.ntmps59
  go_wp2_with (first | (go_at_call 98; refine (l00Min_any _ _ _).mono ?_; rintro e w' ⟨rfl, rfl⟩; rw [hmin]) | (at_builtin; (refine wpList_appA rfl _ _ 32 rfl w.heap.size 76 _ 24 infHyp Tryz.underlying32 rfl _ [] rfl (Own.empty _ _ (Nat.le_refl _)) _ (L.take q) rfl hsrc (by unfold maxLen; rw [hqt]; simp; omega) (by rw [hqt]; simp; omega) (by simp) ?_; intro v' wA hoA hbA htA)))
  go_ret
  exact ⟨_, rfl, by rw [HQX.out]; simpa using hoA, hb0.trans hbA⟩
end Go.Proofs.YtlnoelbeaolikaaGreat
