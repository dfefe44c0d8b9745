/- The place at a part of a stroke's length: both calls. -/
import Derived.Test.YtlnoelbeaolikaaGreatK15
import Derived.Test.YtlnoelbeaolikaaGreatK18
import Derived.Test.YtlnoelbeaolikaaGreatK07
import Derived.StillTailTactics
import Derived.Deep.CutRange
import Derived.Test.YtlnoelbeaolikaaGreatK02
namespace Go.Proofs.YtlnoelbeaolikaaGreat
open Go.RowKit
noncomputable def interP (x : XStroke) (g q j : Nat) : DSpot :=
 match x[j]?, x[j + 1]? with
 | some a, some b => ⟨a.x + nearG ((b.x - a.x) * ((g - arcN x j * q : Nat) : Int)) (((arcN x (j + 1) - arcN x j) * q : Nat) : Int), a.y + nearG ((b.y - a.y) * ((g - arcN x j * q : Nat) : Int)) (((arcN x (j + 1) - arcN x j) * q : Nat) : Int)⟩
 | _, _ => ⟨0, 0⟩
noncomputable def spotFr (x : XStroke) (g q : Nat) : Nat → Nat → DSpot
 | 0, _ => match x[0]? with | some p => ptSp p | none => ⟨0, 0⟩
 | m + 1, j => if arcN x (j + 1) = arcN x j ∨ arcN x (j + 1) * q < g then spotFr x g q m (j + 1) else interP x g q j
noncomputable def spotF (x : XStroke) (pa q : Nat) : DSpot := spotFr x (arcN x (x.length - 1) * pa) q (x.length - 1) 0
theorem interP_eq {x : XStroke} {g q j : Nat} {a b : DPoint} (ha : x[j]? = some a) (hb : x[j + 1]? = some b) {F E : Nat} (hF : F = g - arcN x j * q) (hE : E = (arcN x (j + 1) - arcN x j) * q) :
  interP x g q j = ⟨a.x + nearG ((b.x - a.x) * (F : Int)) (E : Int), a.y + nearG ((b.y - a.y) * (F : Int)) (E : Int)⟩ := by
 unfold interP
 rw [ha, hb, hF, hE]
/-- where the place is found: what is left and the whole -/
theorem hit_bd {x : XStroke} {g q j : Nat} (hq : 1 ≤ q) (hi : arcN x j * q ≤ g) (h : ¬ (arcN x (j + 1) = arcN x j ∨ arcN x (j + 1) * q < g)) :
  g - arcN x j * q ≤ (arcN x (j + 1) - arcN x j) * q ∧ 1 ≤ (arcN x (j + 1) - arcN x j) * q := by
 have hm : arcN x j ≤ arcN x (j + 1) := arcN_mono (Nat.le_succ j)
 have h1 : arcN x j < arcN x (j + 1) := by omega
 have h2 : g ≤ arcN x (j + 1) * q := by omega
 rw [Nat.sub_mul]
 have h3 := Nat.mul_le_mul (show 1 ≤ arcN x (j + 1) - arcN x j by omega) hq
 rw [Nat.sub_mul] at h3
 omega
theorem part_ok {a b : DPoint} (ha : okPt a) (hb : okPt b) {F E : Nat} (h1 : F ≤ E) (h2 : 1 ≤ E) : okSp ⟨a.x + nearG ((b.x - a.x) * (F : Int)) (E : Int), a.y + nearG ((b.y - a.y) * (F : Int)) (E : Int)⟩ := by
 obtain ⟨a1, a2, a3, a4⟩ := ha
 obtain ⟨b1, b2, b3, b4⟩ := hb
 have e1 := nearG_part (a := a.x) (b := b.x) (far := (F : Int)) (all := (E : Int)) (by omega) (by omega) (by omega)
 have e2 := nearG_part (a := a.y) (b := b.y) (far := (F : Int)) (all := (E : Int)) (by omega) (by omega) (by omega)
 unfold okSp
 simp only
 omega
theorem spotFr_ok {x : XStroke} (hv : validSt x = true) {g q : Nat} (hq : 1 ≤ q) : ∀ m j, j + m + 1 = x.length → arcN x j * q ≤ g → okSp (spotFr x g q m j)
 | 0, j, hl, _ => by
  obtain ⟨p, hp⟩ : ∃ p, x[0]? = some p := ⟨_, List.getElem?_eq_getElem (by omega)⟩
  show okSp (match x[0]? with | some p => ptSp p | none => ⟨0, 0⟩)
  rw [hp]
  exact validSt_okPt hv hp
 | m + 1, j, hl, hi => by
  show okSp (if _ then _ else _)
  split
  ·rename_i h
   refine spotFr_ok hv hq m (j + 1) (by omega) ?_
   rcases h with h | h
   ·rw [h]; exact hi
   ·omega
  ·rename_i h
   obtain ⟨a, ha⟩ : ∃ p, x[j]? = some p := ⟨_, List.getElem?_eq_getElem (by omega)⟩
   obtain ⟨b, hb⟩ : ∃ p, x[j + 1]? = some p := ⟨_, List.getElem?_eq_getElem (by omega)⟩
   have h1 := hit_bd hq hi h
   rw [interP_eq ha hb rfl rfl]
   exact part_ok (validSt_okPt hv ha) (validSt_okPt hv hb) h1.1 h1.2
theorem spotF_ok {x : XStroke} (hv : validSt x = true) {pa q : Nat} (hq : 1 ≤ q) : okSp (spotF x pa q) := by
 have := validSt_len hv
 exact spotFr_ok hv hq _ _ (by omega) (by simp [arcN])
theorem boxes2 (w : World) (A B : Array Value) (T : TypeId) : Box ((w.alloc (.cells A T)).alloc (.cells B T)).drew w.heap.size A T ∧ Box ((w.alloc (.cells A T)).alloc (.cells B T)).drew (w.heap.size + 1) B T := by
 refine ⟨(Box.new w A T).alloc _, ?_⟩
 have := Box.new (w.alloc (.cells A T)) B T
 simp at this
 exact this
theorem mulF_bd {a b F : Int} (h1 : 0 ≤ a) (h2 : a ≤ 4095) (h3 : 0 ≤ b) (h4 : b ≤ 4095) (f0 : 0 ≤ F) (f1 : F ≤ 2200000) : -9100000000 ≤ (b - a) * F ∧ (b - a) * F ≤ 9100000000 := by
 have e1 := Int.mul_le_mul_of_nonneg_right (show b - a ≤ 4095 by omega) f0
 have e2 := Int.mul_le_mul_of_nonneg_right (show -4095 ≤ b - a by omega) f0
 omega
set_option maxRecDepth 100000 in
set_option maxHeartbeats 4000000 in
theorem l06At_any (p0 o : Nat) (v u : Value) (x : XStroke) (pa q : Nat) (w : World) (hp : w.cell? ⟨p0, o, none⟩ = some v) (h : Arr ePoint w v x) (hu : Arr eI w u (arcL x x.length)) (hv : validSt x = true) (hq : 1 ≤ q) (hq2 : q ≤ 23) (hpa : pa ≤ q) :
  Calls Tryz.prog 184 #[.pointer (some ⟨p0, o, none⟩), u, .int .i64 pa, .int .i64 q] w (Ret (.agg #[.int .i64 (spotF x pa q).x, .int .i64 (spotF x pa q).y]) w) := by
 obtain ⟨hl0, hl1⟩ := validSt_len hv
 have h0 := h
 obtain ⟨b, off, ao, cap, rfl, hnc, hcm, hao, hc⟩ := h
 obtain ⟨hao', hbw⟩ := hao (by omega)
 subst hao'
 unfold maxLen at hcm
 obtain ⟨gb, goff, ga, gc, rfl, hgn, hgm, hga, hgc⟩ := hu
 obtain ⟨hga', hgw⟩ := hga (by rw [arcL_len]; omega)
 subst hga'
 unfold maxLen at hgm
 rw [arcL_len] at hgn ⊢
 have HV := hid hv
 clear hv hao hga
 have harc : ∀ j, j < x.length → (arcN x j : Int) ≤ 5559540 := fun j hj => by have := arcN_bd HV.out j; omega
 obtain ⟨G, hG⟩ : ∃ G, G = arcN x (x.length - 1) * pa := ⟨_, rfl⟩
 have hG2 : G ≤ 127869420 := by
  have h1 := arcN_bd HV.out (x.length - 1)
  have h2 := Nat.mul_le_mul (show arcN x (x.length - 1) ≤ 5559540 by omega) (show pa ≤ 23 by omega)
  omega
 have HS := hid (show spotF x pa q = spotFr x G q (x.length - 1 - 0) 0 by unfold spotF; rw [hG]; rfl)
 have hGi : (arcN x (x.length - 1) : Int) * (pa : Int) = (G : Int) := by rw [hG]; push_cast; rfl
 have hal := harc (x.length - 1) (by omega)
 have hgl := arcL_get x (show x.length - 1 < x.length by omega)
 have HG := hid hG
 clear hG
 have HR := hid (show okSp (spotF x pa q) from spotF_ok HV.out hq)
 have ek : ((x.length : Int) - 1).toNat = x.length - 1 := by omega
 have el1 : (0 : Int) ≤ (x.length : Int) - 1 := by omega
 have el2 : (x.length : Int) - 1 < (x.length : Int) := by omega
 obtain ⟨W, hW⟩ : ∃ u, u = (w.alloc (.cells #[.int .i64 0, .int .i64 0] 207)) := ⟨_, rfl⟩
 have hbW : Below w.heap.size w W := by rw [hW]; exact belowA1 _ _
 have q1 : Box W (w.heap.size) #[.int .i64 0, .int .i64 0] 207 := by
  have hq := Box.new w #[.int .i64 0, .int .i64 0] 207
  rw [hW]
  exact hq
 obtain ⟨p1, hp1⟩ : ∃ p, p = w.heap.size := ⟨_, rfl⟩
 rw [← hp1] at q1
 have hge1 : w.heap.size ≤ p1 := by omega
 have hlW : w.heap.size ≤ W.heap.size := hbW.size
 have hlp1 : p1 < W.heap.size := q1.lt
 have HP1 := hid hp1
 have HW := hid hW
 clear hW hp1
 have m0 := cell_later hbW hp
 have b3 := q1
 have hge := hge1
 obtain ⟨pz, hpz⟩ : ∃ p, p = p1 := ⟨_, rfl⟩
 have hcW : Cells ePoint W b off x := hc.below hbW hbw
 have hbwW : b < W.heap.size := by omega
 have hgW := hgc.below hbW hgw
 have hgwW : gb < W.heap.size := by omega
 have hAW := h0.below hbW
 have gl := eI_cell hgW hgl
 clear h0 hc hgc hgl
 go_enter Tryz.func184, Tryz.ntmps184
 go_upto_region 1 with fail
 rw [← HP1.out, ← HW.out]
 rw [← hpz] at b3 hge ⊢
 clear hpz
 go_upto_region 3 with fail
 clear gl hal hGi ek el1 el2
 go_loopw [10] (fun i wr => ∃ j : Nat, j + 1 ≤ x.length ∧ i = .int .i64 (j + 1) ∧ Below W.heap.size W wr ∧ arcN x j * q ≤ G ∧ Hid (spotF x pa q = spotFr x G q (x.length - 1 - j) j)) (fun i _ => x.length - (intOf i).toNat)
 case atStart => exact ⟨0, by omega, rfl, Below.refl _ _, by simp [arcN], HS⟩
 case round =>
  obtain ⟨j, hj, rfl, hb, hinv, HJ⟩ := hrel
  have m1 := cell_later hb m0
  have z1 := b3.later hb
  have hwr := hb.size
  by_cases hlt : j + 1 < x.length
  ·have hli : (j : Int) + 1 < (x.length : Int) := by omega
   have hji : (j : Int) < (x.length : Int) := by omega
   obtain ⟨K1, hK1⟩ : ∃ K, K = arcN x j := ⟨_, rfl⟩
   obtain ⟨K2, hK2⟩ : ∃ K, K = arcN x (j + 1) := ⟨_, rfl⟩
   have k1 := eI_cell (hgW.below hb hgwW) (arcL_get x (show j < x.length by omega))
   have k2 := eI_cell (hgW.below hb hgwW) (arcL_get x hlt)
   have hm1 := harc j (by omega)
   have hm2 := harc (j + 1) hlt
   have hmo : K1 ≤ K2 := by rw [hK1, hK2]; exact arcN_mono (Nat.le_succ j)
   rw [← hK1] at k1 hm1 hinv
   rw [← hK2] at k2 hm2
   obtain ⟨M1, hM1⟩ : ∃ M, M = K1 * q := ⟨_, rfl⟩
   obtain ⟨M2, hM2⟩ : ∃ M, M = K2 * q := ⟨_, rfl⟩
   have hM1i : (K1 : Int) * (q : Int) = (M1 : Int) := by rw [hM1]; push_cast; rfl
   have hM2i : (K2 : Int) * (q : Int) = (M2 : Int) := by rw [hM2]; push_cast; rfl
   have hM1b : M1 ≤ 127869420 := by
    have := Nat.mul_le_mul (show K1 ≤ 5559540 by omega) (show q ≤ 23 by omega)
    omega
   have hM2b : M2 ≤ 127869420 := by
    have := Nat.mul_le_mul (show K2 ≤ 5559540 by omega) (show q ≤ 23 by omega)
    omega
   rw [← hM1] at hinv
   have wr1 : IntKind.i64.wrap ((j : Int) + 1 - 1) = (j : Int) := by rw [Int.add_sub_cancel]; exact IntWalk.i64_in _ (by omega)
   have wr2 : IntKind.i64.wrap (M2 : Int) = (M2 : Int) := IntWalk.i64_in _ (by omega)
   have wr3 : IntKind.i64.wrap (j : Int) = (j : Int) := IntWalk.i64_in _ (by omega)
   obtain ⟨D, hD⟩ : ∃ D : Nat, D = K2 - K1 := ⟨_, rfl⟩
   have hDi : (K2 : Int) - (K1 : Int) = (D : Int) := by omega
   have wr4 : IntKind.i64.wrap (D : Int) = (D : Int) := IntWalk.i64_in _ (by omega)
   have nextS : (K2 = K1 ∨ M2 < G) → Hid (spotF x pa q = spotFr x G q (x.length - 1 - (j + 1)) (j + 1)) ∧ arcN x (j + 1) * q ≤ G := fun hc => by
    constructor
    ·refine hid ?_
     rw [HJ.out, show x.length - 1 - j = (x.length - 1 - (j + 1)) + 1 by omega]
     show (if _ then _ else _) = _
     rw [if_pos (by rw [← hK1, ← hK2, ← hM2]; exact hc)]
    ·rw [← hK2]
     rcases hc with hc | hc
     ·rw [hc, ← hM1]; exact hinv
     ·rw [← hM2]; omega
   have NS := hid nextS
   clear nextS
   by_cases hc1 : K2 = K1
   ·have HN := NS.out (.inl hc1)
    have hg : ((K2 : Int) == (K1 : Int)) = true := by rw [hc1]; simp
    clear NS HJ hK1 hK2 hM1 hM2 hD hc1
    go_upto_region 3 with fail
    have x_m1 := ext_cell m1
    have x_k1 := ext_cell k1
    have x_k2 := ext_cell k2
    refine wp_region_ext (by kernel_rfl) (by kernel_rfl) ?_
    repeat (go_big_quiet_step (fail))
    refine wpQuiet_nil ?_
    intro _ hw'
    obtain ⟨nq, hw''⟩ := hw'
    subst hw''
    replace m1 := x_m1 nq
    replace k1 := x_k1 nq
    replace k2 := x_k2 nq
    clear x_m1 x_k1 x_k2
    replace hb := hb.trans ((ext_below _ nq).mono hb.size)
    go_wp2_with fail
    go_roundw
    case rel => exact ⟨j + 1, by omega, by go_num, hb, HN.2, HN.1⟩
    case measure => simp [intOf]; omega
   by_cases hc2 : M2 < G
   ·have HN := NS.out (.inr hc2)
    have hg : ((K2 : Int) == (K1 : Int)) = false := by rw [beq_eq_false_iff_ne]; omega
    have hg2 : (M2 : Int) < (G : Int) := by omega
    clear NS HJ hK1 hK2 hM1 hM2 hD hc1
    go_upto_region 3 with fail
    have x_m1 := ext_cell m1
    have x_k1 := ext_cell k1
    have x_k2 := ext_cell k2
    refine wp_region_ext (by kernel_rfl) (by kernel_rfl) ?_
    repeat (go_big_quiet_step (fail))
    refine wpQuiet_nil ?_
    intro _ hw'
    obtain ⟨nq, hw''⟩ := hw'
    subst hw''
    replace m1 := x_m1 nq
    replace k1 := x_k1 nq
    replace k2 := x_k2 nq
    clear x_m1 x_k1 x_k2
    replace hb := hb.trans ((ext_below _ nq).mono hb.size)
    go_wp2_with fail
    go_roundw
    case rel => exact ⟨j + 1, by omega, by go_num, hb, HN.2, HN.1⟩
    case measure => simp [intOf]; omega
   ·have hg : ((K2 : Int) == (K1 : Int)) = false := by rw [beq_eq_false_iff_ne]; omega
    have hg2 : ¬ ((M2 : Int) < (G : Int)) := by omega
    obtain ⟨a, ha⟩ : ∃ a, x[j]? = some a := ⟨_, List.getElem?_eq_getElem (by omega)⟩
    obtain ⟨pt, hcc⟩ : ∃ c, x[j + 1]? = some c := ⟨_, List.getElem?_eq_getElem hlt⟩
    have hbd := hit_bd (x := x) (g := G) (j := j) hq (by rw [← hK1, ← hM1]; exact hinv) (by rw [← hK1, ← hK2, ← hM2]; omega)
    rw [← hK1, ← hK2, ← hM1] at hbd
    obtain ⟨E, hE⟩ : ∃ E, E = (K2 - K1) * q := ⟨_, rfl⟩
    obtain ⟨F, hF⟩ : ∃ F, F = G - M1 := ⟨_, rfl⟩
    have HE := hid (show spotF x pa q = ⟨a.x + nearG ((pt.x - a.x) * (F : Int)) (E : Int), a.y + nearG ((pt.y - a.y) * (F : Int)) (E : Int)⟩ by
     rw [HJ.out, show x.length - 1 - j = (x.length - 1 - (j + 1)) + 1 by omega]
     show (if _ then _ else _) = _
     rw [if_neg (by rw [← hK1, ← hK2, ← hM2]; omega)]
     exact interP_eq ha hcc (by rw [hF, hM1, hK1]) (by rw [hE, hK1, hK2]))
    rw [← hF, ← hE] at hbd
    obtain ⟨hFE, hE1⟩ := hbd
    have hE2 : E ≤ 2131157 := by
     have h1 : K2 - K1 ≤ 92659 := by
      have := lenP_bd (validSt_okPt HV.out ha) (validSt_okPt HV.out hcc)
      have := arcN_succ ha hcc
      omega
     have := Nat.mul_le_mul h1 hq2
     omega
    have hFi : (G : Int) - (M1 : Int) = (F : Int) := by omega
    have hEi : (D : Int) * (q : Int) = (E : Int) := by rw [hE, hD]; push_cast; rfl
    have wr5 : IntKind.i64.wrap (F : Int) = (F : Int) := IntWalk.i64_in _ (by omega)
    have wr6 : IntKind.i64.wrap (E : Int) = (E : Int) := IntWalk.i64_in _ (by omega)
    have wr7 : IntKind.i64.wrap (M1 : Int) = (M1 : Int) := IntWalk.i64_in _ (by omega)
    have okR := HR.out
    rw [HE.out] at okR
    obtain ⟨r1, r2, r3, r4⟩ := okR
    simp only at r1 r2 r3 r4
    obtain ⟨a1, a2, a3, a4⟩ := validSt_okPt HV.out ha
    obtain ⟨t1, t2, t3, t4⟩ := validSt_okPt HV.out hcc
    obtain ⟨f1, f2⟩ := mulF_bd a1 a2 t1 t2 (show (0 : Int) ≤ (F : Int) by omega) (by omega)
    obtain ⟨f3, f4⟩ := mulF_bd a3 a4 t3 t4 (show (0 : Int) ≤ (F : Int) by omega) (by omega)
    have hcr := hcW.below hb hbwW
    obtain ⟨d0, d1, d2⟩ := ePoint_cells hcr ha
    obtain ⟨e0, e1, e2⟩ := ePoint_cells hcr hcc
    have CN := fun c w' (h0 : -9100000000 ≤ c) (h1 : c ≤ 9100000000) => l05NearG_any c (E : Int) w' (by omega) (by omega) (by omega) (by omega)
    have wx1 : IntKind.i64.wrap (pt.x - a.x) = pt.x - a.x := IntWalk.i64_in _ (by omega)
    have wx2 : IntKind.i64.wrap ((pt.x - a.x) * (F : Int)) = (pt.x - a.x) * (F : Int) := IntWalk.i64_in _ (by omega)
    have wx3 : IntKind.i64.wrap (a.x + nearG ((pt.x - a.x) * (F : Int)) (E : Int)) = a.x + nearG ((pt.x - a.x) * (F : Int)) (E : Int) := IntWalk.i64_in _ (by omega)
    have wy1 : IntKind.i64.wrap (pt.y - a.y) = pt.y - a.y := IntWalk.i64_in _ (by omega)
    have wy2 : IntKind.i64.wrap ((pt.y - a.y) * (F : Int)) = (pt.y - a.y) * (F : Int) := IntWalk.i64_in _ (by omega)
    have wy3 : IntKind.i64.wrap (a.y + nearG ((pt.y - a.y) * (F : Int)) (E : Int)) = a.y + nearG ((pt.y - a.y) * (F : Int)) (E : Int) := IntWalk.i64_in _ (by omega)
    clear NS HJ hM1 hM2 hE hF hD hcr ha hcc
    clear hK1 hK2
    go_upto_region 3 with fail
    have x_m1 := ext_cell m1
    have x_k1 := ext_cell k1
    have x_k2 := ext_cell k2
    have x_d0 := ext_cell d0
    have x_d1 := ext_cell d1
    have x_d2 := ext_cell d2
    have x_e0 := ext_cell e0
    have x_e1 := ext_cell e1
    have x_e2 := ext_cell e2
    refine wp_region_ext (by kernel_rfl) (by kernel_rfl) ?_
    repeat (go_big_quiet_step (fail))
    refine wpQuiet_nil ?_
    intro _ hw'
    obtain ⟨nq, hw''⟩ := hw'
    subst hw''
    replace m1 := x_m1 nq
    replace k1 := x_k1 nq
    replace k2 := x_k2 nq
    replace d0 := x_d0 nq
    replace d1 := x_d1 nq
    replace d2 := x_d2 nq
    replace e0 := x_e0 nq
    replace e1 := x_e1 nq
    replace e2 := x_e2 nq
    clear x_m1 x_k1 x_k2 x_d0 x_d1 x_d2 x_e0 x_e1 x_e2
    replace hb := hb.trans ((ext_below _ nq).mono hb.size)
    have z2 := b3.later hb
    have hne : (((j : Int) + 1) == (x.length : Int)) = false := by rw [beq_eq_false_iff_ne]; omega
    have hne2 : ¬ (j + 1 = x.length) := by omega
    have m1a := cell_alloc m1 (.cells #[.int .i64 a.x, .int .i64 a.y, .int .i64 a.t] 114)
    have e0a := cell_alloc e0 (.cells #[.int .i64 a.x, .int .i64 a.y, .int .i64 a.t] 114)
    have e1a := cell_alloc e1 (.cells #[.int .i64 a.x, .int .i64 a.y, .int .i64 a.t] 114)
    have e2a := cell_alloc e2 (.cells #[.int .i64 a.x, .int .i64 a.y, .int .i64 a.t] 114)
    go_upto_region 9 with fail
    obtain ⟨w5, hw5⟩ : ∃ u, u = ((ext wr nq).alloc (.cells #[.int .i64 a.x, .int .i64 a.y, .int .i64 a.t] 114)).alloc (.cells #[.int .i64 pt.x, .int .i64 pt.y, .int .i64 pt.t] 114) := ⟨_, rfl⟩
    obtain ⟨pA, hpA⟩ : ∃ p, p = (ext wr nq).heap.size := ⟨_, rfl⟩
    obtain ⟨pB, hpB⟩ : ∃ p, p = (ext wr nq).heap.size + 1 := ⟨_, rfl⟩
    rw [← hpB, ← hpA, ← hw5]
    have hb5 : Below (ext wr nq).heap.size (ext wr nq) w5 := by rw [hw5]; exact belowA2 _ _ _
    have qA : Box w5 pA #[.int .i64 a.x, .int .i64 a.y, .int .i64 a.t] 114 := by rw [hw5, hpA]; exact (Box.new _ _ _).alloc _
    have qB : Box w5 pB #[.int .i64 pt.x, .int .i64 pt.y, .int .i64 pt.t] 114 := by
     have := Box.new ((ext wr nq).alloc (.cells #[.int .i64 a.x, .int .i64 a.y, .int .i64 a.t] 114)) #[.int .i64 pt.x, .int .i64 pt.y, .int .i64 pt.t] 114
     simp at this
     rw [hw5, hpB]
     exact this
    have hb25 := hb.trans (hb5.mono hb.size)
    have k1 := cell_later hb5 k1
    have k2 := cell_later hb5 k2
    have z5 := z2.later hb5
    have x0 := qA.cell (j := 0) rfl
    have x1 := qA.cell (j := 1) rfl
    have y0 := qB.cell (j := 0) rfl
    have y1 := qB.cell (j := 1) rfl
    have hs5 := hb25.size
    clear hw5 hpA hpB m1 d0 d1 d2 e0 e1 e2 m1a e0a e1a e2a
    go_upto_region 10 with fail
    have hbz := Below.refl w5.heap.size w5
    have x_k1 := ext_cell k1
    have x_k2 := ext_cell k2
    have x_x0 := ext_cell x0
    have x_x1 := ext_cell x1
    have x_y0 := ext_cell y0
    have x_y1 := ext_cell y1
    refine wp_region_ext (by kernel_rfl) (by kernel_rfl) ?_
    repeat (go_big_quiet_step (fail))
    refine wpQuiet_nil ?_
    intro _ hw'
    obtain ⟨nr, hw''⟩ := hw'
    subst hw''
    replace k1 := x_k1 nr
    replace k2 := x_k2 nr
    replace x0 := x_x0 nr
    replace x1 := x_x1 nr
    replace y0 := x_y0 nr
    replace y1 := x_y1 nr
    clear x_k1 x_k2 x_x0 x_x1 x_y0 x_y1
    replace hbz := hbz.trans ((ext_below _ nr).mono hbz.size)
    have z6 := z5.later hbz
    have cz0 := z6.cell (j := 0) rfl
    have cz1 := z6.cell (j := 1) rfl
    have czf := z6.free
    go_upto_region 11 with fail
    refine wp_region_still_tail 25 (by kernel_rfl) (by kernel_rfl) ?_
    simp only [List.take_succ_cons, List.take_zero, List.drop_succ_cons, List.drop_zero]
    repeat (first | still_step | still_call ((CN _ _ (by omega) (by omega)).mono fun _ _ h => ⟨h.1, h.2.symm⟩))
    refine wpStill_nil ?_
    change wpList _ _ _ _ _ (World.drew _)
    go_wp2
    refine bodyPost_ret (v := .agg #[.int .i64 (a.x + nearG ((pt.x - a.x) * (F : Int)) (E : Int)), .int .i64 (a.y + nearG ((pt.y - a.y) * (F : Int)) (E : Int))]) (by simp [results, Tryz.results184, go_sem, cz0, cz1]) rfl (ret_ret (by rw [HE.out]) ?_)
    exact ((((hbW.trans ((hb25.trans (hbz.mono hs5)).mono hlW)).setCell hge _).setCell hge _).drew)
  ·have hli : ¬ ((j : Int) + 1 < (x.length : Int)) := by omega
   obtain ⟨pt, hpt⟩ : ∃ p, x[0]? = some p := ⟨_, List.getElem?_eq_getElem (by omega)⟩
   have HE := hid (show spotF x pa q = ptSp pt by
    rw [HJ.out, show x.length - 1 - j = 0 by omega]
    show (match x[0]? with | some p => ptSp p | none => ⟨0, 0⟩) = _
    rw [hpt])
   have hcr := hcW.below hb hbwW
   obtain ⟨d0, d1, d2⟩ := ePoint_cells hcr hpt
   simp only [Nat.zero_mul, Nat.add_zero] at d0 d1 d2
   have hx0 : (0 : Int) < (x.length : Int) := by omega
   have heq : (((j : Int) + 1) == (x.length : Int)) = true := by rw [beq_iff_eq]; omega
   have heq2 : j + 1 = x.length := by omega
   have HEQ := hid heq2
   clear hpt HJ heq2
   go_upto_region 3 with fail
   have x_m1 := ext_cell m1
   have x_d0 := ext_cell d0
   have x_d1 := ext_cell d1
   have x_d2 := ext_cell d2
   refine wp_region_ext (by kernel_rfl) (by kernel_rfl) ?_
   repeat (go_big_quiet_step (fail))
   refine wpQuiet_nil ?_
   intro _ hw'
   obtain ⟨nq, hw''⟩ := hw'
   subst hw''
   replace m1 := x_m1 nq
   replace d0 := x_d0 nq
   replace d1 := x_d1 nq
   replace d2 := x_d2 nq
   clear x_m1 x_d0 x_d1 x_d2
   replace hb := hb.trans ((ext_below _ nq).mono hb.size)
   have z2 := b3.later hb
   have hs2 := hb.size
   go_wp2_with fail
   refine (l06Spot_any pt _).mono ?_
   rintro e w7 ⟨rfl, hb7⟩
   have z7 := z2.later hb7
   have hb27 := hb.trans (hb7.mono hs2)
   have cz0 := z7.cell (j := 0) rfl
   have cz1 := z7.cell (j := 1) rfl
   have czf := z7.free
   go_wp2_with fail
   refine bodyPost_ret (v := .agg #[.int .i64 pt.x, .int .i64 pt.y]) (by simp [results, Tryz.results184, go_sem, cz0, cz1]) rfl (ret_ret (by rw [HE.out]; rfl) ?_)
   exact (((hbW.trans (hb27.mono hlW)).setCell hge _).setCell hge _)
end Go.Proofs.YtlnoelbeaolikaaGreat
namespace Go.Proofs.YtlnoelbeaolikaaGreat
open Go.RowKit
set_option maxRecDepth 100000 in
set_option maxHeartbeats 4000000 in
theorem spotAt_any (v u : Value) (x : XStroke) (pa q : Nat) (w : World) (h : Arr ePoint w v x) (hu : Arr eI w u (arcL x x.length)) (hv : validSt x = true) (hq : 1 ≤ q) (hq2 : q ≤ 23) (hpa : pa ≤ q) :
  Calls Tryz.prog 193 #[.agg #[v], u, .int .i64 pa, .int .i64 q] w (Ret (.agg #[.int .i64 (spotF x pa q).x, .int .i64 (spotF x pa q).y]) w) := by
 obtain ⟨hl0, hl1⟩ := validSt_len hv
 have h0 := h
 obtain ⟨b, off, ao, cap, rfl, hnc, hcm, hao, hc⟩ := h
 obtain ⟨hao', hbw⟩ := hao (by omega)
 subst hao'
 unfold maxLen at hcm
 obtain ⟨gb, goff, ga, gc, rfl, hgn, hgm, hga, hgc⟩ := hu
 obtain ⟨hga', hgw⟩ := hga (by rw [arcL_len]; omega)
 subst hga'
 unfold maxLen at hgm
 rw [arcL_len] at hgn ⊢
 have HV := hid hv
 clear hv hao hga
 have harc : ∀ j, j < x.length → (arcN x j : Int) ≤ 5559540 := fun j hj => by have := arcN_bd HV.out j; omega
 obtain ⟨G, hG⟩ : ∃ G, G = arcN x (x.length - 1) * pa := ⟨_, rfl⟩
 have hG2 : G ≤ 127869420 := by
  have h1 := arcN_bd HV.out (x.length - 1)
  have h2 := Nat.mul_le_mul (show arcN x (x.length - 1) ≤ 5559540 by omega) (show pa ≤ 23 by omega)
  omega
 have HS := hid (show spotF x pa q = spotFr x G q (x.length - 1 - 0) 0 by unfold spotF; rw [hG]; rfl)
 have hGi : (arcN x (x.length - 1) : Int) * (pa : Int) = (G : Int) := by rw [hG]; push_cast; rfl
 have hal := harc (x.length - 1) (by omega)
 have hgl := arcL_get x (show x.length - 1 < x.length by omega)
 have HG := hid hG
 clear hG
 have HR := hid (show okSp (spotF x pa q) from spotF_ok HV.out hq)
 have ek : ((x.length : Int) - 1).toNat = x.length - 1 := by omega
 have el1 : (0 : Int) ≤ (x.length : Int) - 1 := by omega
 have el2 : (x.length : Int) - 1 < (x.length : Int) := by omega
 obtain ⟨W, hW⟩ : ∃ u, u = ((w.alloc (.cells #[.slice (some ⟨b, off, none⟩) x.length cap] 112)).alloc (.cells #[.int .i64 0, .int .i64 0] 207)) := ⟨_, rfl⟩
 have hbW : Below w.heap.size w W := by rw [hW]; exact belowA2 _ _ _
 have q1 : Box W (w.heap.size) #[.slice (some ⟨b, off, none⟩) x.length cap] 112 := by
  have hq := Box.new w #[.slice (some ⟨b, off, none⟩) x.length cap] 112
  rw [hW]
  exact (hq.alloc _)
 have q2 : Box W (w.heap.size + 1) #[.int .i64 0, .int .i64 0] 207 := by
  have hq := Box.new (w.alloc (.cells #[.slice (some ⟨b, off, none⟩) x.length cap] 112)) #[.int .i64 0, .int .i64 0] 207
  simp at hq
  rw [hW]
  exact hq
 obtain ⟨p1, hp1⟩ : ∃ p, p = w.heap.size := ⟨_, rfl⟩
 rw [← hp1] at q1
 have hge1 : w.heap.size ≤ p1 := by omega
 obtain ⟨p2, hp2⟩ : ∃ p, p = w.heap.size + 1 := ⟨_, rfl⟩
 rw [← hp2] at q2
 have hge2 : w.heap.size ≤ p2 := by omega
 have hlW : w.heap.size ≤ W.heap.size := hbW.size
 have hlp1 : p1 < W.heap.size := q1.lt
 have hlp2 : p2 < W.heap.size := q2.lt
 have hne12 : p1 ≠ p2 := by omega
 have HP1 := hid hp1
 have HP2 := hid hp2
 have HW := hid hW
 clear hW hp1 hp2
 have m0 := q1.cell (j := 0) rfl
 have b3 := q2
 have hge := hge2
 obtain ⟨pz, hpz⟩ : ∃ p, p = p2 := ⟨_, rfl⟩
 have hcW : Cells ePoint W b off x := hc.below hbW hbw
 have hbwW : b < W.heap.size := by omega
 have hgW := hgc.below hbW hgw
 have hgwW : gb < W.heap.size := by omega
 have hAW := h0.below hbW
 have gl := eI_cell hgW hgl
 clear h0 hc hgc hgl
 go_enter Tryz.func193, Tryz.ntmps193
 go_upto_region 1 with fail
 rw [← HP2.out, ← HP1.out, ← HW.out]
 rw [← hpz] at b3 hge ⊢
 clear hpz
 go_upto_region 3 with fail
 clear gl hal hGi ek el1 el2
 go_loopw [10] (fun i wr => ∃ j : Nat, j + 1 ≤ x.length ∧ i = .int .i64 (j + 1) ∧ Below W.heap.size W wr ∧ arcN x j * q ≤ G ∧ Hid (spotF x pa q = spotFr x G q (x.length - 1 - j) j)) (fun i _ => x.length - (intOf i).toNat)
 case atStart => exact ⟨0, by omega, rfl, Below.refl _ _, by simp [arcN], HS⟩
 case round =>
  obtain ⟨j, hj, rfl, hb, hinv, HJ⟩ := hrel
  have m1 := cell_later hb m0
  have z1 := b3.later hb
  have hwr := hb.size
  by_cases hlt : j + 1 < x.length
  ·have hli : (j : Int) + 1 < (x.length : Int) := by omega
   have hji : (j : Int) < (x.length : Int) := by omega
   obtain ⟨K1, hK1⟩ : ∃ K, K = arcN x j := ⟨_, rfl⟩
   obtain ⟨K2, hK2⟩ : ∃ K, K = arcN x (j + 1) := ⟨_, rfl⟩
   have k1 := eI_cell (hgW.below hb hgwW) (arcL_get x (show j < x.length by omega))
   have k2 := eI_cell (hgW.below hb hgwW) (arcL_get x hlt)
   have hm1 := harc j (by omega)
   have hm2 := harc (j + 1) hlt
   have hmo : K1 ≤ K2 := by rw [hK1, hK2]; exact arcN_mono (Nat.le_succ j)
   rw [← hK1] at k1 hm1 hinv
   rw [← hK2] at k2 hm2
   obtain ⟨M1, hM1⟩ : ∃ M, M = K1 * q := ⟨_, rfl⟩
   obtain ⟨M2, hM2⟩ : ∃ M, M = K2 * q := ⟨_, rfl⟩
   have hM1i : (K1 : Int) * (q : Int) = (M1 : Int) := by rw [hM1]; push_cast; rfl
   have hM2i : (K2 : Int) * (q : Int) = (M2 : Int) := by rw [hM2]; push_cast; rfl
   have hM1b : M1 ≤ 127869420 := by
    have := Nat.mul_le_mul (show K1 ≤ 5559540 by omega) (show q ≤ 23 by omega)
    omega
   have hM2b : M2 ≤ 127869420 := by
    have := Nat.mul_le_mul (show K2 ≤ 5559540 by omega) (show q ≤ 23 by omega)
    omega
   rw [← hM1] at hinv
   have wr1 : IntKind.i64.wrap ((j : Int) + 1 - 1) = (j : Int) := by rw [Int.add_sub_cancel]; exact IntWalk.i64_in _ (by omega)
   have wr2 : IntKind.i64.wrap (M2 : Int) = (M2 : Int) := IntWalk.i64_in _ (by omega)
   have wr3 : IntKind.i64.wrap (j : Int) = (j : Int) := IntWalk.i64_in _ (by omega)
   obtain ⟨D, hD⟩ : ∃ D : Nat, D = K2 - K1 := ⟨_, rfl⟩
   have hDi : (K2 : Int) - (K1 : Int) = (D : Int) := by omega
   have wr4 : IntKind.i64.wrap (D : Int) = (D : Int) := IntWalk.i64_in _ (by omega)
   have nextS : (K2 = K1 ∨ M2 < G) → Hid (spotF x pa q = spotFr x G q (x.length - 1 - (j + 1)) (j + 1)) ∧ arcN x (j + 1) * q ≤ G := fun hc => by
    constructor
    ·refine hid ?_
     rw [HJ.out, show x.length - 1 - j = (x.length - 1 - (j + 1)) + 1 by omega]
     show (if _ then _ else _) = _
     rw [if_pos (by rw [← hK1, ← hK2, ← hM2]; exact hc)]
    ·rw [← hK2]
     rcases hc with hc | hc
     ·rw [hc, ← hM1]; exact hinv
     ·rw [← hM2]; omega
   have NS := hid nextS
   clear nextS
   by_cases hc1 : K2 = K1
   ·have HN := NS.out (.inl hc1)
    have hg : ((D : Int) == 0) = true := by rw [beq_iff_eq]; omega
    have hg2 : D = 0 := by omega
    clear NS HJ hK1 hK2 hM1 hM2 hD hc1
    go_upto_region 5 with fail
    have x_m1 := ext_cell m1
    have x_k1 := ext_cell k1
    have x_k2 := ext_cell k2
    refine wp_region_ext (by kernel_rfl) (by kernel_rfl) ?_
    repeat (go_big_quiet_step (fail))
    refine wpQuiet_nil ?_
    intro _ hw'
    obtain ⟨nq, hw''⟩ := hw'
    subst hw''
    replace m1 := x_m1 nq
    replace k1 := x_k1 nq
    replace k2 := x_k2 nq
    clear x_m1 x_k1 x_k2
    replace hb := hb.trans ((ext_below _ nq).mono hb.size)
    go_wp2_with fail
    go_roundw
    case rel => exact ⟨j + 1, by omega, by go_num, hb, HN.2, HN.1⟩
    case measure => simp [intOf]; omega
   by_cases hc2 : M2 < G
   ·have HN := NS.out (.inr hc2)
    have hg : ((D : Int) == 0) = false := by rw [beq_eq_false_iff_ne]; omega
    have hg3 : ¬ (D = 0) := by omega
    have hg2 : (M2 : Int) < (G : Int) := by omega
    clear NS HJ hK1 hK2 hM1 hM2 hD hc1
    go_upto_region 5 with fail
    have x_m1 := ext_cell m1
    have x_k1 := ext_cell k1
    have x_k2 := ext_cell k2
    refine wp_region_ext (by kernel_rfl) (by kernel_rfl) ?_
    repeat (go_big_quiet_step (fail))
    refine wpQuiet_nil ?_
    intro _ hw'
    obtain ⟨nq, hw''⟩ := hw'
    subst hw''
    replace m1 := x_m1 nq
    replace k1 := x_k1 nq
    replace k2 := x_k2 nq
    clear x_m1 x_k1 x_k2
    replace hb := hb.trans ((ext_below _ nq).mono hb.size)
    go_wp2_with fail
    go_roundw
    case rel => exact ⟨j + 1, by omega, by go_num, hb, HN.2, HN.1⟩
    case measure => simp [intOf]; omega
   ·have hg : ((D : Int) == 0) = false := by rw [beq_eq_false_iff_ne]; omega
    have hg3 : ¬ (D = 0) := by omega
    have hg2 : ¬ ((M2 : Int) < (G : Int)) := by omega
    obtain ⟨a, ha⟩ : ∃ a, x[j]? = some a := ⟨_, List.getElem?_eq_getElem (by omega)⟩
    obtain ⟨pt, hcc⟩ : ∃ c, x[j + 1]? = some c := ⟨_, List.getElem?_eq_getElem hlt⟩
    have hbd := hit_bd (x := x) (g := G) (j := j) hq (by rw [← hK1, ← hM1]; exact hinv) (by rw [← hK1, ← hK2, ← hM2]; omega)
    rw [← hK1, ← hK2, ← hM1] at hbd
    obtain ⟨E, hE⟩ : ∃ E, E = (K2 - K1) * q := ⟨_, rfl⟩
    obtain ⟨F, hF⟩ : ∃ F, F = G - M1 := ⟨_, rfl⟩
    have HE := hid (show spotF x pa q = ⟨a.x + nearG ((pt.x - a.x) * (F : Int)) (E : Int), a.y + nearG ((pt.y - a.y) * (F : Int)) (E : Int)⟩ by
     rw [HJ.out, show x.length - 1 - j = (x.length - 1 - (j + 1)) + 1 by omega]
     show (if _ then _ else _) = _
     rw [if_neg (by rw [← hK1, ← hK2, ← hM2]; omega)]
     exact interP_eq ha hcc (by rw [hF, hM1, hK1]) (by rw [hE, hK1, hK2]))
    rw [← hF, ← hE] at hbd
    obtain ⟨hFE, hE1⟩ := hbd
    have hE2 : E ≤ 2131157 := by
     have h1 : K2 - K1 ≤ 92659 := by
      have := lenP_bd (validSt_okPt HV.out ha) (validSt_okPt HV.out hcc)
      have := arcN_succ ha hcc
      omega
     have := Nat.mul_le_mul h1 hq2
     omega
    have hFi : (G : Int) - (M1 : Int) = (F : Int) := by omega
    have hEi : (D : Int) * (q : Int) = (E : Int) := by rw [hE, hD]; push_cast; rfl
    have wr5 : IntKind.i64.wrap (F : Int) = (F : Int) := IntWalk.i64_in _ (by omega)
    have wr6 : IntKind.i64.wrap (E : Int) = (E : Int) := IntWalk.i64_in _ (by omega)
    have wr7 : IntKind.i64.wrap (M1 : Int) = (M1 : Int) := IntWalk.i64_in _ (by omega)
    have okR := HR.out
    rw [HE.out] at okR
    obtain ⟨r1, r2, r3, r4⟩ := okR
    simp only at r1 r2 r3 r4
    obtain ⟨a1, a2, a3, a4⟩ := validSt_okPt HV.out ha
    obtain ⟨t1, t2, t3, t4⟩ := validSt_okPt HV.out hcc
    obtain ⟨f1, f2⟩ := mulF_bd a1 a2 t1 t2 (show (0 : Int) ≤ (F : Int) by omega) (by omega)
    obtain ⟨f3, f4⟩ := mulF_bd a3 a4 t3 t4 (show (0 : Int) ≤ (F : Int) by omega) (by omega)
    have hcr := hcW.below hb hbwW
    obtain ⟨d0, d1, d2⟩ := ePoint_cells hcr ha
    obtain ⟨e0, e1, e2⟩ := ePoint_cells hcr hcc
    have CN := fun c w' (h0 : -9100000000 ≤ c) (h1 : c ≤ 9100000000) => nearG_any c (E : Int) w' (by omega) (by omega) (by omega) (by omega)
    have wx1 : IntKind.i64.wrap (pt.x - a.x) = pt.x - a.x := IntWalk.i64_in _ (by omega)
    have wx2 : IntKind.i64.wrap ((pt.x - a.x) * (F : Int)) = (pt.x - a.x) * (F : Int) := IntWalk.i64_in _ (by omega)
    have wx3 : IntKind.i64.wrap (a.x + nearG ((pt.x - a.x) * (F : Int)) (E : Int)) = a.x + nearG ((pt.x - a.x) * (F : Int)) (E : Int) := IntWalk.i64_in _ (by omega)
    have wy1 : IntKind.i64.wrap (pt.y - a.y) = pt.y - a.y := IntWalk.i64_in _ (by omega)
    have wy2 : IntKind.i64.wrap ((pt.y - a.y) * (F : Int)) = (pt.y - a.y) * (F : Int) := IntWalk.i64_in _ (by omega)
    have wy3 : IntKind.i64.wrap (a.y + nearG ((pt.y - a.y) * (F : Int)) (E : Int)) = a.y + nearG ((pt.y - a.y) * (F : Int)) (E : Int) := IntWalk.i64_in _ (by omega)
    clear NS HJ hM1 hM2 hE hF hD hcr ha hcc
    clear hK1 hK2
    go_upto_region 5 with fail
    have x_m1 := ext_cell m1
    have x_k1 := ext_cell k1
    have x_k2 := ext_cell k2
    have x_d0 := ext_cell d0
    have x_d1 := ext_cell d1
    have x_d2 := ext_cell d2
    have x_e0 := ext_cell e0
    have x_e1 := ext_cell e1
    have x_e2 := ext_cell e2
    refine wp_region_ext (by kernel_rfl) (by kernel_rfl) ?_
    repeat (go_big_quiet_step (fail))
    refine wpQuiet_nil ?_
    intro _ hw'
    obtain ⟨nq, hw''⟩ := hw'
    subst hw''
    replace m1 := x_m1 nq
    replace k1 := x_k1 nq
    replace k2 := x_k2 nq
    replace d0 := x_d0 nq
    replace d1 := x_d1 nq
    replace d2 := x_d2 nq
    replace e0 := x_e0 nq
    replace e1 := x_e1 nq
    replace e2 := x_e2 nq
    clear x_m1 x_k1 x_k2 x_d0 x_d1 x_d2 x_e0 x_e1 x_e2
    replace hb := hb.trans ((ext_below _ nq).mono hb.size)
    go_upto_region 7 with fail
    obtain ⟨w3, hw3⟩ : ∃ u, u = ext wr nq := ⟨_, rfl⟩
    rw [← hw3] at m1 k1 k2 d0 d1 d2 e0 e1 e2 hb ⊢
    clear hw3
    have z2 := b3.later hb
    have hs3 := hb.size
    go_cut [12, 13] from 52 to 62 (fun u v w' => ∃ pA pB, u = .pointer (some ⟨pA, 0, none⟩) ∧ v = .pointer (some ⟨pB, 0, none⟩) ∧ Box w' pA #[.int .i64 a.x, .int .i64 a.y, .int .i64 a.t] 114 ∧ Box w' pB #[.int .i64 pt.x, .int .i64 pt.y, .int .i64 pt.t] 114 ∧ Below w3.heap.size w3 w')
    case first =>
     have hj0 : (0 : Int) ≤ (j : Int) + 1 := by omega
     have m1a := cell_alloc m1 (.cells #[.int .i64 0, .int .i64 0, .int .i64 0] 114)
     have m1b := cell_alloc m1a (.cells #[.int .i64 0, .int .i64 0, .int .i64 0] 114)
     have d0a := cell_alloc d0 (.cells #[.int .i64 0, .int .i64 0, .int .i64 0] 114)
     have d0b := cell_alloc d0a (.cells #[.int .i64 0, .int .i64 0, .int .i64 0] 114)
     have d1a := cell_alloc d1 (.cells #[.int .i64 0, .int .i64 0, .int .i64 0] 114)
     have d1b := cell_alloc d1a (.cells #[.int .i64 0, .int .i64 0, .int .i64 0] 114)
     have d2a := cell_alloc d2 (.cells #[.int .i64 0, .int .i64 0, .int .i64 0] 114)
     have d2b := cell_alloc d2a (.cells #[.int .i64 0, .int .i64 0, .int .i64 0] 114)
     have e0a := cell_alloc e0 (.cells #[.int .i64 0, .int .i64 0, .int .i64 0] 114)
     have e0b := cell_alloc e0a (.cells #[.int .i64 0, .int .i64 0, .int .i64 0] 114)
     have e1a := cell_alloc e1 (.cells #[.int .i64 0, .int .i64 0, .int .i64 0] 114)
     have e1b := cell_alloc e1a (.cells #[.int .i64 0, .int .i64 0, .int .i64 0] 114)
     have e2a := cell_alloc e2 (.cells #[.int .i64 0, .int .i64 0, .int .i64 0] 114)
     have e2b := cell_alloc e2a (.cells #[.int .i64 0, .int .i64 0, .int .i64 0] 114)
     have m1c := cell_alloc m1a (.cells #[.int .i64 a.x, .int .i64 a.y, .int .i64 a.t] 114)
     have m1d := cell_alloc (cell_alloc m1 (.cells #[.int .i64 a.x, .int .i64 a.y, .int .i64 a.t] 114)) (.cells #[.int .i64 0, .int .i64 0, .int .i64 0] 114)
     have e0c := cell_alloc e0a (.cells #[.int .i64 a.x, .int .i64 a.y, .int .i64 a.t] 114)
     have e0d := cell_alloc (cell_alloc e0 (.cells #[.int .i64 a.x, .int .i64 a.y, .int .i64 a.t] 114)) (.cells #[.int .i64 0, .int .i64 0, .int .i64 0] 114)
     have e1c := cell_alloc e1a (.cells #[.int .i64 a.x, .int .i64 a.y, .int .i64 a.t] 114)
     have e1d := cell_alloc (cell_alloc e1 (.cells #[.int .i64 a.x, .int .i64 a.y, .int .i64 a.t] 114)) (.cells #[.int .i64 0, .int .i64 0, .int .i64 0] 114)
     have e2c := cell_alloc e2a (.cells #[.int .i64 a.x, .int .i64 a.y, .int .i64 a.t] 114)
     have e2d := cell_alloc (cell_alloc e2 (.cells #[.int .i64 a.x, .int .i64 a.y, .int .i64 a.t] 114)) (.cells #[.int .i64 0, .int .i64 0, .int .i64 0] 114)
     go_region
     all_goals go_wp2_with fail
     all_goals go_meet
     ·exact ⟨_, _, rfl, rfl, (boxes2 _ _ _ _).1, (boxes2 _ _ _ _).2, (belowA2 _ _ _).drew⟩
     ·exact ⟨_, _, rfl, rfl, (boxes2 _ _ _ _).2, (boxes2 _ _ _ _).1, (belowA2 _ _ _).drew⟩
    case rest =>
    obtain ⟨pA, pB, hu, hv, qA, qB, hb5⟩ := hcut
    subst hu hv
    have hb25 := hb.trans (hb5.mono hb.size)
    replace k1 := cell_later hb5 k1
    replace k2 := cell_later hb5 k2
    have z6 := z2.later hb5
    have x0 := qA.cell (j := 0) rfl
    have x1 := qA.cell (j := 1) rfl
    have y0 := qB.cell (j := 0) rfl
    have y1 := qB.cell (j := 1) rfl
    have cz0 := z6.cell (j := 0) rfl
    have cz1 := z6.cell (j := 1) rfl
    have czf := z6.free
    have hs5 := hb25.size
    clear m1 d0 d1 d2 e0 e1 e2 z2
    go_upto_region 9 with fail
    refine wp_region_still_tail 25 (by kernel_rfl) (by kernel_rfl) ?_
    simp only [List.take_succ_cons, List.take_zero, List.drop_succ_cons, List.drop_zero]
    repeat (first | still_step | still_call ((CN _ _ (by omega) (by omega)).mono fun _ _ h => ⟨h.1, h.2.symm⟩))
    refine wpStill_nil ?_
    change wpList _ _ _ _ _ (World.drew _)
    go_wp2
    refine bodyPost_ret (v := .agg #[.int .i64 (a.x + nearG ((pt.x - a.x) * (F : Int)) (E : Int)), .int .i64 (a.y + nearG ((pt.y - a.y) * (F : Int)) (E : Int))]) (by simp [results, Tryz.results193, go_sem, cz0, cz1]) rfl (ret_ret (by rw [HE.out]) ?_)
    exact ((((hbW.trans (hb25.mono hlW)).setCell hge _).setCell hge _).drew)
  ·have hli : ¬ ((j : Int) + 1 < (x.length : Int)) := by omega
   obtain ⟨pt, hpt⟩ : ∃ p, x[0]? = some p := ⟨_, List.getElem?_eq_getElem (by omega)⟩
   have HE := hid (show spotF x pa q = ptSp pt by
    rw [HJ.out, show x.length - 1 - j = 0 by omega]
    show (match x[0]? with | some p => ptSp p | none => ⟨0, 0⟩) = _
    rw [hpt])
   have hcr := hcW.below hb hbwW
   obtain ⟨d0, d1, d2⟩ := ePoint_cells hcr hpt
   simp only [Nat.zero_mul, Nat.add_zero] at d0 d1 d2
   have hx0 : (0 : Int) < (x.length : Int) := by omega
   have CF := fun w' (hc : Cells ePoint w' b off x) => firstOf_any b off cap x pt w' hc hcm hpt
   clear hpt HJ
   go_wp2_with fail
   refine (CF _ hcr).mono ?_
   rintro e w6 ⟨rfl, hb6⟩
   have z6 := z1.later hb6
   have hb26 := hb.trans (hb6.mono hwr)
   go_wp2_with fail
   refine (spotOf_any pt _).mono ?_
   rintro e w7 ⟨rfl, hb7⟩
   have z7 := z6.later hb7
   have hb27 := hb26.trans (hb7.mono hb26.size)
   have cz0 := z7.cell (j := 0) rfl
   have cz1 := z7.cell (j := 1) rfl
   have czf := z7.free
   go_wp2_with fail
   refine bodyPost_ret (v := .agg #[.int .i64 pt.x, .int .i64 pt.y]) (by simp [results, Tryz.results193, go_sem, cz0, cz1]) rfl (ret_ret (by rw [HE.out]; rfl) ?_)
   exact (((hbW.trans (hb27.mono hlW)).setCell hge _).setCell hge _)
end Go.Proofs.YtlnoelbeaolikaaGreat
namespace Go.Proofs.YtlnoelbeaolikaaGreat
open Go.RowKit
noncomputable def spotsL (x : XStroke) (q k : Nat) : List DSpot := (List.range k).map fun i => spotF x i q
theorem spotsL_len (x : XStroke) (q k : Nat) : (spotsL x q k).length = k := by simp [spotsL]
theorem spotsL_get (x : XStroke) (q : Nat) {k i : Nat} (h : i < k) : (spotsL x q k)[i]? = some (spotF x i q) := by simp [spotsL, h]
theorem spotsL_push (x : XStroke) (q k : Nat) : spotsL x q k ++ [spotF x k q] = spotsL x q (k + 1) := by simp [spotsL, List.range_succ]
theorem infSpot : (Tryz.prog.info? 207).map (fun i => (i.zero, i.size, i.bytes)) = some (some (.agg #[.int .i64 0, .int .i64 0]), eSpot.sz, 16) := by kernel_rfl
set_option maxRecDepth 100000 in
set_option maxHeartbeats 4000000 in
theorem resample_any (v : Value) (x : XStroke) (q : Nat) (w : World) (h : Arr ePoint w v x) (hv : validSt x = true) (hq : 1 ≤ q) (hq2 : q ≤ 23) :
  Calls Tryz.prog 153 #[.agg #[v], .int .i64 (q + 1)] w (RetOwn eSpot 207 (spotsL x q (q + 1)) w) := by
 obtain ⟨va, vc, rfl⟩ := h.isSlice
 obtain ⟨W, hW⟩ : ∃ u, u = (w.alloc (.cells #[.slice va x.length vc] 112)) := ⟨_, rfl⟩
 have hbW : Below w.heap.size w W := by rw [hW]; exact belowA1 _ _
 have q1 : Box W (w.heap.size) #[.slice va x.length vc] 112 := by
  have hq := Box.new w #[.slice va x.length vc] 112
  rw [hW]
  exact hq
 obtain ⟨p1, hp1⟩ : ∃ p, p = w.heap.size := ⟨_, rfl⟩
 rw [← hp1] at q1
 have hge1 : w.heap.size ≤ p1 := by omega
 have hlW : w.heap.size ≤ W.heap.size := hbW.size
 have hlp1 : p1 < W.heap.size := q1.lt
 have HP1 := hid hp1
 have HW := hid hW
 clear hW hp1
 have m0 := q1.cell (j := 0) rfl
 have hAW := h.below hbW
 have CA := arcsOf_any (.slice va x.length vc) x W hAW hv
 go_enter Tryz.func153, Tryz.ntmps153
 go_upto_region 1 with fail
 rw [← HP1.out, ← HW.out]
 go_wp2_with fail
 refine CA.mono ?_
 rintro e w2 ⟨ua, rfl, ho2, hb2⟩
 have hu2 := ho2.arr
 obtain ⟨aa, ac, hua⟩ := ho2.isSlice
 rw [arcL_len] at hua
 subst hua
 have hl2 := hb2.size
 clear CA
 obtain ⟨w3, hw3⟩ : ∃ u, u = w2 := ⟨_, rfl⟩
 have hb3 : Below w2.heap.size w2 w3 := by rw [hw3]; exact Below.refl _ _
 have ho3 : Own eSpot 207 w2.heap.size w3 (.slice none 0 0) (spotsL x q 0) := Own.nil _ _ _
 go_upto_region 4 with fail
 rw [← hw3]
 clear hw3
 have HV := hid hv
 clear hv
 go_loopw [6, 7] (fun u i wr => ∃ k : Nat, k ≤ q + 1 ∧ i = .int .i64 k ∧ Own eSpot 207 w2.heap.size wr u (spotsL x q k) ∧ Below w2.heap.size w2 wr) (fun _ i _ => q + 1 - (intOf i).toNat)
 case atStart => exact ⟨0, Nat.zero_le _, rfl, ho3, hb3⟩
 case round =>
  clear ho3
  obtain ⟨k, hk, rfl, ho, hbl⟩ := hrel
  have hb : Below W.heap.size W wr := hb2.trans (hbl.mono hl2)
  have hll := spotsL_len x q k
  by_cases hlt : k < q + 1
  ·have hli : (k : Int) < (q : Int) + 1 := by omega
   have m1 := cell_later hb m0
   have CS := spotAt_any (.slice va x.length vc) (.slice aa x.length ac) x k q wr (hAW.below hb) (hu2.below hbl) HV.out hq hq2 (by omega)
   have HT := hid (spotsL_push x q k)
   obtain ⟨Z, hZ⟩ : ∃ Z, Z = spotsL x q k := ⟨_, rfl⟩
   rw [← hZ] at ho hll HT
   obtain ⟨s, hs⟩ : ∃ s, s = spotF x k q := ⟨_, rfl⟩
   rw [← hs] at CS HT
   obtain ⟨oa, oc, hu⟩ := ho.isSlice
   rw [hll] at hu
   subst hu
   have HL := hid hll
   have hbs := hb.size
   clear hZ hs hll
   go_wp2_with fail
   refine CS.mono ?_
   rintro e w5 ⟨rfl, hb5⟩
   have ho5 := ho.below hb5
   have hbW5 := hb.trans (hb5.mono hbs)
   have hbl5 := hbl.trans (hb5.mono hbl.size)
   have hq5 := hbl5.size
   have hs5 := hbW5.size
   go_wp2_with (at_builtin; (refine wpList_appA rfl _ _ 204 rfl w2.heap.size 207 _ 16 infSpot Tryz.underlying204 rfl _ Z rfl (ho5.alloc _) _ [s] rfl (by exact arr_block1 (E := eSpot) (n := 1) [s] #[.int .i64 s.x, .int .i64 s.y] rfl rfl (by decide) (by simp)) (by rw [HL.out]; unfold maxLen; simp <;> omega) (by rw [HL.out]; simp <;> omega) (by simp <;> omega) ?_; intro v' wA hoA hbA htA))
   have hF : Below w2.heap.size w2 wA := (hbl5.alloc hbl5.size (.cells #[.int .i64 s.x, .int .i64 s.y] 207)).trans hbA
   go_wp2_with fail
   go_roundw
   case rel => exact ⟨k + 1, by omega, by go_num, by rw [← HT.out]; exact hoA, hF⟩
   case measure => simp [intOf]; omega
  ·have hli : ¬ ((k : Int) < (q : Int) + 1) := by omega
   have HE := hid (show k = q + 1 by omega)
   clear hll
   go_wp2_with fail
   go_ret
   exact ⟨_, rfl, by rw [HE.out] at ho; exact ho.mono (Nat.le_trans hlW hl2), hbW.trans (hb.mono hlW)⟩
set_option maxRecDepth 100000 in
set_option maxHeartbeats 4000000 in
theorem l06Resample_any (p0 o : Nat) (v : Value) (x : XStroke) (q : Nat) (w : World) (hp : w.cell? ⟨p0, o, none⟩ = some v) (h : Arr ePoint w v x) (hv : validSt x = true) (hq : 1 ≤ q) (hq2 : q ≤ 23) :
  Calls Tryz.prog 142 #[.pointer (some ⟨p0, o, none⟩), .int .i64 (q + 1)] w (RetOwn eSpot 207 (spotsL x q (q + 1)) w) := by
 obtain ⟨va, vc, rfl⟩ := h.isSlice
 obtain ⟨W, hWd⟩ : ∃ W, W = w := ⟨_, rfl⟩
 have hbW : Below w.heap.size w W := by rw [hWd]; exact Below.refl _ _
 have hlW : w.heap.size ≤ W.heap.size := hbW.size
 have m0 : W.cell? ⟨p0, o, none⟩ = some (.slice va x.length vc) := by rw [hWd]; exact hp
 have hAW := h.below hbW
 have CA := l06Arcs_any p0 o _ x W m0 hAW hv
 have HWd := hid hWd
 clear hWd
 go_enter Tryz.func142, Tryz.ntmps142
 go_upto_region 1 with fail
 rw [← HWd.out]
 go_wp2_with fail
 refine CA.mono ?_
 rintro e w2 ⟨ua, rfl, ho2, hb2⟩
 have hu2 := ho2.arr
 obtain ⟨aa, ac, hua⟩ := ho2.isSlice
 rw [arcL_len] at hua
 subst hua
 have hl2 := hb2.size
 clear CA
 go_upto_region 4 with fail
 obtain ⟨w3, hw3⟩ : ∃ u, u = w2.alloc (.cells #[] 207) := ⟨_, rfl⟩
 obtain ⟨pe, hpe⟩ : ∃ p, p = w2.heap.size := ⟨_, rfl⟩
 have hb3 : Below w2.heap.size w2 w3 := by rw [hw3]; exact below_alloc _ _
 have ho3 : Own eSpot 207 w2.heap.size w3 (.slice (some ⟨pe, 0, none⟩) 0 0) (spotsL x q 0) := by rw [hw3, hpe]; exact Own.empty _ _ (Nat.le_refl _)
 rw [← hw3, ← hpe]
 clear hw3 hpe
 have HV := hid hv
 clear hv
 go_loopw [6, 7] (fun u i wr => ∃ k : Nat, k ≤ q + 1 ∧ i = .int .i64 k ∧ Own eSpot 207 w2.heap.size wr u (spotsL x q k) ∧ Below w2.heap.size w2 wr) (fun _ i _ => q + 1 - (intOf i).toNat)
 case atStart => exact ⟨0, Nat.zero_le _, rfl, ho3, hb3⟩
 case round =>
  clear ho3
  obtain ⟨k, hk, rfl, ho, hbl⟩ := hrel
  have hb : Below W.heap.size W wr := hb2.trans (hbl.mono hl2)
  have hll := spotsL_len x q k
  by_cases hlt : k < q + 1
  ·have hli : (k : Int) < (q : Int) + 1 := by omega
   have m1 := cell_later hb m0
   have CS := l06At_any p0 o (.slice va x.length vc) (.slice aa x.length ac) x k q wr m1 (hAW.below hb) (hu2.below hbl) HV.out hq hq2 (by omega)
   have HT := hid (spotsL_push x q k)
   obtain ⟨Z, hZ⟩ : ∃ Z, Z = spotsL x q k := ⟨_, rfl⟩
   rw [← hZ] at ho hll HT
   obtain ⟨s, hs⟩ : ∃ s, s = spotF x k q := ⟨_, rfl⟩
   rw [← hs] at CS HT
   obtain ⟨oa, oc, hu⟩ := ho.isSlice
   rw [hll] at hu
   subst hu
   have HL := hid hll
   have hbs := hb.size
   clear hZ hs hll
   go_wp2_with fail
   refine CS.mono ?_
   rintro e w5 ⟨rfl, hb5⟩
   have ho5 := ho.below hb5
   have hbW5 := hb.trans (hb5.mono hbs)
   have hbl5 := hbl.trans (hb5.mono hbl.size)
   have hq5 := hbl5.size
   have hs5 := hbW5.size
   go_wp2_with (at_builtin; (refine wpList_appA rfl _ _ 204 rfl w2.heap.size 207 _ 16 infSpot Tryz.underlying204 rfl _ Z rfl (ho5.alloc _) _ [s] rfl (by exact arr_block1 (E := eSpot) (n := 1) [s] #[.int .i64 s.x, .int .i64 s.y] rfl rfl (by decide) (by simp)) (by rw [HL.out]; unfold maxLen; simp <;> omega) (by rw [HL.out]; simp <;> omega) (by simp <;> omega) ?_; intro v' wA hoA hbA htA))
   have hF : Below w2.heap.size w2 wA := (hbl5.alloc hbl5.size (.cells #[.int .i64 s.x, .int .i64 s.y] 207)).trans hbA
   go_wp2_with fail
   go_roundw
   case rel => exact ⟨k + 1, by omega, by go_num, by rw [← HT.out]; exact hoA, hF⟩
   case measure => simp [intOf]; omega
  ·have hli : ¬ ((k : Int) < (q : Int) + 1) := by omega
   have HE := hid (show k = q + 1 by omega)
   clear hll
   go_wp2_with fail
   go_ret
   exact ⟨_, rfl, by rw [HE.out] at ho; exact ho.mono (Nat.le_trans hlW hl2), hbW.trans (hb.mono hlW)⟩
end Go.Proofs.YtlnoelbeaolikaaGreat
namespace Go.Proofs.YtlnoelbeaolikaaGreat
open Go.RowKit
def dirNx (P : List DSpot) (d : Int) (k : Nat) : Int := match P[k]?, P[k + 1]? with
 | some p, some r => if r.x = p.x ∧ r.y = p.y then d else sectF (r.x - p.x) (r.y - p.y)
 | _, _ => d
def dirTo (P : List DSpot) : Nat → Int
 | 0 => 0
 | k + 1 => dirNx P (dirTo P k) k
def featK (P : List DSpot) (b : DBox) (k : Nat) : DFeat := match P[k]? with
 | some p => ⟨(normP p b).x, (normP p b).y, dirTo P (k + 1)⟩
 | none => ⟨0, 0, 0⟩
def featsP (P : List DSpot) (b : DBox) (k : Nat) : List DFeat := (List.range k).map (featK P b)
theorem featsP_len (P : List DSpot) (b : DBox) (k : Nat) : (featsP P b k).length = k := by simp [featsP]
theorem featsP_push (P : List DSpot) (b : DBox) (k : Nat) : featsP P b k ++ [featK P b k] = featsP P b (k + 1) := by simp [featsP, List.range_succ]
noncomputable def featsS (x : XStroke) (b : DBox) (q : Nat) : List DFeat := featsP (spotsL x q (q + 1)) b (q + 1)
theorem featK_eq {P : List DSpot} {b : DBox} {k : Nat} {p : DSpot} (h : P[k]? = some p) : featK P b k = ⟨(normP p b).x, (normP p b).y, dirTo P (k + 1)⟩ := by unfold featK; rw [h]
theorem dirTo_eq {P : List DSpot} {k : Nat} {p r : DSpot} (h : P[k]? = some p) (h2 : P[k + 1]? = some r) : dirTo P (k + 1) = if r.x = p.x ∧ r.y = p.y then dirTo P k else sectF (r.x - p.x) (r.y - p.y) := by
 show dirNx P (dirTo P k) k = _
 unfold dirNx
 rw [h, h2]
theorem dirTo_end {P : List DSpot} {k : Nat} (h2 : P[k + 1]? = none) : dirTo P (k + 1) = dirTo P k := by
 show dirNx P (dirTo P k) k = _
 unfold dirNx
 rw [h2]
 split <;> simp_all
theorem sectF_bd (dx dy : Int) : 0 ≤ sectF dx dy ∧ sectF dx dy ≤ 7 := by
 unfold sectF
 repeat' split
 all_goals omega
theorem dirTo_bd (P : List DSpot) : ∀ k, 0 ≤ dirTo P k ∧ dirTo P k ≤ 7
 | 0 => ⟨Int.le_refl 0, by show (0 : Int) ≤ 7; decide⟩
 | k + 1 => by
  show 0 ≤ dirNx P (dirTo P k) k ∧ _ ≤ _
  have ih := dirTo_bd P k
  show 0 ≤ dirNx P (dirTo P k) k ∧ dirNx P (dirTo P k) k ≤ 7
  unfold dirNx
  split
  ·split
   ·exact ih
   ·exact sectF_bd _ _
  ·exact ih
theorem spotsL_ok {x : XStroke} (hv : validSt x = true) {q : Nat} (hq : 1 ≤ q) {n k : Nat} {p : DSpot} (h : (spotsL x q n)[k]? = some p) : okSp p := by
 have hk : k < n := by have := (List.getElem?_eq_some_iff.1 h).1; rw [spotsL_len] at this; exact this
 rw [spotsL_get x q hk] at h
 obtain rfl := Option.some.inj h
 exact spotF_ok hv hq
theorem infFeatF : (Tryz.prog.info? 176).map (fun i => (i.zero, i.size, i.bytes)) = some (some (.agg #[.int .i64 0, .int .i64 0, .int .i64 0]), eFeat.sz, 24) := by kernel_rfl
def eqSp (x y : DSpot) : Bool := x.x == y.x && x.y == y.y
theorem neqSp (x y : DSpot) (w : World) : (Op.equalIn 10000 207 (.agg #[.int .i64 x.x, .int .i64 x.y]) (.agg #[.int .i64 y.x, .int .i64 y.y])).run Tryz.prog w = .ok (eqSp x y) w := by
 have hS : Tryz.prog.underlying 207 = some (.struct (Tryz.prog.fieldsOf 207)) := by kernel_rfl
 have hp : Tryz.prog.stoodInHeld 207 = false := by kernel_rfl
 rw [show (10000 : Nat) = 9999 + 1 from rfl, run_equalIn_agg w 9999 207 _ _ hS hp]
 simp only [Program.fieldsOf, Tryz.underlying207]
 go_simp
 unfold eqSp
 by_cases h1 : x.x = y.x <;> by_cases h2 : x.y = y.y <;> simp [h1, h2]
theorem eqSp_t {x y : DSpot} (h : eqSp x y = true) : x.x = y.x ∧ x.y = y.y := by simpa [eqSp] using h
theorem eqSp_f {x y : DSpot} (h : eqSp x y = false) : ¬ (x.x = y.x ∧ x.y = y.y) := by
 intro h2
 simp [eqSp, h2.1, h2.2] at h
def NewSp (B : Nat) (v : Value) (w : World) : Prop := ∃ pb, v = .pointer (some ⟨pb, 0, none⟩) ∧ Box w pb #[.int .i64 0, .int .i64 0] 207 ∧ B ≤ pb
def NxtSp (B : Nat) (s : DSpot) (v : Value) (w : World) : Prop := ∃ pb, v = .pointer (some ⟨pb, 0, none⟩) ∧ Box w pb #[.int .i64 s.x, .int .i64 s.y] 207 ∧ B ≤ pb
theorem NewSp.below {B : Nat} {v : Value} {w w' : World} (h : NewSp B v w) (hb : Below w.heap.size w w') : NewSp B v w' := by
 obtain ⟨pb, h1, h2, h3⟩ := h
 exact ⟨pb, h1, h2.later hb, h3⟩
theorem NxtSp.below {B : Nat} {s : DSpot} {v : Value} {w w' : World} (h : NxtSp B s v w) (hb : Below w.heap.size w w') : NxtSp B s v w' := by
 obtain ⟨pb, h1, h2, h3⟩ := h
 exact ⟨pb, h1, h2.later hb, h3⟩
set_option maxRecDepth 100000 in
set_option maxHeartbeats 4000000 in
theorem featsOfStroke_any (v : Value) (x : XStroke) (bx : DBox) (q : Nat) (w : World) (h : Arr ePoint w v x) (hv : validSt x = true) (hbx : okBox bx) (hbl : boxLe bx) (hq : 1 ≤ q) (hq2 : q ≤ 23) :
  Calls Tryz.prog 106 #[.agg #[v], vBox bx, .int .i64 (q + 1)] w (RetOwn eFeat 176 (featsS x bx q) w) := by
 obtain ⟨va, vc, rfl⟩ := h.isSlice
 have CNr := fun (p : DSpot) (hp : okSp p) w' => normalSpot_any p bx w' hp hbx hbl
 unfold vBox at CNr ⊢
 obtain ⟨W, hW⟩ : ∃ u, u = ((w.alloc (.cells #[.slice va x.length vc] 112)).alloc (.cells #[.int .i64 bx.x1, .int .i64 bx.y1, .int .i64 bx.x2, .int .i64 bx.y2] 158)) := ⟨_, rfl⟩
 have hbW : Below w.heap.size w W := by rw [hW]; exact belowA2 _ _ _
 have q1 : Box W (w.heap.size) #[.slice va x.length vc] 112 := by
  have hq := Box.new w #[.slice va x.length vc] 112
  rw [hW]
  exact (hq.alloc _)
 have q2 : Box W (w.heap.size + 1) #[.int .i64 bx.x1, .int .i64 bx.y1, .int .i64 bx.x2, .int .i64 bx.y2] 158 := by
  have hq := Box.new (w.alloc (.cells #[.slice va x.length vc] 112)) #[.int .i64 bx.x1, .int .i64 bx.y1, .int .i64 bx.x2, .int .i64 bx.y2] 158
  simp at hq
  rw [hW]
  exact hq
 obtain ⟨p1, hp1⟩ : ∃ p, p = w.heap.size := ⟨_, rfl⟩
 rw [← hp1] at q1
 have hge1 : w.heap.size ≤ p1 := by omega
 obtain ⟨p2, hp2⟩ : ∃ p, p = w.heap.size + 1 := ⟨_, rfl⟩
 rw [← hp2] at q2
 have hge2 : w.heap.size ≤ p2 := by omega
 have hlW : w.heap.size ≤ W.heap.size := hbW.size
 have hlp1 : p1 < W.heap.size := q1.lt
 have hlp2 : p2 < W.heap.size := q2.lt
 have hne12 : p1 ≠ p2 := by omega
 have HP1 := hid hp1
 have HP2 := hid hp2
 have HW := hid hW
 clear hW hp1 hp2
 have m0 := q1.cell (j := 0) rfl
 have b0 := q2.cell (j := 0) rfl
 have b1 := q2.cell (j := 1) rfl
 have b2 := q2.cell (j := 2) rfl
 have b3 := q2.cell (j := 3) rfl
 have hAW := h.below hbW
 have CA := resample_any (.slice va x.length vc) x q W hAW hv hq hq2
 obtain ⟨pB, hpB⟩ : ∃ p, p = p2 := ⟨_, rfl⟩
 go_enter Tryz.func106, Tryz.ntmps106
 go_upto_region 1 with fail
 rw [← HP2.out, ← HP1.out, ← HW.out]
 rw [← hpB] at b0 b1 b2 b3 ⊢
 clear hpB
 go_wp2_with fail
 refine CA.mono ?_
 rintro e w2 ⟨ua, rfl, ho2, hb2⟩
 have hu2 := ho2.arr
 obtain ⟨gb, goff, ga, gc, hgv, hgn, hgm, hga, hgc⟩ := hu2
 rw [spotsL_len] at hgv hgn hga
 obtain ⟨hga', hgw⟩ := hga (by omega)
 subst hga' hgv
 unfold maxLen at hgm
 have hl2 := hb2.size
 have b0 := cell_later hb2 b0
 have b1 := cell_later hb2 b1
 have b2 := cell_later hb2 b2
 have b3 := cell_later hb2 b3
 have HV := hid hv
 have HOK := hid (fun (k : Nat) (p : DSpot) (h : (spotsL x q (q + 1))[k]? = some p) => spotsL_ok hv hq h)
 obtain ⟨P, hP⟩ : ∃ P, P = spotsL x q (q + 1) := ⟨_, rfl⟩
 have HPL := hid (show P.length = q + 1 by rw [hP]; exact spotsL_len _ _ _)
 have HFS := hid (show featsS x bx q = featsP P bx (q + 1) by rw [hP]; rfl)
 rw [← hP] at HOK hgc
 clear CA hv ho2 hga hP
 obtain ⟨w3, hw3⟩ : ∃ u, u = w2 := ⟨_, rfl⟩
 have hb3 : Below w2.heap.size w2 w3 := by rw [hw3]; exact Below.refl _ _
 have ho3 : Own eFeat 176 w2.heap.size w3 (.slice none 0 0) (featsP P bx 0) := Own.nil _ _ _
 go_upto_region 5 with fail
 rw [← hw3]
 clear hw3
 go_loopw [8, 9, 18] (fun u d i wr => ∃ k : Nat, k ≤ q + 1 ∧ i = .int .i64 k ∧ d = .int .i64 (dirTo P k) ∧ Own eFeat 176 w2.heap.size wr u (featsP P bx k) ∧ Below w2.heap.size w2 wr) (fun _ _ i _ => q + 1 - (intOf i).toNat)
 case atStart => exact ⟨0, Nat.zero_le _, rfl, rfl, ho3, hb3⟩
 case round =>
  clear ho3
  obtain ⟨w4, rfl⟩ : ∃ u, u = wr := ⟨wr, rfl⟩
  obtain ⟨k, hk, rfl, rfl, ho, hb⟩ := hrel
  have hll := featsP_len P bx k
  by_cases hlt : k < q + 1
  ·have hli : (k : Int) < (q : Int) + 1 := by omega
   obtain ⟨s, hs⟩ : ∃ p, P[k]? = some p := ⟨_, List.getElem?_eq_getElem (by rw [HPL.out]; exact hlt)⟩
   have hcr := hgc.below hb hgw
   obtain ⟨s0, s1⟩ := eSpot_cells hcr hs
   have okS := HOK.out k s hs
   have HT := hid (show featsP P bx k ++ [⟨(normP s bx).x, (normP s bx).y, dirTo P (k + 1)⟩] = featsP P bx (k + 1) by rw [← featK_eq hs]; exact featsP_push P bx k)
   have hdb := dirTo_bd P k
   have CN := fun w' => CNr s okS w'
   have nbd := normP_bd okS hbx hbl
   obtain ⟨Z, hZ⟩ : ∃ Z, Z = featsP P bx k := ⟨_, rfl⟩
   rw [← hZ] at ho hll HT
   obtain ⟨N, hN⟩ : ∃ N, N = normP s bx := ⟨_, rfl⟩
   rw [← hN] at CN HT nbd
   obtain ⟨oa, oc, hu⟩ := ho.isSlice
   rw [hll] at hu
   subst hu
   have HL := hid hll
   have hbs := hb.size
   obtain ⟨o1, o2, o3, o4⟩ := okS
   clear hZ hN hll
   go_upto_region 7 with fail
   obtain ⟨w5, hw5⟩ : ∃ u, u = w4.alloc (.cells #[.int .i64 s.x, .int .i64 s.y] 207) := ⟨_, rfl⟩
   obtain ⟨pS, hpS⟩ : ∃ p, p = w4.heap.size := ⟨_, rfl⟩
   rw [← hpS, ← hw5]
   have hb5 : Below w4.heap.size w4 w5 := by rw [hw5]; exact below_alloc _ _
   have qS : Box w5 pS #[.int .i64 s.x, .int .i64 s.y] 207 := by rw [hw5, hpS]; exact Box.new _ _ _
   have x0 := qS.cell (j := 0) rfl
   have x1 := qS.cell (j := 1) rfl
   have ho5 := ho.below hb5
   have hbW5 := hb.trans (hb5.mono hbs)
   have hs5 := hbW5.size
   clear hw5 hpS s0 s1 ho
   have hbz := Below.refl w5.heap.size w5
   have wr1 : IntKind.i64.wrap ((k : Int) + 1) = (k : Int) + 1 := IntWalk.i64_in _ (by omega)
   have hk0 : (0 : Int) ≤ (k : Int) + 1 := by omega
   by_cases hlt2 : k + 1 < q + 1
   ·have hli2 : (k : Int) + 1 < (q : Int) + 1 := by omega
    obtain ⟨r, hr⟩ : ∃ p, P[k + 1]? = some p := ⟨_, List.getElem?_eq_getElem (by rw [HPL.out]; exact hlt2)⟩
    obtain ⟨r0, r1⟩ := eSpot_cells (hgc.below hbW5 hgw) hr
    have HD := hid (dirTo_eq hs hr)
    obtain ⟨c1, c2, c3, c4⟩ := HOK.out (k + 1) r hr
    have hgd : ∀ (o1 o2 : Operand) (w : World), (eqGuard .neq 207 o1 o2 (.agg #[.int .i64 r.x, .int .i64 r.y]) (.agg #[.int .i64 s.x, .int .i64 s.y])).run Tryz.prog w = .ok () w := fun o1 o2 w => run_eqGuard_agg w .neq _ o1 o2 _ _ (by kernel_rfl)
    have hne := neqSp r s
    cases he : eqSp r s
    ·rw [he] at hne
     have HE := hid (HD.out.trans (if_neg (eqSp_f he)))
     have CD := fun w' => directionOf_any (r.x - s.x) (r.y - s.y) w' (by omega) (by omega) (by omega) (by omega)
     rw [← HE.out] at CD
     have wr2 : IntKind.i64.wrap (r.x - s.x) = r.x - s.x := IntWalk.i64_in _ (by omega)
     have wr3 : IntKind.i64.wrap (r.y - s.y) = r.y - s.y := IntWalk.i64_in _ (by omega)
     clear HD hs hr he HE
     have x_r0 := ext_cell r0
     have x_r1 := ext_cell r1
     have x_x0 := ext_cell x0
     have x_x1 := ext_cell x1
     refine wp_region_ext (by kernel_rfl) (by kernel_rfl) ?_
     repeat (go_big_quiet_step (fail))
     refine wpQuiet_nil ?_
     intro _ hw'
     obtain ⟨nq, hw''⟩ := hw'
     subst hw''
     replace r0 := x_r0 nq
     replace r1 := x_r1 nq
     replace x0 := x_x0 nq
     replace x1 := x_x1 nq
     clear x_r0 x_r1 x_x0 x_x1
     replace hbz := hbz.trans ((ext_below _ nq).mono hbz.size)
     go_upto_region 8 with fail
     have x_r0 := ext_cell r0
     have x_r1 := ext_cell r1
     have x_x0 := ext_cell x0
     have x_x1 := ext_cell x1
     refine wp_region_ext (by kernel_rfl) (by kernel_rfl) ?_
     repeat (go_big_quiet_step ((go_at_call 154; exact same_ext (CD _))))
     refine wpQuiet_nil ?_
     intro _ hw'
     obtain ⟨nr, hw''⟩ := hw'
     subst hw''
     replace r0 := x_r0 nr
     replace r1 := x_r1 nr
     replace x0 := x_x0 nr
     replace x1 := x_x1 nr
     clear x_r0 x_r1 x_x0 x_x1
     replace hbz := hbz.trans ((ext_below _ nr).mono hbz.size)
     obtain ⟨w6, hw6⟩ : ∃ u, u = ext (ext w5 nq) nr := ⟨_, rfl⟩
     rw [← hw6] at hbz x0 x1 ⊢
     clear hw6
     have hs6 := hbz.size
     have hbW6 := hbW5.trans (hbz.mono hs5)
     have hs6b := hbW6.size
     have y0 := cell_later hbW6 b0
     have y1 := cell_later hbW6 b1
     have y2 := cell_later hbW6 b2
     have y3 := cell_later hbW6 b3
     have ho6 := ho5.below hbz
     clear ho5 qS
     go_wp2_with fail
     refine (CN _).mono ?_
     rintro e w7 ⟨rfl, hb7⟩
     have hbW7 := hbW6.trans (hb7.mono hs6b)
     have ho7 := ho6.below hb7
     have hs7 := hbW7.size
     have hN1 := below_alloc w7 (.cells #[.int .i64 N.x, .int .i64 N.y] 207)
     go_wp2_with (at_builtin; (refine wpList_appA rfl _ _ 104 rfl w2.heap.size 176 _ 24 infFeatF Tryz.underlying104 rfl _ Z rfl ((ho7.alloc _).alloc _) _ [⟨N.x, N.y, dirTo P (k + 1)⟩] rfl (by exact arr_block1 (E := eFeat) (n := 1) [⟨N.x, N.y, dirTo P (k + 1)⟩] #[.int .i64 N.x, .int .i64 N.y, .int .i64 (dirTo P (k + 1))] rfl rfl (by decide) (by simp)) (by rw [HL.out]; unfold maxLen; simp <;> omega) (by rw [HL.out]; simp <;> omega) (by simp <;> omega) ?_; intro v' wA hoA hbA htA))
     have hF : Below w2.heap.size w2 wA := ((hbW7.alloc hs7 (.cells #[.int .i64 N.x, .int .i64 N.y] 207)).alloc (by simp <;> omega) (.cells #[.int .i64 N.x, .int .i64 N.y, .int .i64 (dirTo P (k + 1))] 176)).trans hbA
     go_wp2_with fail
     go_roundw
     case rel => exact ⟨k + 1, by omega, by go_num, rfl, by rw [← HT.out]; exact hoA, hF⟩
     case measure => simp [intOf]; omega
    ·rw [he] at hne
     have HE := hid (HD.out.trans (if_pos (eqSp_t he)))
     clear HD hs hr he
     have x_r0 := ext_cell r0
     have x_r1 := ext_cell r1
     have x_x0 := ext_cell x0
     have x_x1 := ext_cell x1
     refine wp_region_ext (by kernel_rfl) (by kernel_rfl) ?_
     repeat (go_big_quiet_step (fail))
     refine wpQuiet_nil ?_
     intro _ hw'
     obtain ⟨nq, hw''⟩ := hw'
     subst hw''
     replace r0 := x_r0 nq
     replace r1 := x_r1 nq
     replace x0 := x_x0 nq
     replace x1 := x_x1 nq
     clear x_r0 x_r1 x_x0 x_x1
     replace hbz := hbz.trans ((ext_below _ nq).mono hbz.size)
     rw [← HE.out]
     clear HE
     obtain ⟨w6, hw6⟩ : ∃ u, u = ext w5 nq := ⟨_, rfl⟩
     rw [← hw6] at hbz x0 x1 ⊢
     clear hw6
     have hs6 := hbz.size
     have hbW6 := hbW5.trans (hbz.mono hs5)
     have hs6b := hbW6.size
     have y0 := cell_later hbW6 b0
     have y1 := cell_later hbW6 b1
     have y2 := cell_later hbW6 b2
     have y3 := cell_later hbW6 b3
     have ho6 := ho5.below hbz
     clear ho5 qS
     go_wp2_with fail
     refine (CN _).mono ?_
     rintro e w7 ⟨rfl, hb7⟩
     have hbW7 := hbW6.trans (hb7.mono hs6b)
     have ho7 := ho6.below hb7
     have hs7 := hbW7.size
     have hN1 := below_alloc w7 (.cells #[.int .i64 N.x, .int .i64 N.y] 207)
     go_wp2_with (at_builtin; (refine wpList_appA rfl _ _ 104 rfl w2.heap.size 176 _ 24 infFeatF Tryz.underlying104 rfl _ Z rfl ((ho7.alloc _).alloc _) _ [⟨N.x, N.y, dirTo P (k + 1)⟩] rfl (by exact arr_block1 (E := eFeat) (n := 1) [⟨N.x, N.y, dirTo P (k + 1)⟩] #[.int .i64 N.x, .int .i64 N.y, .int .i64 (dirTo P (k + 1))] rfl rfl (by decide) (by simp)) (by rw [HL.out]; unfold maxLen; simp <;> omega) (by rw [HL.out]; simp <;> omega) (by simp <;> omega) ?_; intro v' wA hoA hbA htA))
     have hF : Below w2.heap.size w2 wA := ((hbW7.alloc hs7 (.cells #[.int .i64 N.x, .int .i64 N.y] 207)).alloc (by simp <;> omega) (.cells #[.int .i64 N.x, .int .i64 N.y, .int .i64 (dirTo P (k + 1))] 176)).trans hbA
     go_wp2_with fail
     go_roundw
     case rel => exact ⟨k + 1, by omega, by go_num, rfl, by rw [← HT.out]; exact hoA, hF⟩
     case measure => simp [intOf]; omega
   ·have hli2 : ¬ ((k : Int) + 1 < (q : Int) + 1) := by omega
    have HE := hid (dirTo_end (P := P) (k := k) (List.getElem?_eq_none_iff.2 (by rw [HPL.out]; omega)))
    clear hs
    have x_x0 := ext_cell x0
    have x_x1 := ext_cell x1
    refine wp_region_ext (by kernel_rfl) (by kernel_rfl) ?_
    repeat (go_big_quiet_step (fail))
    refine wpQuiet_nil ?_
    intro _ hw'
    obtain ⟨nq, hw''⟩ := hw'
    subst hw''
    replace x0 := x_x0 nq
    replace x1 := x_x1 nq
    clear x_x0 x_x1
    replace hbz := hbz.trans ((ext_below _ nq).mono hbz.size)
    rw [← HE.out]
    clear HE
    obtain ⟨w6, hw6⟩ : ∃ u, u = ext w5 nq := ⟨_, rfl⟩
    rw [← hw6] at hbz x0 x1 ⊢
    clear hw6
    have hs6 := hbz.size
    have hbW6 := hbW5.trans (hbz.mono hs5)
    have hs6b := hbW6.size
    have y0 := cell_later hbW6 b0
    have y1 := cell_later hbW6 b1
    have y2 := cell_later hbW6 b2
    have y3 := cell_later hbW6 b3
    have ho6 := ho5.below hbz
    clear ho5 qS
    go_wp2_with fail
    refine (CN _).mono ?_
    rintro e w7 ⟨rfl, hb7⟩
    have hbW7 := hbW6.trans (hb7.mono hs6b)
    have ho7 := ho6.below hb7
    have hs7 := hbW7.size
    have hN1 := below_alloc w7 (.cells #[.int .i64 N.x, .int .i64 N.y] 207)
    go_wp2_with (at_builtin; (refine wpList_appA rfl _ _ 104 rfl w2.heap.size 176 _ 24 infFeatF Tryz.underlying104 rfl _ Z rfl ((ho7.alloc _).alloc _) _ [⟨N.x, N.y, dirTo P (k + 1)⟩] rfl (by exact arr_block1 (E := eFeat) (n := 1) [⟨N.x, N.y, dirTo P (k + 1)⟩] #[.int .i64 N.x, .int .i64 N.y, .int .i64 (dirTo P (k + 1))] rfl rfl (by decide) (by simp)) (by rw [HL.out]; unfold maxLen; simp <;> omega) (by rw [HL.out]; simp <;> omega) (by simp <;> omega) ?_; intro v' wA hoA hbA htA))
    have hF : Below w2.heap.size w2 wA := ((hbW7.alloc hs7 (.cells #[.int .i64 N.x, .int .i64 N.y] 207)).alloc (by simp <;> omega) (.cells #[.int .i64 N.x, .int .i64 N.y, .int .i64 (dirTo P (k + 1))] 176)).trans hbA
    go_wp2_with fail
    go_roundw
    case rel => exact ⟨k + 1, by omega, by go_num, rfl, by rw [← HT.out]; exact hoA, hF⟩
    case measure => simp [intOf]; omega
  ·have hli : ¬ ((k : Int) < (q : Int) + 1) := by omega
   have HE := hid (show k = q + 1 by omega)
   clear hll
   go_wp2_with fail
   go_ret
   exact ⟨_, rfl, by rw [HE.out, ← HFS.out] at ho; exact ho.mono (Nat.le_trans hlW hl2), hbW.trans ((hb2.trans (hb.mono hl2)).mono hlW)⟩
end Go.Proofs.YtlnoelbeaolikaaGreat
namespace Go.Proofs.YtlnoelbeaolikaaGreat
open Go.RowKit
set_option maxRecDepth 100000 in
set_option maxHeartbeats 4000000 in
theorem l08Stroke_any (p0 o : Nat) (v : Value) (x : XStroke) (bx : DBox) (q : Nat) (w : World) (hp : w.cell? ⟨p0, o, none⟩ = some v) (h : Arr ePoint w v x) (hv : validSt x = true) (hbx : okBox bx) (hbl : boxLe bx) (hq : 1 ≤ q) (hq2 : q ≤ 23) :
  Calls Tryz.prog 96 #[.pointer (some ⟨p0, o, none⟩), .int .i64 (q + 1), vBox bx] w (RetOwn eFeat 176 (featsS x bx q) w) := by
 obtain ⟨va, vc, rfl⟩ := h.isSlice
 have CNr := fun (p : DSpot) (hp : okSp p) w' => l07Normal_any p bx w' hp hbx hbl
 unfold vBox at CNr ⊢
 obtain ⟨W, hW⟩ : ∃ u, u = (w.alloc (.cells #[.int .i64 bx.x1, .int .i64 bx.y1, .int .i64 bx.x2, .int .i64 bx.y2] 158)) := ⟨_, rfl⟩
 have hbW : Below w.heap.size w W := by rw [hW]; exact belowA1 _ _
 have q1 : Box W (w.heap.size) #[.int .i64 bx.x1, .int .i64 bx.y1, .int .i64 bx.x2, .int .i64 bx.y2] 158 := by
  have hq := Box.new w #[.int .i64 bx.x1, .int .i64 bx.y1, .int .i64 bx.x2, .int .i64 bx.y2] 158
  rw [hW]
  exact hq
 obtain ⟨p1, hp1⟩ : ∃ p, p = w.heap.size := ⟨_, rfl⟩
 rw [← hp1] at q1
 have hge1 : w.heap.size ≤ p1 := by omega
 have hlW : w.heap.size ≤ W.heap.size := hbW.size
 have hlp1 : p1 < W.heap.size := q1.lt
 have HP1 := hid hp1
 have HW := hid hW
 clear hW hp1
 have m0 := cell_later hbW hp
 have b0 := q1.cell (j := 0) rfl
 have b1 := q1.cell (j := 1) rfl
 have b2 := q1.cell (j := 2) rfl
 have b3 := q1.cell (j := 3) rfl
 have hAW := h.below hbW
 have CA := l06Resample_any p0 o (.slice va x.length vc) x q W m0 hAW hv hq hq2
 obtain ⟨pB, hpB⟩ : ∃ p, p = p1 := ⟨_, rfl⟩
 go_enter Tryz.func96, Tryz.ntmps96
 go_upto_region 1 with fail
 rw [← HP1.out, ← HW.out]
 rw [← hpB] at b0 b1 b2 b3 ⊢
 clear hpB
 go_wp2_with fail
 refine CA.mono ?_
 rintro e w2 ⟨ua, rfl, ho2, hb2⟩
 have hu2 := ho2.arr
 obtain ⟨gb, goff, ga, gc, hgv, hgn, hgm, hga, hgc⟩ := hu2
 rw [spotsL_len] at hgv hgn hga
 obtain ⟨hga', hgw⟩ := hga (by omega)
 subst hga' hgv
 unfold maxLen at hgm
 have hl2 := hb2.size
 have b0 := cell_later hb2 b0
 have b1 := cell_later hb2 b1
 have b2 := cell_later hb2 b2
 have b3 := cell_later hb2 b3
 have HV := hid hv
 have HOK := hid (fun (k : Nat) (p : DSpot) (h : (spotsL x q (q + 1))[k]? = some p) => spotsL_ok hv hq h)
 obtain ⟨P, hP⟩ : ∃ P, P = spotsL x q (q + 1) := ⟨_, rfl⟩
 have HPL := hid (show P.length = q + 1 by rw [hP]; exact spotsL_len _ _ _)
 have HFS := hid (show featsS x bx q = featsP P bx (q + 1) by rw [hP]; rfl)
 rw [← hP] at HOK hgc
 clear CA hv ho2 hga hP
 go_upto_region 5 with fail
 obtain ⟨w3, hw3⟩ : ∃ u, u = w2.alloc (.cells #[] 176) := ⟨_, rfl⟩
 obtain ⟨pe, hpe⟩ : ∃ p, p = w2.heap.size := ⟨_, rfl⟩
 have hb3 : Below w2.heap.size w2 w3 := by rw [hw3]; exact below_alloc _ _
 have ho3 : Own eFeat 176 w2.heap.size w3 (.slice (some ⟨pe, 0, none⟩) 0 0) (featsP P bx 0) := by rw [hw3, hpe]; exact Own.empty _ _ (Nat.le_refl _)
 rw [← hw3, ← hpe]
 clear hw3 hpe
 go_loopw [8, 9, 10] (fun u d i wr => ∃ k : Nat, k ≤ q + 1 ∧ i = .int .i64 k ∧ d = .int .i64 (dirTo P k) ∧ Own eFeat 176 w2.heap.size wr u (featsP P bx k) ∧ Below w2.heap.size w2 wr) (fun _ _ i _ => q + 1 - (intOf i).toNat)
 case atStart => exact ⟨0, Nat.zero_le _, rfl, rfl, ho3, hb3⟩
 case round =>
  clear ho3
  obtain ⟨w4, rfl⟩ : ∃ u, u = wr := ⟨wr, rfl⟩
  obtain ⟨k, hk, rfl, rfl, ho, hb⟩ := hrel
  have hll := featsP_len P bx k
  by_cases hlt : k < q + 1
  ·have hli : (k : Int) < (q : Int) + 1 := by omega
   obtain ⟨s, hs⟩ : ∃ p, P[k]? = some p := ⟨_, List.getElem?_eq_getElem (by rw [HPL.out]; exact hlt)⟩
   have hcr := hgc.below hb hgw
   obtain ⟨s0, s1⟩ := eSpot_cells hcr hs
   have okS := HOK.out k s hs
   have HT := hid (show featsP P bx k ++ [⟨(normP s bx).x, (normP s bx).y, dirTo P (k + 1)⟩] = featsP P bx (k + 1) by rw [← featK_eq hs]; exact featsP_push P bx k)
   have hdb := dirTo_bd P k
   have CN := fun w' => CNr s okS w'
   have nbd := normP_bd okS hbx hbl
   obtain ⟨Z, hZ⟩ : ∃ Z, Z = featsP P bx k := ⟨_, rfl⟩
   rw [← hZ] at ho hll HT
   obtain ⟨N, hN⟩ : ∃ N, N = normP s bx := ⟨_, rfl⟩
   rw [← hN] at CN HT nbd
   obtain ⟨oa, oc, hu⟩ := ho.isSlice
   rw [hll] at hu
   subst hu
   have HL := hid hll
   have hbs := hb.size
   obtain ⟨o1, o2, o3, o4⟩ := okS
   clear hZ hN hll
   have wr1 : IntKind.i64.wrap ((k : Int) + 1) = (k : Int) + 1 := IntWalk.i64_in _ (by omega)
   have hk0 : (0 : Int) ≤ (k : Int) + 1 := by omega
   have hb0 := Below.refl w4.heap.size w4
   go_upto_region 7 with fail
   go_upto_if 28 with fail
   go_cut [9, 11, 12] from 24 to 61 (fun d _ _ w' => d = .int .i64 (dirTo P (k + 1)) ∧ Below w4.heap.size w4 w')
   case first =>
    have hbz := Below.refl w4.heap.size w4
    by_cases hlt2 : k + 1 < q + 1
    ·have hli2 : (k : Int) + 1 < (q : Int) + 1 := by omega
     obtain ⟨r, hr⟩ : ∃ p, P[k + 1]? = some p := ⟨_, List.getElem?_eq_getElem (by rw [HPL.out]; exact hlt2)⟩
     obtain ⟨r0, r1⟩ := eSpot_cells (hgc.below hb hgw) hr
     have HD := hid (dirTo_eq hs hr)
     obtain ⟨c1, c2, c3, c4⟩ := HOK.out (k + 1) r hr
     obtain ⟨dx, hdx⟩ : ∃ d, r.x - s.x = d := ⟨_, rfl⟩
     obtain ⟨dy, hdy⟩ : ∃ d, r.y - s.y = d := ⟨_, rfl⟩
     have dxb : -4095 ≤ dx ∧ dx ≤ 4095 := by omega
     have dyb : -4095 ≤ dy ∧ dy ≤ 4095 := by omega
     have wr2 : IntKind.i64.wrap (r.x - s.x) = dx := by rw [hdx]; exact IntWalk.i64_in _ (by omega)
     have wr3 : IntKind.i64.wrap (r.y - s.y) = dy := by rw [hdy]; exact IntWalk.i64_in _ (by omega)
     cases he : eqSp r s
     ·have HE := hid (HD.out.trans (if_neg (eqSp_f he)))
      have hne : ¬ (dx = 0 ∧ dy = 0) := fun h => eqSp_f he ⟨by omega, by omega⟩
      rw [hdx, hdy] at HE
      have CD := fun w' => l05Sector_any dx dy w' dxb.1 dxb.2 dyb.1 dyb.2
      rw [← HE.out] at CD
      clear HD hs hr he HE hdx hdy
      by_cases hz : dx = 0
      ·subst hz
       have hz2 : (dy == 0) = false := by rw [beq_eq_false_iff_ne]; intro h2; exact hne ⟨rfl, h2⟩
       clear hne
       go_upto_region 8 with fail
       have x_r0 := ext_cell r0
       have x_r1 := ext_cell r1
       have x_s0 := ext_cell s0
       have x_s1 := ext_cell s1
       refine wp_region_ext (by kernel_rfl) (by kernel_rfl) ?_
       repeat (go_big_quiet_step (fail))
       refine wpQuiet_nil ?_
       intro _ hw'
       obtain ⟨nq, hw''⟩ := hw'
       subst hw''
       replace r0 := x_r0 nq
       replace r1 := x_r1 nq
       replace s0 := x_s0 nq
       replace s1 := x_s1 nq
       clear x_r0 x_r1 x_s0 x_s1
       replace hbz := hbz.trans ((ext_below _ nq).mono hbz.size)
       go_upto_region 9 with fail
       have x_r0 := ext_cell r0
       have x_r1 := ext_cell r1
       have x_s0 := ext_cell s0
       have x_s1 := ext_cell s1
       refine wp_region_ext (by kernel_rfl) (by kernel_rfl) ?_
       repeat (go_big_quiet_step (fail))
       refine wpQuiet_nil ?_
       intro _ hw'
       obtain ⟨nr, hw''⟩ := hw'
       subst hw''
       replace r0 := x_r0 nr
       replace r1 := x_r1 nr
       replace s0 := x_s0 nr
       replace s1 := x_s1 nr
       clear x_r0 x_r1 x_s0 x_s1
       replace hbz := hbz.trans ((ext_below _ nr).mono hbz.size)
       go_upto_region 11 with fail
       go_wp2_with fail
       refine (CD _).mono ?_
       rintro e w' ⟨rfl, rfl⟩
       go_wp2_with fail
       go_meet
       exact ⟨rfl, hbz⟩
      ·have hz2 : (dx == 0) = false := by rw [beq_eq_false_iff_ne]; exact hz
       clear hne hz
       go_upto_region 8 with fail
       have x_r0 := ext_cell r0
       have x_r1 := ext_cell r1
       have x_s0 := ext_cell s0
       have x_s1 := ext_cell s1
       refine wp_region_ext (by kernel_rfl) (by kernel_rfl) ?_
       repeat (go_big_quiet_step (fail))
       refine wpQuiet_nil ?_
       intro _ hw'
       obtain ⟨nq, hw''⟩ := hw'
       subst hw''
       replace r0 := x_r0 nq
       replace r1 := x_r1 nq
       replace s0 := x_s0 nq
       replace s1 := x_s1 nq
       clear x_r0 x_r1 x_s0 x_s1
       replace hbz := hbz.trans ((ext_below _ nq).mono hbz.size)
       go_upto_region 9 with fail
       have x_r0 := ext_cell r0
       have x_r1 := ext_cell r1
       have x_s0 := ext_cell s0
       have x_s1 := ext_cell s1
       refine wp_region_ext (by kernel_rfl) (by kernel_rfl) ?_
       repeat (go_big_quiet_step (fail))
       refine wpQuiet_nil ?_
       intro _ hw'
       obtain ⟨nr, hw''⟩ := hw'
       subst hw''
       replace r0 := x_r0 nr
       replace r1 := x_r1 nr
       replace s0 := x_s0 nr
       replace s1 := x_s1 nr
       clear x_r0 x_r1 x_s0 x_s1
       replace hbz := hbz.trans ((ext_below _ nr).mono hbz.size)
       go_upto_region 11 with fail
       go_wp2_with fail
       refine (CD _).mono ?_
       rintro e w' ⟨rfl, rfl⟩
       go_wp2_with fail
       go_meet
       exact ⟨rfl, hbz⟩
     ·have HE := hid (HD.out.trans (if_pos (eqSp_t he)))
      have hz1 : dx = 0 := by have := (eqSp_t he).1; omega
      have hz2 : dy = 0 := by have := (eqSp_t he).2; omega
      clear HD hs hr he hdx hdy
      subst hz1 hz2
      go_upto_region 8 with fail
      have x_r0 := ext_cell r0
      have x_r1 := ext_cell r1
      have x_s0 := ext_cell s0
      have x_s1 := ext_cell s1
      refine wp_region_ext (by kernel_rfl) (by kernel_rfl) ?_
      repeat (go_big_quiet_step (fail))
      refine wpQuiet_nil ?_
      intro _ hw'
      obtain ⟨nq, hw''⟩ := hw'
      subst hw''
      replace r0 := x_r0 nq
      replace r1 := x_r1 nq
      replace s0 := x_s0 nq
      replace s1 := x_s1 nq
      clear x_r0 x_r1 x_s0 x_s1
      replace hbz := hbz.trans ((ext_below _ nq).mono hbz.size)
      go_upto_region 9 with fail
      have x_r0 := ext_cell r0
      have x_r1 := ext_cell r1
      have x_s0 := ext_cell s0
      have x_s1 := ext_cell s1
      refine wp_region_ext (by kernel_rfl) (by kernel_rfl) ?_
      repeat (go_big_quiet_step (fail))
      refine wpQuiet_nil ?_
      intro _ hw'
      obtain ⟨nr, hw''⟩ := hw'
      subst hw''
      replace r0 := x_r0 nr
      replace r1 := x_r1 nr
      replace s0 := x_s0 nr
      replace s1 := x_s1 nr
      clear x_r0 x_r1 x_s0 x_s1
      replace hbz := hbz.trans ((ext_below _ nr).mono hbz.size)
      go_wp2_with fail
      go_meet
      exact ⟨by rw [HE.out], hbz⟩
    ·have hli2 : ¬ ((k : Int) + 1 < (q : Int) + 1) := by omega
     have HE := hid (dirTo_end (P := P) (k := k) (List.getElem?_eq_none_iff.2 (by rw [HPL.out]; omega)))
     clear hs
     go_wp2_with fail
     go_meet
     exact ⟨by rw [HE.out], hbz⟩
   case rest =>
   obtain ⟨hd, hbz⟩ := hcut
   subst hd
   replace s0 := cell_later hbz s0
   replace s1 := cell_later hbz s1
   clear hs
   obtain ⟨w6, rfl⟩ : ∃ u, u = wc := ⟨_, rfl⟩
   have hs6 := hbz.size
   have hbW6 := hb.trans (hbz.mono hbs)
   have hs6b := hbW6.size
   have y0 := cell_later hbW6 b0
   have y1 := cell_later hbW6 b1
   have y2 := cell_later hbW6 b2
   have y3 := cell_later hbW6 b3
   have ho6 := ho.below hbz
   clear ho
   go_upto_region 12 with fail
   refine wp_region_stgx 6 7 (fun c w' => match c with | 0 => Below w6.heap.size w6 w' | 1 => Below w6.heap.size w6 w' | _ => Below w6.heap.size w6 w') (fun c i v w' => match i with
         | 0 => v = .slice (some ⟨gb, goff, none⟩) (q + 1) gc
         | 1 => v = .int .i64 k
         | 2 => v = .pointer (some ⟨gb, goff + k * 2, none⟩)
         | 3 => v = .agg #[.int .i64 s.x, .int .i64 s.y]
         | 4 => v = .agg #[.int .i64 bx.x1, .int .i64 bx.y1, .int .i64 bx.x2, .int .i64 bx.y2]
         | 5 => (match c with | 0 => v = .agg #[.int .i64 N.x, .int .i64 N.y] | 1 => v = .agg #[.int .i64 N.x, .int .i64 N.y] | _ => True)
         | 6 => (match c with | 0 => True | 1 => NewSp w6.heap.size v w' | _ => NxtSp w6.heap.size N v w')
         | 7 => (match c with | 0 => True | 1 => True | _ => True)
         | _ => True) (by kernel_rfl) (by kernel_rfl) (by kernel_rfl) (by kernel_rfl) (by kernel_rfl) ?_ ?_ ?_ ?_ ?_ ?_ (by decide) ?_
   ·exact (Below.refl _ w6).drew
   ·intro c w w' h hb
    match c, h with
    | 0, h => exact Below.trans (B := w6.heap.size) h (hb.mono (Below.size h))
    | 1, h => exact Below.trans (B := w6.heap.size) h (hb.mono (Below.size h))
    | (k + 2), h => exact (h.trans (hb.mono h.size))
   ·intro c i v w w' h hb
    match i, h with
    | 0, h => exact h
    | 1, h => exact h
    | 2, h => exact h
    | 3, h => exact h
    | 4, h => exact h
    | 5, h =>
     match c, h with
     | 0, h => exact h
     | 1, h => exact h
     | (k + 2), h => exact trivial
    | 6, h =>
     match c, h with
     | 0, h => exact trivial
     | 1, h => exact (h.below hb)
     | (k + 2), h => exact (h.below hb)
    | 7, h =>
     match c, h with
     | 0, h => exact trivial
     | 1, h => exact trivial
     | (k + 2), h => exact trivial
    | (k + 8), h => exact h
   ·refine ⟨?_, ?_, ?_, ?_, ?_, ?_, ?_, ?_, trivial⟩
    ·refine .inr (.inr ⟨fun _ => ?_, fun _ => ?_, can_no (by kernel_rfl)⟩)
     ·intro ρ w' hbw ht hcs hfn hgl hdep G hG
      replace hbw : Below w6.heap.size w6 w' := hbw
      refine ⟨fun _ => ?_, fun h => by cases h⟩
      have s7 : ρ (.tmp 7) = .slice (some ⟨gb, goff, none⟩) (q + 1) gc := ht 7 rfl
      clear ht hdep hgl
      go_simp
      exact hG _ _ (Below.refl _ _) rfl
     ·intro ρ w' hbw ht hcs hfn hgl hdep G hG
      replace hbw : Below w6.heap.size w6 w' := hbw
      refine ⟨fun _ => ?_, fun h => by cases h⟩
      have s7 : ρ (.tmp 7) = .slice (some ⟨gb, goff, none⟩) (q + 1) gc := ht 7 rfl
      clear ht hdep hgl
      go_simp
      exact hG _ _ (Below.refl _ _) rfl
    ·refine .inr (.inr ⟨fun _ => ?_, fun _ => ?_, can_no (by kernel_rfl)⟩)
     ·intro ρ w' hbw ht hcs hfn hgl hdep G hG
      replace hbw : Below w6.heap.size w6 w' := hbw
      refine ⟨fun _ => ?_, fun h => by cases h⟩
      have s10 : ρ (.tmp 10) = .int .i64 k := ht 10 rfl
      clear ht hdep hgl
      go_simp
      exact hG _ _ (Below.refl _ _) rfl
     ·intro ρ w' hbw ht hcs hfn hgl hdep G hG
      replace hbw : Below w6.heap.size w6 w' := hbw
      refine ⟨fun _ => ?_, fun h => by cases h⟩
      have s10 : ρ (.tmp 10) = .int .i64 k := ht 10 rfl
      clear ht hdep hgl
      go_simp
      exact hG _ _ (Below.refl _ _) rfl
    ·refine .inr (.inr ⟨fun _ => ?_, fun _ => ?_, can_no (by kernel_rfl)⟩)
     ·intro ρ w' hbw ht hcs hfn hgl hdep G hG
      replace hbw : Below w6.heap.size w6 w' := hbw
      refine ⟨fun _ => ?_, fun h => by cases h⟩
      have s62 : ρ (.tmp 62) = .slice (some ⟨gb, goff, none⟩) (q + 1) gc := hdep ⟨0, .data⟩ (by simp) rfl 62 rfl
      have s63 : ρ (.tmp 63) = .int .i64 k := hdep ⟨1, .data⟩ (by simp) rfl 63 rfl
      clear ht hdep hgl
      go_simp
      exact hG _ _ (Below.refl _ _) rfl
     ·intro ρ w' hbw ht hcs hfn hgl hdep G hG
      replace hbw : Below w6.heap.size w6 w' := hbw
      refine ⟨fun _ => ?_, fun h => by cases h⟩
      have s62 : ρ (.tmp 62) = .slice (some ⟨gb, goff, none⟩) (q + 1) gc := hdep ⟨0, .data⟩ (by simp) rfl 62 rfl
      have s63 : ρ (.tmp 63) = .int .i64 k := hdep ⟨1, .data⟩ (by simp) rfl 63 rfl
      clear ht hdep hgl
      go_simp
      exact hG _ _ (Below.refl _ _) rfl
    ·refine .inr (.inr ⟨fun _ => ?_, fun _ => ?_, can_no (by kernel_rfl)⟩)
     ·intro ρ w' hbw ht hcs hfn hgl hdep G hG
      replace hbw : Below w6.heap.size w6 w' := hbw
      refine ⟨fun _ => ?_, fun h => by cases h⟩
      have s64 : ρ (.tmp 64) = .pointer (some ⟨gb, goff + k * 2, none⟩) := hdep ⟨2, .data⟩ (by simp) rfl 64 rfl
      have s0 := cell_later hbw s0
      have s1 := cell_later hbw s1
      have y0 := cell_later hbw y0
      have y1 := cell_later hbw y1
      have y2 := cell_later hbw y2
      have y3 := cell_later hbw y3
      clear ht hdep hgl
      go_simp
      exact hG _ _ (Below.refl _ _) rfl
     ·intro ρ w' hbw ht hcs hfn hgl hdep G hG
      replace hbw : Below w6.heap.size w6 w' := hbw
      refine ⟨fun _ => ?_, fun h => by cases h⟩
      have s64 : ρ (.tmp 64) = .pointer (some ⟨gb, goff + k * 2, none⟩) := hdep ⟨2, .data⟩ (by simp) rfl 64 rfl
      have s0 := cell_later hbw s0
      have s1 := cell_later hbw s1
      have y0 := cell_later hbw y0
      have y1 := cell_later hbw y1
      have y2 := cell_later hbw y2
      have y3 := cell_later hbw y3
      clear ht hdep hgl
      go_simp
      exact hG _ _ (Below.refl _ _) rfl
    ·refine .inr (.inr ⟨fun _ => ?_, fun _ => ?_, can_no (by kernel_rfl)⟩)
     ·intro ρ w' hbw ht hcs hfn hgl hdep G hG
      replace hbw : Below w6.heap.size w6 w' := hbw
      refine ⟨fun _ => ?_, fun h => by cases h⟩
      have s5 : ρ (.tmp 5) = .pointer (some ⟨pB, 0, none⟩) := ht 5 rfl
      have s0 := cell_later hbw s0
      have s1 := cell_later hbw s1
      have y0 := cell_later hbw y0
      have y1 := cell_later hbw y1
      have y2 := cell_later hbw y2
      have y3 := cell_later hbw y3
      clear ht hdep hgl
      go_simp
      exact hG _ _ (Below.refl _ _) rfl
     ·intro ρ w' hbw ht hcs hfn hgl hdep G hG
      replace hbw : Below w6.heap.size w6 w' := hbw
      refine ⟨fun _ => ?_, fun h => by cases h⟩
      have s5 : ρ (.tmp 5) = .pointer (some ⟨pB, 0, none⟩) := ht 5 rfl
      have s0 := cell_later hbw s0
      have s1 := cell_later hbw s1
      have y0 := cell_later hbw y0
      have y1 := cell_later hbw y1
      have y2 := cell_later hbw y2
      have y3 := cell_later hbw y3
      clear ht hdep hgl
      go_simp
      exact hG _ _ (Below.refl _ _) rfl
    ·refine .inr (.inr ⟨fun _ => ?_, fun _ => ?_, can_no (by kernel_rfl)⟩)
     ·intro ρ w' hbw ht hcs hfn hgl hdep G hG
      replace hbw : Below w6.heap.size w6 w' := hbw
      refine ⟨fun _ => ?_, fun h => by cases h⟩
      have s65 : ρ (.tmp 65) = .agg #[.int .i64 s.x, .int .i64 s.y] := hdep ⟨3, .data⟩ (by simp) rfl 65 rfl
      have s66 : ρ (.tmp 66) = .agg #[.int .i64 bx.x1, .int .i64 bx.y1, .int .i64 bx.x2, .int .i64 bx.y2] := hdep ⟨4, .data⟩ (by simp) rfl 66 rfl
      clear ht hdep hgl
      go_simp
      exact (CN w').mono fun e w'' ⟨he, hb⟩ => ⟨_, he, hG _ _ hb rfl⟩
     ·intro ρ w' hbw ht hcs hfn hgl hdep G hG
      replace hbw : Below w6.heap.size w6 w' := hbw
      refine ⟨fun _ => ?_, fun h => by cases h⟩
      have s65 : ρ (.tmp 65) = .agg #[.int .i64 s.x, .int .i64 s.y] := hdep ⟨3, .data⟩ (by simp) rfl 65 rfl
      have s66 : ρ (.tmp 66) = .agg #[.int .i64 bx.x1, .int .i64 bx.y1, .int .i64 bx.x2, .int .i64 bx.y2] := hdep ⟨4, .data⟩ (by simp) rfl 66 rfl
      clear ht hdep hgl
      go_simp
      exact (CN w').mono fun e w'' ⟨he, hb⟩ => ⟨_, he, hG _ _ hb rfl⟩
    ·exact .inl rfl
    ·exact .inr (.inl rfl)
   ·intro o ho
    obtain rfl := Option.some.inj ho
    intro ρ w' hbw ht hcs hfn hgl hdep G hG
    replace hbw : Below w6.heap.size w6 w' := hbw
    refine ⟨fun _ => ?_, fun h => by cases h⟩
    clear ht hdep hgl
    go_simp
    refine hG _ _ (hbw.trans ((below_alloc _ _).mono hbw.size)) ⟨_, rfl, Box.new _ _ _, hbw.size⟩ ?_
    intro j u hj hne h
    match j, h with
    | 0, h => exact h
    | 1, h => exact h
    | 2, h => exact h
    | 3, h => exact h
    | 4, h => exact h
    | 5, h => exact h
    | 6, h => exact absurd rfl hne
    | 7, h => exact trivial
    | (k + 8), h => exact h
   ·intro o ho
    obtain rfl := Option.some.inj ho
    intro ρ w' hbw ht hcs hfn hgl hdep G hG
    replace hbw : Below w6.heap.size w6 w' := hbw
    refine ⟨fun _ => ?_, fun h => by cases h⟩
    have d13 := hdep ⟨6, .data⟩ (by simp) rfl 13 rfl
    have d67 := hdep ⟨5, .data⟩ (by simp) rfl 67 rfl
    clear ht hdep hgl
    obtain ⟨pb, s13, hbn, hge⟩ := d13
    have s67 : ρ (.tmp 67) = .agg #[.int .i64 N.x, .int .i64 N.y] := d67
    have f0 := hbn.cell (j := 0) rfl
    have f1 := hbn.cell (j := 1) rfl
    have ff := hbn.free
    go_simp
    refine hG _ _ ((hbw.setCell hge _).setCell hge _) trivial ?_
    intro j u hj hne hru h
    match j, h with
    | 0, h => exact h
    | 1, h => exact h
    | 2, h => exact h
    | 3, h => exact h
    | 4, h => exact h
    | 5, h => exact trivial
    | 6, h => (have e := hru _ 13 rfl rfl; rw [s13] at e; exact ⟨pb, e.symm, (hbn.set 0 _).set 1 _, hge⟩)
    | 7, h => exact trivial
    | (k + 8), h => exact h
   intro xx w7 hF hx
   have HNB := hx 6 (by simp)
   clear hx
   simp only [putAll, Act.put, List.setIfInBounds_toArray, List.set_cons_succ, List.set_cons_zero, Nat.zero_add, Nat.reduceAdd]
   obtain ⟨pb, hxv, hbn, hge⟩ := HNB
   rw [hxv]
   generalize xx 5 = u5 at *
   have n0 := hbn.cell (j := 0) rfl
   have n1 := hbn.cell (j := 1) rfl
   have hbW7 := hbW6.trans (hF.mono hs6b)
   have ho7 := ho6.below hF
   have hs7 := hbW7.size
   clear hxv
   go_wp2_with (at_builtin; (refine wpList_appA rfl _ _ 104 rfl w2.heap.size 176 _ 24 infFeatF Tryz.underlying104 rfl _ Z rfl (ho7.alloc _) _ [⟨N.x, N.y, dirTo P (k + 1)⟩] rfl (by exact arr_block1 (E := eFeat) (n := 1) [⟨N.x, N.y, dirTo P (k + 1)⟩] #[.int .i64 N.x, .int .i64 N.y, .int .i64 (dirTo P (k + 1))] rfl rfl (by decide) (by simp)) (by rw [HL.out]; unfold maxLen; simp <;> omega) (by rw [HL.out]; simp <;> omega) (by simp <;> omega) ?_; intro v' wA hoA hbA htA))
   have hFF : Below w2.heap.size w2 wA := (hbW7.alloc hs7 (.cells #[.int .i64 N.x, .int .i64 N.y, .int .i64 (dirTo P (k + 1))] 176)).trans hbA
   go_wp2_with fail
   go_roundw
   case rel => exact ⟨k + 1, by omega, by go_num, rfl, by rw [← HT.out]; exact hoA, hFF⟩
   case measure => simp [intOf]; omega
  ·have hli : ¬ ((k : Int) < (q : Int) + 1) := by omega
   have HE := hid (show k = q + 1 by omega)
   clear hll
   go_wp2_with fail
   go_ret
   exact ⟨_, rfl, by rw [HE.out, ← HFS.out] at ho; exact ho.mono (Nat.le_trans hlW hl2), hbW.trans ((hb2.trans (hb.mono hl2)).mono hlW)⟩
end Go.Proofs.YtlnoelbeaolikaaGreat
namespace Go.Proofs.YtlnoelbeaolikaaGreat
open Go.RowKit
def boxTo (X : XInk) : Nat → DBox
 | 0 => boxSt ((X[0]?).getD [])
 | k + 1 => joinB (boxTo X k) (boxSt ((X[k]?).getD []))
def boxI (X : XInk) : DBox := boxTo X X.length
theorem boxTo_succ {X : XInk} {k : Nat} {x : XStroke} (h : X[k]? = some x) : boxTo X (k + 1) = joinB (boxTo X k) (boxSt x) := by
 show joinB _ (boxSt ((X[k]?).getD [])) = _
 rw [h]; rfl
theorem joinB_idem (b : DBox) : joinB b b = b := by unfold joinB; simp
theorem boxTo_one (X : XInk) : boxTo X 1 = boxTo X 0 := joinB_idem _
theorem joinB_ok {a b : DBox} (ha : okBox a) (hb : okBox b) (la : boxLe a) (lb : boxLe b) : okBox (joinB a b) ∧ boxLe (joinB a b) := by
 unfold okBox boxLe joinB at *
 simp only
 omega
theorem boxLe_st {x : XStroke} (h : validSt x = true) : boxLe (boxSt x) := by
 have hl := validSt_len h
 cases x with
 | nil => simp at hl
 | cons p t =>
  have : ∀ (t : List DPoint) (b : DBox), boxLe b → boxLe (t.foldl (fun b q => joinB b (ptBox q)) b) := by
   intro t
   induction t with
   | nil => exact fun b h => h
   | cons q t ih => exact fun b h => ih _ (by unfold boxLe joinB ptBox at *; simp only; omega)
  exact this _ _ (by unfold boxLe ptBox; simp)
theorem boxTo_ok {X : XInk} (hv : validInk X = true) (h0 : 0 < X.length) : ∀ k, k ≤ X.length → okBox (boxTo X k) ∧ boxLe (boxTo X k)
 | 0, _ => by
  obtain ⟨x, hx⟩ : ∃ x, X[0]? = some x := ⟨_, List.getElem?_eq_getElem h0⟩
  show okBox (boxSt ((X[0]?).getD [])) ∧ boxLe (boxSt ((X[0]?).getD []))
  rw [hx]
  exact ⟨okBox_st (validInk_st hv hx), boxLe_st (validInk_st hv hx)⟩
 | k + 1, hk => by
  obtain ⟨x, hx⟩ : ∃ x, X[k]? = some x := ⟨_, List.getElem?_eq_getElem (by omega)⟩
  have ih := boxTo_ok hv h0 k (by omega)
  rw [boxTo_succ hx]
  exact joinB_ok ih.1 (okBox_st (validInk_st hv hx)) ih.2 (boxLe_st (validInk_st hv hx))
theorem boxI_ok {X : XInk} (hv : validInk X = true) (h0 : 0 < X.length) : okBox (boxI X) ∧ boxLe (boxI X) := boxTo_ok hv h0 _ (Nat.le_refl _)
def BoxAt (p : Nat) (U : World) (b : DBox) (w : World) : Prop := Box w p #[.int .i64 b.x1, .int .i64 b.y1, .int .i64 b.x2, .int .i64 b.y2] 158 ∧ Below p U w
theorem BoxAt.below {p : Nat} {U : World} {b : DBox} {w w' : World} (h : BoxAt p U b w) (hb : Below w.heap.size w w') : BoxAt p U b w' := ⟨h.1.later hb, h.2.trans (hb.mono (Nat.le_of_lt h.1.lt))⟩
set_option maxRecDepth 100000 in
set_option maxHeartbeats 4000000 in
theorem boxOfInk_any (v : Value) (X : XInk) (w : World) (h : Strokes w v X) (ok : okInk X) (hv : validInk X = true) (h0 : 0 < X.length) :
  Calls Tryz.prog 105 #[.agg #[v]] w (Ret (vBox (boxI X)) w) := by
 have hX16 := validInk_len hv
 obtain ⟨b, off, ao, cap, us, rfl, hnc, hcm, hao, hcl, hul, hin⟩ := h.slice
 obtain ⟨hao', hbw⟩ := hao h0
 subst hao'
 unfold maxLen at hcm
 have HUL := hid hul
 have HIN := hid hin
 have HV := hid hv
 have HB0 := hid (show vBox (boxI X) = .agg #[.int .i64 (boxI X).x1, .int .i64 (boxI X).y1, .int .i64 (boxI X).x2, .int .i64 (boxI X).y2] from rfl)
 clear hul hin hv hao
 rw [HB0.out]
 obtain ⟨W, hW⟩ : ∃ u, u = ((w.alloc (.cells #[.slice (some ⟨b, off, none⟩) X.length cap] 41)).alloc (.cells #[.int .i64 0, .int .i64 0, .int .i64 0, .int .i64 0] 158)) := ⟨_, rfl⟩
 have hbW : Below w.heap.size w W := by rw [hW]; exact belowA2 _ _ _
 have q1 : Box W (w.heap.size) #[.slice (some ⟨b, off, none⟩) X.length cap] 41 := by
  have hq := Box.new w #[.slice (some ⟨b, off, none⟩) X.length cap] 41
  rw [hW]
  exact (hq.alloc _)
 have q2 : Box W (w.heap.size + 1) #[.int .i64 0, .int .i64 0, .int .i64 0, .int .i64 0] 158 := by
  have hq := Box.new (w.alloc (.cells #[.slice (some ⟨b, off, none⟩) X.length cap] 41)) #[.int .i64 0, .int .i64 0, .int .i64 0, .int .i64 0] 158
  simp at hq
  rw [hW]
  exact hq
 obtain ⟨p1, hp1⟩ : ∃ p, p = w.heap.size := ⟨_, rfl⟩
 rw [← hp1] at q1
 have hge1 : w.heap.size ≤ p1 := by omega
 obtain ⟨p2, hp2⟩ : ∃ p, p = w.heap.size + 1 := ⟨_, rfl⟩
 rw [← hp2] at q2
 have hge2 : w.heap.size ≤ p2 := by omega
 have hlW : w.heap.size ≤ W.heap.size := hbW.size
 have hlp1 : p1 < W.heap.size := q1.lt
 have hlp2 : p2 < W.heap.size := q2.lt
 have hne12 : p1 ≠ p2 := by omega
 have HP1 := hid hp1
 have HP2 := hid hp2
 have HW := hid hW
 clear hW hp1 hp2
 have m0 := q1.cell (j := 0) rfl
 have bR := q2
 have hge := hge2
 obtain ⟨pR, hpR⟩ : ∃ p, p = p2 := ⟨_, rfl⟩
 obtain ⟨x0, hx0⟩ : ∃ x, X[0]? = some x := ⟨_, List.getElem?_eq_getElem h0⟩
 obtain ⟨s0, hs0⟩ : ∃ s, us[0]? = some s := ⟨_, List.getElem?_eq_getElem (by rw [HUL.out]; exact h0)⟩
 have d0 := eS1_cells (hcl.below hbW hbw) hs0
 rw [Nat.add_zero] at d0
 have hA0 := (HIN.out 0 s0 x0 hs0 hx0).below hbW
 have C0 := (boxOfStroke_any _ x0 W hA0 (okInk_st ok hx0) (validSt_len (validInk_st HV.out hx0)).1)
 have HB1 := hid (show boxSt x0 = boxTo X 0 by show _ = boxSt ((X[0]?).getD []); rw [hx0]; rfl)
 rw [HB1.out] at C0
 unfold vBox at C0
 have h0i : (0 : Int) < (X.length : Int) := by omega
 go_enter Tryz.func105, Tryz.ntmps105
 go_upto_region 1 with fail
 rw [← HP2.out, ← HP1.out, ← HW.out]
 rw [← hpR] at bR hge ⊢
 clear hpR hs0 hx0
 go_wp2_with fail
 refine C0.mono ?_
 rintro e w2 ⟨rfl, hb2⟩
 have m2 := cell_later hb2 m0
 have bR2 := bR.later hb2
 have hl2 := hb2.size
 have m2a := cell_alloc m2 (.cells #[.int .i64 (boxTo X 0).x1, .int .i64 (boxTo X 0).y1, .int .i64 (boxTo X 0).x2, .int .i64 (boxTo X 0).y2] 158)
 go_upto_region 3 with fail
 clear m2a
 obtain ⟨w3, hw3⟩ : ∃ u, u = w2.alloc (.cells #[.int .i64 (boxTo X 0).x1, .int .i64 (boxTo X 0).y1, .int .i64 (boxTo X 0).x2, .int .i64 (boxTo X 0).y2] 158) := ⟨_, rfl⟩
 obtain ⟨pB, hpB⟩ : ∃ p, p = w2.heap.size := ⟨_, rfl⟩
 rw [← hw3, ← hpB]
 have hb3 : Below w2.heap.size w2 w3 := by rw [hw3]; exact below_alloc _ _
 have hx3 : BoxAt pB w3 (boxTo X 0) w3 := by rw [hw3, hpB]; exact ⟨Box.new _ _ _, Below.refl _ _⟩
 have m3 := cell_later hb3 m2
 have bR3 := bR2.later hb3
 have hpRB : pR < pB := by have := bR2.lt; omega
 have hWB : W.heap.size ≤ pB := by omega
 have hbW3 : Below W.heap.size W w3 := hb2.trans (hb3.mono hl2)
 clear hw3 hpB C0 d0 hA0
 go_loopw [14] (fun i wr => ∃ k : Nat, k ≤ X.length ∧ i = .int .i64 k ∧ BoxAt pB w3 (boxTo X k) wr) (fun i _ => X.length - (intOf i).toNat)
 case atStart => exact ⟨0, Nat.zero_le _, rfl, hx3⟩
 case round =>
  clear hx3
  obtain ⟨w4, rfl⟩ : ∃ u, u = wr := ⟨wr, rfl⟩
  obtain ⟨k, hk, rfl, hbx, hbl⟩ := hrel
  have hb4 : Below W.heap.size W w4 := hbW3.trans (hbl.mono hWB)
  have m4 := cell_later hb4 m0
  have hlt4 := hbx.lt
  obtain ⟨A, hA⟩ : ∃ A, A = boxTo X k := ⟨_, rfl⟩
  rw [← hA] at hbx
  have c0 := hbx.cell (j := 0) rfl
  have c1 := hbx.cell (j := 1) rfl
  have c2 := hbx.cell (j := 2) rfl
  have c3 := hbx.cell (j := 3) rfl
  by_cases hlt : k < X.length
  ·have hli : (k : Int) < (X.length : Int) := by omega
   obtain ⟨x, hx⟩ : ∃ x, X[k]? = some x := ⟨_, List.getElem?_eq_getElem hlt⟩
   obtain ⟨sr, hsv⟩ : ∃ s, us[k]? = some s := ⟨_, List.getElem?_eq_getElem (by rw [HUL.out]; exact hlt)⟩
   have hb4w : Below w.heap.size w w4 := hbW.trans (hb4.mono hlW)
   have d0 := eS1_cells (hcl.below hb4w hbw) hsv
   have hAr := (HIN.out k sr x hsv hx).below hb4w
   have HT := hid (show joinB A (boxSt x) = boxTo X (k + 1) by rw [hA, boxTo_succ hx])
   have okx := okInk_st ok hx
   have h1x := (validSt_len (validInk_st HV.out hx)).1
   go_upto_region 5 with fail
   obtain ⟨w5, hw5⟩ : ∃ u, u = w4.alloc (.cells #[.slice sr.a sr.n sr.c] 112) := ⟨_, rfl⟩
   obtain ⟨pS, hpS⟩ : ∃ p, p = w4.heap.size := ⟨_, rfl⟩
   rw [← hw5, ← hpS]
   have hb5 : Below w4.heap.size w4 w5 := by rw [hw5]; exact below_alloc _ _
   have qS : Box w5 pS #[.slice sr.a sr.n sr.c] 112 := by rw [hw5, hpS]; exact Box.new _ _ _
   have y0 := qS.cell (j := 0) rfl
   have CB := fun w' (hb : Below w5.heap.size w5 w') => boxOfStroke_any _ x w' ((hAr.below hb5).below hb) okx h1x
   clear hw5 hpS d0
   have c0 := cell_later hb5 c0
   have c1 := cell_later hb5 c1
   have c2 := cell_later hb5 c2
   have c3 := cell_later hb5 c3
   obtain ⟨D, hD⟩ : ∃ D, D = boxSt x := ⟨_, rfl⟩
   rw [← hD] at CB HT
   have CJ := fun w' => joinBoxes_any A D w'
   obtain ⟨N, hN⟩ : ∃ N, N = joinB A D := ⟨_, rfl⟩
   rw [← hN] at CJ HT
   unfold vBox at CB CJ
   have bx5 := hbx.later hb5
   have hlt5 := bx5.lt
   have hbl5 := hbl.trans (hb5.mono (Nat.le_of_lt hlt4))
   clear hD hN hA hx hsv
   refine wp_region_stg 3 4 (fun c w' => match c with | 0 => Below w5.heap.size w5 w' | 1 => Below w5.heap.size w5 w' | _ => BoxAt pB w3 N w') (fun c i v w' => match i with
         | 0 => v = .agg #[.int .i64 A.x1, .int .i64 A.y1, .int .i64 A.x2, .int .i64 A.y2]
         | 1 => v = .agg #[.slice sr.a sr.n sr.c]
         | 2 => v = .agg #[.int .i64 D.x1, .int .i64 D.y1, .int .i64 D.x2, .int .i64 D.y2]
         | 3 => (match c with | 0 => True | 1 => v = .agg #[.int .i64 N.x1, .int .i64 N.y1, .int .i64 N.x2, .int .i64 N.y2] | _ => v = .agg #[.int .i64 N.x1, .int .i64 N.y1, .int .i64 N.x2, .int .i64 N.y2])
         | 4 => (match c with | 0 => True | 1 => True | _ => True)
         | _ => True) (by kernel_rfl) (by kernel_rfl) (by kernel_rfl) (by kernel_rfl) (by kernel_rfl) ?_ ?_ ?_ ?_ ?_ ?_ (by decide) ?_
   ·exact (Below.refl _ w5).drew
   ·intro c w w' h hb
    match c, h with
    | 0, h => exact Below.trans (B := w5.heap.size) h (hb.mono (Below.size h))
    | 1, h => exact Below.trans (B := w5.heap.size) h (hb.mono (Below.size h))
    | (k + 2), h => exact (BoxAt.below h hb)
   ·intro c i v w w' h hb
    match i, h with
    | 0, h => exact h
    | 1, h => exact h
    | 2, h => exact h
    | 3, h =>
     match c, h with
     | 0, h => exact trivial
     | 1, h => exact h
     | (k + 2), h => exact h
    | 4, h =>
     match c, h with
     | 0, h => exact trivial
     | 1, h => exact trivial
     | (k + 2), h => exact trivial
    | (k + 5), h => exact h
   ·refine ⟨?_, ?_, ?_, ?_, ?_, trivial⟩
    ·refine .inr (.inr ⟨fun _ => ?_, can_no (by kernel_rfl), can_no (by kernel_rfl)⟩)
     ·intro ρ w' hbw ht hcs hfn hgl hdep G hG
      replace hbw : Below w5.heap.size w5 w' := hbw
      refine ⟨fun _ => ?_, fun h => by cases h⟩
      have s3 : ρ (.tmp 3) = .pointer (some ⟨pB, 0, none⟩) := ht 3 rfl
      have c0 := cell_later hbw c0
      have c1 := cell_later hbw c1
      have c2 := cell_later hbw c2
      have c3 := cell_later hbw c3
      have y0 := cell_later hbw y0
      clear ht hdep hgl
      go_simp
      exact hG _ _ (Below.refl _ _) rfl
    ·refine .inr (.inr ⟨fun _ => ?_, can_no (by kernel_rfl), can_no (by kernel_rfl)⟩)
     ·intro ρ w' hbw ht hcs hfn hgl hdep G hG
      replace hbw : Below w5.heap.size w5 w' := hbw
      refine ⟨fun _ => ?_, fun h => by cases h⟩
      have s5 : ρ (.tmp 5) = .pointer (some ⟨pS, 0, none⟩) := ht 5 rfl
      have c0 := cell_later hbw c0
      have c1 := cell_later hbw c1
      have c2 := cell_later hbw c2
      have c3 := cell_later hbw c3
      have y0 := cell_later hbw y0
      clear ht hdep hgl
      go_simp
      exact hG _ _ (Below.refl _ _) rfl
    ·refine .inr (.inr ⟨fun _ => ?_, can_no (by kernel_rfl), can_no (by kernel_rfl)⟩)
     ·intro ρ w' hbw ht hcs hfn hgl hdep G hG
      replace hbw : Below w5.heap.size w5 w' := hbw
      refine ⟨fun _ => ?_, fun h => by cases h⟩
      have s19 : ρ (.tmp 19) = .agg #[.slice sr.a sr.n sr.c] := hdep ⟨1, .data⟩ (by simp) rfl 19 rfl
      clear ht hdep hgl
      go_simp
      exact (CB w' hbw).mono fun e w'' ⟨he, hb⟩ => ⟨_, he, hG _ _ hb rfl⟩
    ·exact .inl rfl
    ·exact .inr (.inl rfl)
   ·intro o ho
    obtain rfl := Option.some.inj ho
    intro ρ w' hbw ht hcs hfn hgl hdep G hG
    replace hbw : Below w5.heap.size w5 w' := hbw
    refine ⟨fun _ => ?_, fun h => by cases h⟩
    have s18 : ρ (.tmp 18) = .agg #[.int .i64 A.x1, .int .i64 A.y1, .int .i64 A.x2, .int .i64 A.y2] := hdep ⟨0, .data⟩ (by simp) rfl 18 rfl
    have s20 : ρ (.tmp 20) = .agg #[.int .i64 D.x1, .int .i64 D.y1, .int .i64 D.x2, .int .i64 D.y2] := hdep ⟨2, .data⟩ (by simp) rfl 20 rfl
    clear ht hdep hgl
    go_simp
    refine (CJ w').mono fun e w'' ⟨he, hb⟩ => ⟨_, he, hG _ _ (hbw.trans (hb.mono hbw.size)) rfl ?_⟩
    intro j u hj hne h
    match j, h with
    | 0, h => exact h
    | 1, h => exact h
    | 2, h => exact h
    | 3, h => exact absurd rfl hne
    | 4, h => exact trivial
    | (k + 5), h => exact h
   ·intro o ho
    obtain rfl := Option.some.inj ho
    intro ρ w' hbw ht hcs hfn hgl hdep G hG
    replace hbw : Below w5.heap.size w5 w' := hbw
    refine ⟨fun _ => ?_, fun h => by cases h⟩
    have s3 : ρ (.tmp 3) = .pointer (some ⟨pB, 0, none⟩) := ht 3 rfl
    have d21 := hdep ⟨3, .data⟩ (by simp) rfl 21 rfl
    clear ht hdep hgl
    replace d21 : ρ (.tmp 21) = .agg #[.int .i64 N.x1, .int .i64 N.y1, .int .i64 N.x2, .int .i64 N.y2] := d21
    have bxx := bx5.later hbw
    have f0 := bxx.cell (j := 0) rfl
    have f1 := bxx.cell (j := 1) rfl
    have f2 := bxx.cell (j := 2) rfl
    have f3 := bxx.cell (j := 3) rfl
    have ff := bxx.free
    have hx := hid (show BoxAt pB w3 N ((((w'.setCell ⟨pB, 0, none⟩ (.int .i64 N.x1)).setCell ⟨pB, 1, none⟩ (.int .i64 N.y1)).setCell ⟨pB, 2, none⟩ (.int .i64 N.x2)).setCell ⟨pB, 3, none⟩ (.int .i64 N.y2)) from ⟨(((bxx.set 0 _).set 1 _).set 2 _).set 3 _, ((((hbl5.trans (hbw.mono (Nat.le_of_lt hlt5))).setCell (Nat.le_refl _) _).setCell (Nat.le_refl _) _).setCell (Nat.le_refl _) _).setCell (Nat.le_refl _) _⟩)
    go_simp
    refine hG _ _ hx.out trivial ?_
    intro j u hj hne h
    match j, h with
    | 0, h => exact h
    | 1, h => exact h
    | 2, h => exact h
    | 3, h => exact h
    | 4, h => exact trivial
    | (k + 5), h => exact h
   intro xx w6 hF hx
   clear hx
   simp only [putAll, Act.put, List.setIfInBounds_toArray, List.set_cons_succ, List.set_cons_zero, Nat.zero_add, Nat.reduceAdd]
   generalize xx 3 = u9 at *
   go_wp2_with fail
   go_roundw
   case rel => exact ⟨k + 1, by omega, by go_num, by rw [← HT.out]; exact hF⟩
   case measure => simp [intOf]; omega
  ·have hli : ¬ ((k : Int) < (X.length : Int)) := by omega
   have HE := hid (show A = boxI X by rw [hA]; unfold boxI; congr 1; omega)
   have bRr := bR3.below hbl hpRB
   have r0 := bRr.cell (j := 0) rfl
   have r1 := bRr.cell (j := 1) rfl
   have r2 := bRr.cell (j := 2) rfl
   have r3 := bRr.cell (j := 3) rfl
   have rf := bRr.free
   clear hA
   go_wp2_with fail
   refine bodyPost_ret (v := .agg #[.int .i64 A.x1, .int .i64 A.y1, .int .i64 A.x2, .int .i64 A.y2]) (by simp [results, Tryz.results105, go_sem, r0, r1, r2, r3]) rfl (ret_ret (by rw [HE.out]) ?_)
   exact (((((hbW.trans (hb4.mono hlW))).setCell hge _).setCell hge _).setCell hge _).setCell hge _
set_option maxRecDepth 100000 in
set_option maxHeartbeats 4000000 in
theorem l02All_any (p0 o : Nat) (v : Value) (X : XInk) (w : World) (hp : w.cell? ⟨p0, o, none⟩ = some v) (h : Strokes w v X) (ok : okInk X) (hv : validInk X = true) (h0 : 0 < X.length) :
  Calls Tryz.prog 95 #[.pointer (some ⟨p0, o, none⟩)] w (Ret (vBox (boxI X)) w) := by
 have hX16 := validInk_len hv
 obtain ⟨b, off, ao, cap, us, rfl, hnc, hcm, hao, hcl, hul, hin⟩ := h.slice
 obtain ⟨hao', hbw⟩ := hao h0
 subst hao'
 unfold maxLen at hcm
 have HUL := hid hul
 have HIN := hid hin
 have HV := hid hv
 have HB0 := hid (show vBox (boxI X) = .agg #[.int .i64 (boxI X).x1, .int .i64 (boxI X).y1, .int .i64 (boxI X).x2, .int .i64 (boxI X).y2] from rfl)
 clear hul hin hv hao
 rw [HB0.out]
 obtain ⟨W, hW⟩ : ∃ u, u = (w.alloc (.cells #[.int .i64 0, .int .i64 0, .int .i64 0, .int .i64 0] 158)) := ⟨_, rfl⟩
 have hbW : Below w.heap.size w W := by rw [hW]; exact belowA1 _ _
 have q1 : Box W (w.heap.size) #[.int .i64 0, .int .i64 0, .int .i64 0, .int .i64 0] 158 := by
  have hq := Box.new w #[.int .i64 0, .int .i64 0, .int .i64 0, .int .i64 0] 158
  rw [hW]
  exact hq
 obtain ⟨p1, hp1⟩ : ∃ p, p = w.heap.size := ⟨_, rfl⟩
 rw [← hp1] at q1
 have hge1 : w.heap.size ≤ p1 := by omega
 have hlW : w.heap.size ≤ W.heap.size := hbW.size
 have hlp1 : p1 < W.heap.size := q1.lt
 have HP1 := hid hp1
 have HW := hid hW
 clear hW hp1
 have m0 := cell_later hbW hp
 have bR := q1
 have hge := hge1
 obtain ⟨pR, hpR⟩ : ∃ p, p = p1 := ⟨_, rfl⟩
 obtain ⟨x0, hx0⟩ : ∃ x, X[0]? = some x := ⟨_, List.getElem?_eq_getElem h0⟩
 obtain ⟨s0, hs0⟩ : ∃ s, us[0]? = some s := ⟨_, List.getElem?_eq_getElem (by rw [HUL.out]; exact h0)⟩
 have d0 := eS1_cells (hcl.below hbW hbw) hs0
 rw [Nat.add_zero] at d0
 have hA0 := (HIN.out 0 s0 x0 hs0 hx0).below hbW
 have C0 := (l02BoxOf_any b off _ x0 W d0 hA0 (okInk_st ok hx0) (validSt_len (validInk_st HV.out hx0)).1)
 have HB1 := hid (show boxSt x0 = boxTo X 0 by show _ = boxSt ((X[0]?).getD []); rw [hx0]; rfl)
 rw [HB1.out] at C0
 unfold vBox at C0
 have h0i : (0 : Int) < (X.length : Int) := by omega
 go_enter Tryz.func95, Tryz.ntmps95
 go_upto_region 1 with fail
 rw [← HP1.out, ← HW.out]
 rw [← hpR] at bR hge ⊢
 clear hpR hs0 hx0
 go_wp2_with fail
 refine C0.mono ?_
 rintro e w2 ⟨rfl, hb2⟩
 have m2 := cell_later hb2 m0
 have bR2 := bR.later hb2
 have hl2 := hb2.size
 have m2a := cell_alloc m2 (.cells #[.int .i64 (boxTo X 0).x1, .int .i64 (boxTo X 0).y1, .int .i64 (boxTo X 0).x2, .int .i64 (boxTo X 0).y2] 158)
 go_upto_region 3 with fail
 clear m2a
 obtain ⟨w3, hw3⟩ : ∃ u, u = w2.alloc (.cells #[.int .i64 (boxTo X 0).x1, .int .i64 (boxTo X 0).y1, .int .i64 (boxTo X 0).x2, .int .i64 (boxTo X 0).y2] 158) := ⟨_, rfl⟩
 obtain ⟨pB, hpB⟩ : ∃ p, p = w2.heap.size := ⟨_, rfl⟩
 rw [← hw3, ← hpB]
 have hb3 : Below w2.heap.size w2 w3 := by rw [hw3]; exact below_alloc _ _
 have hx3 : BoxAt pB w3 (boxTo X 0) w3 := by rw [hw3, hpB]; exact ⟨Box.new _ _ _, Below.refl _ _⟩
 have m3 := cell_later hb3 m2
 have bR3 := bR2.later hb3
 have hpRB : pR < pB := by have := bR2.lt; omega
 have hWB : W.heap.size ≤ pB := by omega
 have hbW3 : Below W.heap.size W w3 := hb2.trans (hb3.mono hl2)
 clear hw3 hpB C0 d0 hA0
 go_loopw [4] (fun i wr => ∃ k : Nat, k ≤ X.length ∧ i = .int .i64 k ∧ BoxAt pB w3 (boxTo X k) wr) (fun i _ => X.length - (intOf i).toNat)
 case atStart => exact ⟨1, h0, rfl, by rw [boxTo_one]; exact hx3⟩
 case round =>
  clear hx3
  obtain ⟨w4, rfl⟩ : ∃ u, u = wr := ⟨wr, rfl⟩
  obtain ⟨k, hk, rfl, hbx, hbl⟩ := hrel
  have hb4 : Below W.heap.size W w4 := hbW3.trans (hbl.mono hWB)
  have m4 := cell_later hb4 m0
  have hlt4 := hbx.lt
  obtain ⟨A, hA⟩ : ∃ A, A = boxTo X k := ⟨_, rfl⟩
  rw [← hA] at hbx
  have c0 := hbx.cell (j := 0) rfl
  have c1 := hbx.cell (j := 1) rfl
  have c2 := hbx.cell (j := 2) rfl
  have c3 := hbx.cell (j := 3) rfl
  by_cases hlt : k < X.length
  ·have hli : (k : Int) < (X.length : Int) := by omega
   obtain ⟨x, hx⟩ : ∃ x, X[k]? = some x := ⟨_, List.getElem?_eq_getElem hlt⟩
   obtain ⟨sr, hsv⟩ : ∃ s, us[k]? = some s := ⟨_, List.getElem?_eq_getElem (by rw [HUL.out]; exact hlt)⟩
   have hb4w : Below w.heap.size w w4 := hbW.trans (hb4.mono hlW)
   have d0 := eS1_cells (hcl.below hb4w hbw) hsv
   have hAr := (HIN.out k sr x hsv hx).below hb4w
   have HT := hid (show joinB A (boxSt x) = boxTo X (k + 1) by rw [hA, boxTo_succ hx])
   have okx := okInk_st ok hx
   have h1x := (validSt_len (validInk_st HV.out hx)).1
   obtain ⟨w5, hw5⟩ : ∃ u, u = w4 := ⟨_, rfl⟩
   have hb5 : Below w4.heap.size w4 w5 := by rw [hw5]; exact Below.refl _ _
   have y0 := cell_later hb5 d0
   have m5 := cell_later hb5 m4
   have CB := fun w' (hb : Below w5.heap.size w5 w') => l02BoxOf_any b (off + k) _ x w' (cell_later hb y0) ((hAr.below hb5).below hb) okx h1x
   go_upto_region 5 with fail
   rw [← hw5]
   clear hw5 d0
   have c0 := cell_later hb5 c0
   have c1 := cell_later hb5 c1
   have c2 := cell_later hb5 c2
   have c3 := cell_later hb5 c3
   obtain ⟨D, hD⟩ : ∃ D, D = boxSt x := ⟨_, rfl⟩
   rw [← hD] at CB HT
   have CJ := fun w' => l02Join_any A D w'
   obtain ⟨N, hN⟩ : ∃ N, N = joinB A D := ⟨_, rfl⟩
   rw [← hN] at CJ HT
   unfold vBox at CB CJ
   have bx5 := hbx.later hb5
   have hlt5 := bx5.lt
   have hbl5 := hbl.trans (hb5.mono (Nat.le_of_lt hlt4))
   clear hD hN hA hx hsv
   refine wp_region_stg 8 9 (fun c w' => match c with | 0 => Below w5.heap.size w5 w' | 1 => Below w5.heap.size w5 w' | _ => BoxAt pB w3 N w') (fun c i v w' => match i with
         | 0 => v = .agg #[.int .i64 A.x1, .int .i64 A.y1, .int .i64 A.x2, .int .i64 A.y2]
         | 1 => v = .pointer (some ⟨p0, o, none⟩)
         | 2 => v = .pointer (some ⟨p0, o, none⟩)
         | 3 => v = .pointer (some ⟨p0, o, none⟩)
         | 4 => v = .slice (some ⟨b, off, none⟩) X.length cap
         | 5 => v = .int .i64 k
         | 6 => v = .pointer (some ⟨b, off + k, none⟩)
         | 7 => v = .agg #[.int .i64 D.x1, .int .i64 D.y1, .int .i64 D.x2, .int .i64 D.y2]
         | 8 => (match c with | 0 => True | 1 => v = .agg #[.int .i64 N.x1, .int .i64 N.y1, .int .i64 N.x2, .int .i64 N.y2] | _ => v = .agg #[.int .i64 N.x1, .int .i64 N.y1, .int .i64 N.x2, .int .i64 N.y2])
         | 9 => (match c with | 0 => True | 1 => True | _ => True)
         | _ => True) (by kernel_rfl) (by kernel_rfl) (by kernel_rfl) (by kernel_rfl) (by kernel_rfl) ?_ ?_ ?_ ?_ ?_ ?_ (by decide) ?_
   ·exact (Below.refl _ w5).drew
   ·intro c w w' h hb
    match c, h with
    | 0, h => exact Below.trans (B := w5.heap.size) h (hb.mono (Below.size h))
    | 1, h => exact Below.trans (B := w5.heap.size) h (hb.mono (Below.size h))
    | (k + 2), h => exact (BoxAt.below h hb)
   ·intro c i v w w' h hb
    match i, h with
    | 0, h => exact h
    | 1, h => exact h
    | 2, h => exact h
    | 3, h => exact h
    | 4, h => exact h
    | 5, h => exact h
    | 6, h => exact h
    | 7, h => exact h
    | 8, h =>
     match c, h with
     | 0, h => exact trivial
     | 1, h => exact h
     | (k + 2), h => exact h
    | 9, h =>
     match c, h with
     | 0, h => exact trivial
     | 1, h => exact trivial
     | (k + 2), h => exact trivial
    | (k + 10), h => exact h
   ·refine ⟨?_, ?_, ?_, ?_, ?_, ?_, ?_, ?_, ?_, ?_, trivial⟩
    ·refine .inr (.inr ⟨fun _ => ?_, can_no (by kernel_rfl), can_no (by kernel_rfl)⟩)
     ·intro ρ w' hbw ht hcs hfn hgl hdep G hG
      replace hbw : Below w5.heap.size w5 w' := hbw
      refine ⟨fun _ => ?_, fun h => by cases h⟩
      have s3 : ρ (.tmp 3) = .pointer (some ⟨pB, 0, none⟩) := ht 3 rfl
      have c0 := cell_later hbw c0
      have c1 := cell_later hbw c1
      have c2 := cell_later hbw c2
      have c3 := cell_later hbw c3
      have y0 := cell_later hbw y0
      have m5 := cell_later hbw m5
      clear ht hdep hgl
      go_simp
      exact hG _ _ (Below.refl _ _) rfl
    ·refine .inr (.inr ⟨fun _ => ?_, can_no (by kernel_rfl), can_no (by kernel_rfl)⟩)
     ·intro ρ w' hbw ht hcs hfn hgl hdep G hG
      replace hbw : Below w5.heap.size w5 w' := hbw
      refine ⟨fun _ => ?_, fun h => by cases h⟩
      have s0 : ρ (.tmp 0) = .pointer (some ⟨p0, o, none⟩) := ht 0 rfl
      clear ht hdep hgl
      go_simp
      exact hG _ _ (Below.refl _ _) rfl
    ·refine .inr (.inr ⟨fun _ => ?_, can_no (by kernel_rfl), can_no (by kernel_rfl)⟩)
     ·intro ρ w' hbw ht hcs hfn hgl hdep G hG
      replace hbw : Below w5.heap.size w5 w' := hbw
      refine ⟨fun _ => ?_, fun h => by cases h⟩
      have s21 : ρ (.tmp 21) = .pointer (some ⟨p0, o, none⟩) := hdep ⟨1, .data⟩ (by simp) rfl 21 rfl
      clear ht hdep hgl
      go_simp
      exact hG _ _ (Below.refl _ _) rfl
    ·refine .inr (.inr ⟨fun _ => ?_, can_no (by kernel_rfl), can_no (by kernel_rfl)⟩)
     ·intro ρ w' hbw ht hcs hfn hgl hdep G hG
      replace hbw : Below w5.heap.size w5 w' := hbw
      refine ⟨fun _ => ?_, fun h => by cases h⟩
      have s22 : ρ (.tmp 22) = .pointer (some ⟨p0, o, none⟩) := hdep ⟨2, .data⟩ (by simp) rfl 22 rfl
      clear ht hdep hgl
      go_simp
      exact hG _ _ (Below.refl _ _) rfl
    ·refine .inr (.inr ⟨fun _ => ?_, can_no (by kernel_rfl), can_no (by kernel_rfl)⟩)
     ·intro ρ w' hbw ht hcs hfn hgl hdep G hG
      replace hbw : Below w5.heap.size w5 w' := hbw
      refine ⟨fun _ => ?_, fun h => by cases h⟩
      have s23 : ρ (.tmp 23) = .pointer (some ⟨p0, o, none⟩) := hdep ⟨3, .data⟩ (by simp) rfl 23 rfl
      have c0 := cell_later hbw c0
      have c1 := cell_later hbw c1
      have c2 := cell_later hbw c2
      have c3 := cell_later hbw c3
      have y0 := cell_later hbw y0
      have m5 := cell_later hbw m5
      clear ht hdep hgl
      go_simp
      exact hG _ _ (Below.refl _ _) rfl
    ·refine .inr (.inr ⟨fun _ => ?_, can_no (by kernel_rfl), can_no (by kernel_rfl)⟩)
     ·intro ρ w' hbw ht hcs hfn hgl hdep G hG
      replace hbw : Below w5.heap.size w5 w' := hbw
      refine ⟨fun _ => ?_, fun h => by cases h⟩
      have s4 : ρ (.tmp 4) = .int .i64 k := ht 4 rfl
      clear ht hdep hgl
      go_simp
      exact hG _ _ (Below.refl _ _) rfl
    ·refine .inr (.inr ⟨fun _ => ?_, can_no (by kernel_rfl), can_no (by kernel_rfl)⟩)
     ·intro ρ w' hbw ht hcs hfn hgl hdep G hG
      replace hbw : Below w5.heap.size w5 w' := hbw
      refine ⟨fun _ => ?_, fun h => by cases h⟩
      have s24 : ρ (.tmp 24) = .slice (some ⟨b, off, none⟩) X.length cap := hdep ⟨4, .data⟩ (by simp) rfl 24 rfl
      have s25 : ρ (.tmp 25) = .int .i64 k := hdep ⟨5, .data⟩ (by simp) rfl 25 rfl
      clear ht hdep hgl
      go_simp
      exact hG _ _ (Below.refl _ _) rfl
    ·refine .inr (.inr ⟨fun _ => ?_, can_no (by kernel_rfl), can_no (by kernel_rfl)⟩)
     ·intro ρ w' hbw ht hcs hfn hgl hdep G hG
      replace hbw : Below w5.heap.size w5 w' := hbw
      refine ⟨fun _ => ?_, fun h => by cases h⟩
      have s26 : ρ (.tmp 26) = .pointer (some ⟨b, off + k, none⟩) := hdep ⟨6, .data⟩ (by simp) rfl 26 rfl
      clear ht hdep hgl
      go_simp
      exact (CB w' hbw).mono fun e w'' ⟨he, hb⟩ => ⟨_, he, hG _ _ hb rfl⟩
    ·exact .inl rfl
    ·exact .inr (.inl rfl)
   ·intro o ho
    obtain rfl := Option.some.inj ho
    intro ρ w' hbw ht hcs hfn hgl hdep G hG
    replace hbw : Below w5.heap.size w5 w' := hbw
    refine ⟨fun _ => ?_, fun h => by cases h⟩
    have s20 : ρ (.tmp 20) = .agg #[.int .i64 A.x1, .int .i64 A.y1, .int .i64 A.x2, .int .i64 A.y2] := hdep ⟨0, .data⟩ (by simp) rfl 20 rfl
    have s27 : ρ (.tmp 27) = .agg #[.int .i64 D.x1, .int .i64 D.y1, .int .i64 D.x2, .int .i64 D.y2] := hdep ⟨7, .data⟩ (by simp) rfl 27 rfl
    clear ht hdep hgl
    go_simp
    refine (CJ w').mono fun e w'' ⟨he, hb⟩ => ⟨_, he, hG _ _ (hbw.trans (hb.mono hbw.size)) rfl ?_⟩
    intro j u hj hne h
    match j, h with
    | 0, h => exact h
    | 1, h => exact h
    | 2, h => exact h
    | 3, h => exact h
    | 4, h => exact h
    | 5, h => exact h
    | 6, h => exact h
    | 7, h => exact h
    | 8, h => exact absurd rfl hne
    | 9, h => exact trivial
    | (k + 10), h => exact h
   ·intro o ho
    obtain rfl := Option.some.inj ho
    intro ρ w' hbw ht hcs hfn hgl hdep G hG
    replace hbw : Below w5.heap.size w5 w' := hbw
    refine ⟨fun _ => ?_, fun h => by cases h⟩
    have s3 : ρ (.tmp 3) = .pointer (some ⟨pB, 0, none⟩) := ht 3 rfl
    have d28 := hdep ⟨8, .data⟩ (by simp) rfl 28 rfl
    clear ht hdep hgl
    replace d28 : ρ (.tmp 28) = .agg #[.int .i64 N.x1, .int .i64 N.y1, .int .i64 N.x2, .int .i64 N.y2] := d28
    have bxx := bx5.later hbw
    have f0 := bxx.cell (j := 0) rfl
    have f1 := bxx.cell (j := 1) rfl
    have f2 := bxx.cell (j := 2) rfl
    have f3 := bxx.cell (j := 3) rfl
    have ff := bxx.free
    have hx := hid (show BoxAt pB w3 N ((((w'.setCell ⟨pB, 0, none⟩ (.int .i64 N.x1)).setCell ⟨pB, 1, none⟩ (.int .i64 N.y1)).setCell ⟨pB, 2, none⟩ (.int .i64 N.x2)).setCell ⟨pB, 3, none⟩ (.int .i64 N.y2)) from ⟨(((bxx.set 0 _).set 1 _).set 2 _).set 3 _, ((((hbl5.trans (hbw.mono (Nat.le_of_lt hlt5))).setCell (Nat.le_refl _) _).setCell (Nat.le_refl _) _).setCell (Nat.le_refl _) _).setCell (Nat.le_refl _) _⟩)
    go_simp
    refine hG _ _ hx.out trivial ?_
    intro j u hj hne h
    match j, h with
    | 0, h => exact h
    | 1, h => exact h
    | 2, h => exact h
    | 3, h => exact h
    | 4, h => exact h
    | 5, h => exact h
    | 6, h => exact h
    | 7, h => exact h
    | 8, h => exact h
    | 9, h => exact trivial
    | (k + 10), h => exact h
   intro xx w6 hF hx
   clear hx
   simp only [putAll, Act.put, List.setIfInBounds_toArray, List.set_cons_succ, List.set_cons_zero, Nat.zero_add, Nat.reduceAdd]
   generalize xx 8 = u9 at *
   go_wp2_with fail
   go_roundw
   case rel => exact ⟨k + 1, by omega, by go_num, by rw [← HT.out]; exact hF⟩
   case measure => simp [intOf]; omega
  ·have hli : ¬ ((k : Int) < (X.length : Int)) := by omega
   have HE := hid (show A = boxI X by rw [hA]; unfold boxI; congr 1; omega)
   have bRr := bR3.below hbl hpRB
   have r0 := bRr.cell (j := 0) rfl
   have r1 := bRr.cell (j := 1) rfl
   have r2 := bRr.cell (j := 2) rfl
   have r3 := bRr.cell (j := 3) rfl
   have rf := bRr.free
   clear hA
   go_wp2_with fail
   refine bodyPost_ret (v := .agg #[.int .i64 A.x1, .int .i64 A.y1, .int .i64 A.x2, .int .i64 A.y2]) (by simp [results, Tryz.results95, go_sem, r0, r1, r2, r3]) rfl (ret_ret (by rw [HE.out]) ?_)
   exact (((((hbW.trans (hb4.mono hlW))).setCell hge _).setCell hge _).setCell hge _).setCell hge _
end Go.Proofs.YtlnoelbeaolikaaGreat
