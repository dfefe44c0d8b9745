/- slices.pdqsortOrdered and slices.Sort at int64, of few elements that all differ. -/
import Derived.Test.YtdadmphmpojjhaaSrtTopPl
import Derived.Test.YtdadmphmpojjhaaSrtPar
import Derived.Test.YtdadmphmpojjhaaSrtPiv
import Derived.Test.YtdadmphmpojjhaaSrtBrk
namespace Go.Proofs.Ytdadmphmpojjhaa
open Go.RowKit

set_option maxRecDepth 100000 in
set_option maxHeartbeats 16000000 in
theorem pdqI_any (g o cap : Nat) : ∀ (n a b : Nat) (d : List Int) (w : World) (lim : Int), b - a ≤ n → HoldI w g o d → a ≤ b → b ≤ d.length → d.length ≤ 1000000 → b - a ≤ 16 → d.Nodup → LBo a b d → (b : Int) - (a : Int) - 11 ≤ lim → lim ≤ 100 →
    Calls Try.prog 45 #[.slice (some ⟨g, o, none⟩) d.length cap, .int .i64 a, .int .i64 b, .int .i64 lim] w (SrtPost g o a b d w) := by
  intro n
  induction n using Nat.strongRecOn with
  | _ n ih =>
  intro a b d w lim hn h hab hb hd hs hnd hlb hl1 hl2
  have hS0 : PdqSt g o a b d w a b d w := ⟨Nat.le_refl _, hab, Nat.le_refl _, h, POn.refl _ _ _, Chg.refl _ _ _, FrameO.start _ _ _, hlb⟩
  have HS0 := hid hS0
  have HND := hid hnd
  have IH := hid ih
  clear h hlb hnd hS0 ih
  go_enter Try.func45, Try.ntmps45
  go_wp2_with fail
  go_loopw [1, 2, 3, 8, 9] (fun va vb vl v8 v9 wr => ∃ (x y : Nat) (l : Int) (wb wp : Bool) (dk : List Int), va = .int .i64 x ∧ vb = .int .i64 y ∧ vl = .int .i64 l ∧ v8 = .bool wb ∧ v9 = .bool wp ∧ PdqSt g o a b d w x y dk wr ∧ y - x ≤ b - a ∧ (y : Int) - (x : Int) - 11 + (if wb = true then 0 else 1) ≤ l ∧ l ≤ 100) (fun va vb _ _ _ _ => (intOf vb).toNat - (intOf va).toNat)
  case atStart => exact ⟨a, b, lim, true, true, d, rfl, rfl, rfl, rfl, rfl, HS0.out, Nat.le_refl _, by simp; omega, hl2⟩
  case round =>
    clear HS0
    obtain ⟨x, y, l, wb, wp, dk, rfl, rfl, rfl, rfl, rfl, hS, hyx, hlw, hl9⟩ := hrel
    have hax := hS.ax
    have hxy := hS.xy
    have hyb := hS.yb
    have hdl := hS.pon.len
    obtain ⟨L, hL⟩ : ∃ L, L = y - x := ⟨_, rfl⟩
    have hLi : (y : Int) - (x : Int) = (L : Int) := by omega
    have hL16 : L ≤ 16 := by omega
    have hxL : x + L ≤ y := by omega
    have hxL2 : y ≤ x + L := by omega
    have hylen : y ≤ dk.length := by omega
    have HDL := hid hdl
    by_cases h12 : L ≤ 12
    · have h12i : (L : Int) ≤ 12 := by omega
      have CI := insertionI_any g o cap x y dk wr hS.hold hxy hylen (by omega)
      rw [hdl] at CI
      have HS := hid hS
      clear hS hL hdl hlw
      go_wp2_with fail
      refine CI.mono ?_
      rintro e w2 ⟨rfl, d2, hH2, hP2, hS2, hF2⟩
      have hT := HS.out.turn hH2 hP2 hF2
      have HT := hid (show SrtPost g o a b d w (.returned (.tuple #[])) w2 from ⟨rfl, d2, hT.hold, hT.pon, hT.frm.done hS2, hT.fr⟩)
      clear hH2 hP2 hS2 hF2 hT CI
      go_wp2_with fail
      (try simp only [Exit.inBlock, Exit.then])
      refine bodyPost_ret (results_none rfl _ _ _) rfl ?_
      exact HT.out
    have h12i : ¬ ((L : Int) ≤ 12) := by omega
    have hl0 : (l == 0) = false := by
      rw [beq_eq_false_iff_ne]
      have : (0 : Int) ≤ (if wb = true then 0 else 1) := by split <;> omega
      omega
    have hl10 : (L : Int) - 11 ≤ l := by
      have : (0 : Int) ≤ (if wb = true then 0 else 1) := by split <;> omega
      omega
    have hlwb : wb = false → (L : Int) - 11 + 1 ≤ l := fun e => by rw [e] at hlw; simp at hlw; omega
    have hLp : x + 13 ≤ y := by omega
    have HS := hid hS
    have HLWB := hid hlwb
    clear hS hL hdl hlw hlwb
    go_upto_if 35 with fail
    all_goals first | (exfalso; omega) | skip
    go_cut [3] from 19 to 133 (fun v wx => ∃ (l' : Int) (d2 : List Int), v = .int .i64 l' ∧ PdqSt g o a b d w x y d2 wx ∧ (L : Int) - 11 ≤ l' ∧ l' ≤ 100)
    case first =>
      cases wb
      · have CB := breakI_any g o cap x y dk wr HS.out.hold hLp hylen (by have := HDL.out; omega) (by omega)
        rw [HDL.out] at CB
        have h9 := HLWB.out rfl
        go_wp2_with fail
        refine CB.mono ?_
        rintro e w2 ⟨rfl, d2, hH2, hP2, hF2⟩
        have HT := hid (HS.out.turn hH2 hP2 hF2)
        clear hH2 hP2 hF2 CB
        go_wp2_with fail
        go_meet
        exact ⟨l - 1, d2, rfl, HT.out, by omega, by omega⟩
      · go_wp2_with fail
        go_meet
        exact ⟨l, dk, rfl, HS.out, hl10, hl9⟩
    case rest =>
    clear HS HLWB HDL hl0 hl10 hl9
    obtain ⟨l', d2, hv, hS, hk10, hk9⟩ := hcut
    subst hv
    have hdl2 := hS.pon.len
    have CP := pivotI_any g o cap x y d2 wc hS.hold (by omega) (by omega) (by omega) (by omega)
    rw [hdl2] at CP
    have HS := hid hS
    clear hS hdl2 hylen
    go_wp2_with fail
    refine CP.mono ?_
    rintro e w3 ⟨p, hint, rfl, hp1, hp2, hh, hH3, hF3⟩
    have HS3 := hid (HS.out.turn hH3 (POn.refl _ _ _) hF3)
    clear HS hH3 hF3 CP
    go_upto_if 50 with fail
    go_cut [11, 12] from 19 to 133 (fun v11 v12 wx => ∃ (p' : Nat) (h' : Int) (d3 : List Int), v11 = .int .i64 p' ∧ v12 = .int .i64 h' ∧ x ≤ p' ∧ p' < y ∧ PdqSt g o a b d w x y d3 wx)
    case first =>
      rcases hh with rfl | rfl | rfl
      · go_wp2_with fail
        go_meet
        exact ⟨p, 0, d2, rfl, rfl, hp1, hp2, HS3.out⟩
      · go_wp2_with fail
        go_meet
        exact ⟨p, 1, d2, rfl, rfl, hp1, hp2, HS3.out⟩
      · have hdl3 := HS3.out.pon.len
        have CR := reverseI_any g o cap x y d2 w3 HS3.out.hold (by omega) (by omega) (by omega)
        rw [hdl3] at CR
        clear hdl3
        go_wp2_with fail
        refine CR.mono ?_
        rintro e w4 ⟨rfl, d4, hH4, hP4, hF4⟩
        have HT := hid (HS3.out.turn hH4 hP4 hF4)
        clear hH4 hP4 hF4 CR
        go_wp2_with fail
        go_meet
        exact ⟨y - 1 - (p - x), 1, d4, by congr 1; omega, rfl, by omega, by omega, HT.out⟩
    case rest =>
    clear HS3
    obtain ⟨p', h', d3, hv1, hv2, hq1, hq2, hS⟩ := hcut
    subst hv1 hv2
    have HS := hid hS
    clear hS
    go_upto_region 15 with fail
    go_cut [68] from 19 to 133 (fun v wx => (∃ c : Bool, v = .bool c) ∧ wx = wc)
    case first =>
      cases wb <;> cases wp
      all_goals
        go_wp2_with fail
        go_meet
        exact ⟨⟨_, rfl⟩, rfl⟩
    case rest =>
    obtain ⟨⟨c, hv⟩, hwc⟩ := hcut
    subst hv hwc
    go_upto_if 68 with fail
    go_cut [10] from 19 to 133 (fun v wx => v = .int .i64 L ∧ PdqSt g o a b d w x y d3 wx)
    case first =>
      cases c
      · go_wp2_with fail
        go_meet
        exact ⟨rfl, HS.out⟩
      · have hdl3 := HS.out.pon.len
        have CR := partialI_any g o cap x y d3 _ HS.out.hold (by omega) (by omega) (by omega) (by omega)
        rw [hdl3] at CR
        clear hdl3
        go_wp2_with fail
        refine CR.mono ?_
        rintro e w5 ⟨c5, rfl, hc5, hH5, hF5⟩
        have HT := hid (HS.out.turn hH5 (POn.refl _ _ _) hF5)
        have HC5 := hid hc5
        clear hH5 hF5 CR hc5
        cases c5
        · go_wp2_with fail
          go_meet
          exact ⟨rfl, HT.out⟩
        · have HR := hid (show SrtPost g o a b d w (.returned (.tuple #[])) w5 from ⟨rfl, d3, HT.out.hold, HT.out.pon, HT.out.frm.done (HC5.out rfl), HT.out.fr⟩)
          go_wp2_with fail
          (try simp only [Exit.inBlock, Exit.then])
          refine bodyPost_ret (results_none rfl _ _ _) rfl ?_
          exact HR.out
    case rest =>
    clear HS
    obtain ⟨hv, hS⟩ := hcut
    subst hv
    have HS := hid hS
    have hdl3 := hS.pon.len
    go_upto_region 17 with fail
    go_cut [87] from 19 to 133 (fun v wx => v = .bool false ∧ ∃ n, wx = wc.drewN n)
    case first =>
      by_cases hx0 : 0 < x
      · have c0 := hS.hold.cell (x - 1) (by omega)
        have c1 := hS.hold.cell p' (by omega)
        have hlt := nodup_lt (hS.pon.nodup HND.out) (i := x - 1) (j := p') (by omega) (by omega) (by omega) (hS.lb hx0 p' hq1 hq2)
        obtain ⟨u, hu⟩ : ∃ z, z = gI d3 (x - 1) := ⟨_, rfl⟩
        obtain ⟨v, hv⟩ : ∃ z, z = gI d3 p' := ⟨_, rfl⟩
        rw [← hu] at c0 hlt
        rw [← hv] at c1 hlt
        have hw : IntKind.i64.wrap ((x : Int) - 1) = ((x - 1 : Nat) : Int) := by rw [IntWalk.i64_in _ (by omega)]; omega
        have hx0i : (0 : Int) < (x : Int) := by omega
        have lx1 : x - 1 < d.length := by omega
        have lp1 : p' < d.length := by omega
        clear hS hdl3 hu hv
        go_wp2_with fail
        go_quiet (first | (go_at_call 65; refine Calls.quiet_of_same ((lessI_any _ _ _).mono fun _ _ h => ⟨h.1, h.2.symm⟩)))
        go_wp2_with fail
        go_meet
        exact ⟨by simp, _, rfl⟩
      · have hx0i : decide ((0 : Int) < (x : Int)) = false := by simp; omega
        clear hS hdl3
        go_wp2_with fail
        go_quiet (first | (go_at_call 65; refine Calls.quiet_of_same ((lessI_any _ _ _).mono fun _ _ h => ⟨h.1, h.2.symm⟩)))
        go_wp2_with fail
        go_meet
        exact ⟨rfl, _, rfl⟩
    case rest =>
    clear hS
    obtain ⟨hv, nq, hwc⟩ := hcut
    subst hv hwc
    have HS2 := hid (HS.out.drewN nq)
    have CQ := partitionI_any g o cap x y p' d3 _ HS2.out.hold hq1 hq2 (by omega) (by omega)
    rw [hdl3] at CQ
    have HD3 := hid hdl3
    clear HS hdl3
    go_wp2_with fail
    refine CQ.mono ?_
    rintro e w6 ⟨m, c6, d6, rfl, hm1, hm2, hH6, hP6, hPart, hF6⟩
    have HT := hid (HS2.out.turn hH6 hP6 hF6)
    have HPT := hid hPart
    clear hH6 hP6 hPart hF6 CQ
    have hdl6 := HT.out.pon.len
    have hnd6 := HT.out.pon.nodup HND.out
    by_cases hlr : m - x < y - m
    · have CR := IH.out (m - x) (by omega) x m d6 w6 l' (Nat.le_refl _) HT.out.hold hm1 (by omega) (by omega) (by omega) hnd6 (HT.out.lb.short (by omega)) (by omega) hk9
      rw [hdl6] at CR
      have hlri : (m : Int) - (x : Int) < (y : Int) - (m : Int) := by omega
      clear hdl6 hnd6
      go_wp2_with fail
      refine CR.mono ?_
      rintro e w7 ⟨rfl, d7, hH7, hP7, hS7, hF7⟩
      have HT7 := hid (show PdqSt g o a b d w (m + 1) y d7 w7 from
        ⟨by omega, by omega, hyb, hH7, HT.out.pon.trans (hP7.wide hax (by omega)), HT.out.fr.trans hF7, (HT.out.frm.pon (hP7.wide (Nat.le_refl _) (by omega)) hax hyb).left (HPT.out.ponL hP7) hS7 hm1 hm2, LBo.part (HPT.out.ponL hP7)⟩)
      clear hH7 hP7 hS7 hF7 CR
      go_wp2_with fail
      go_roundw
      case rel => exact ⟨m + 1, y, l', _, c6, d7, by go_num, rfl, rfl, rfl, rfl, HT7.out, by omega, by split <;> omega, hk9⟩
      case measure => simp [intOf]; omega
    · have CR := IH.out (y - (m + 1)) (by omega) (m + 1) y d6 w6 l' (Nat.le_refl _) HT.out.hold (by omega) (by omega) (by omega) (by omega) hnd6 (LBo.part HPT.out) (by omega) hk9
      rw [hdl6, show ((m + 1 : Nat) : Int) = (m : Int) + 1 by omega] at CR
      have hlri : ¬ ((m : Int) - (x : Int) < (y : Int) - (m : Int)) := by omega
      clear hdl6 hnd6
      go_wp2_with fail
      refine CR.mono ?_
      rintro e w7 ⟨rfl, d7, hH7, hP7, hS7, hF7⟩
      have HT7 := hid (show PdqSt g o a b d w x m d7 w7 from
        ⟨hax, hm1, by omega, hH7, HT.out.pon.trans (hP7.wide (by omega) hyb), HT.out.fr.trans hF7, (HT.out.frm.pon (hP7.wide (by omega) (Nat.le_refl _)) hax hyb).right (HPT.out.ponR hP7) hS7 hm1 hm2, (HT.out.lb.pon (hP7.wide (by omega) (Nat.le_refl _))).short (by omega)⟩)
      clear hH7 hP7 hS7 hF7 CR
      go_wp2_with fail
      go_roundw
      case rel => exact ⟨x, m, l', _, c6, d7, rfl, rfl, rfl, rfl, rfl, HT7.out, by omega, by split <;> omega, hk9⟩
      case measure => simp [intOf]; omega
set_option maxRecDepth 100000 in
set_option maxHeartbeats 4000000 in
theorem sortI_any (g o cap : Nat) (d : List Int) (w : World) (h : HoldI w g o d) (hs : d.length ≤ 16) (hnd : d.Nodup) :
    Calls Try.prog 33 #[.slice (some ⟨g, o, none⟩) d.length cap] w (SrtPost g o 0 d.length d w) := by
  obtain ⟨n, hn⟩ : ∃ n, n = Lib.bitLen d.length := ⟨_, rfl⟩
  have hb : (d.length : Int) - 11 ≤ (n : Int) ∧ (n : Int) ≤ 100 := by
    have : d.length = 0 ∨ d.length = 1 ∨ d.length = 2 ∨ d.length = 3 ∨ d.length = 4 ∨ d.length = 5 ∨ d.length = 6 ∨ d.length = 7 ∨ d.length = 8 ∨ d.length = 9 ∨ d.length = 10 ∨ d.length = 11 ∨ d.length = 12 ∨ d.length = 13 ∨ d.length = 14 ∨ d.length = 15 ∨ d.length = 16 := by omega
    rw [hn]
    rcases this with e | e | e | e | e | e | e | e | e | e | e | e | e | e | e | e | e <;> (rw [e]; decide +kernel)
  have CP := pdqI_any g o cap d.length 0 d.length d w n (by omega) h (Nat.zero_le _) (Nat.le_refl _) (by omega) (by omega) hnd (fun h0 => by omega) (by omega) hb.2
  have CB := Try.bits_Len (d.length : Int) w (by omega) (by omega)
  rw [show ((d.length : Int).toNat) = d.length by omega, ← hn] at CB
  clear hn
  go_enter Try.func33, Try.ntmps33
  go_wp2_with fail
  refine CB.mono ?_
  rintro e w' ⟨rfl, rfl⟩
  go_wp2_with fail
  refine CP.mono ?_
  rintro e w2 ⟨rfl, hp⟩
  go_wp2_with fail
  go_end0
  exact ⟨rfl, hp⟩
end Go.Proofs.Ytdadmphmpojjhaa
