/- slices.partitionOrdered at int64. -/
import Derived.Test.YtdadmphmpojjhaaSrtIns
import Derived.Deep.CutBlock
import Derived.Deep.DeepCutAuto
namespace Go.Proofs.Ytdadmphmpojjhaa
open Go.RowKit

def ParPost (g o a b : Nat) (d : List Int) (w : World) (e : Ending) (w' : World) : Prop :=
  ∃ (m : Nat) (c : Bool) (d' : List Int), e = .returned (.tuple #[.int .i64 m, .bool c]) ∧ a ≤ m ∧ m < b ∧ HoldI w' g o d' ∧ POn a b d d' ∧ Part a b m d' ∧ Fr g w w'
set_option maxRecDepth 100000 in
set_option maxHeartbeats 8000000 in
theorem partitionI_any (g o cap a b pv : Nat) (d : List Int) (w : World) (h : HoldI w g o d) (hab : a ≤ pv) (hpb : pv < b) (hb : b ≤ d.length) (hd : d.length ≤ 1000000) :
    Calls Try.prog 67 #[.slice (some ⟨g, o, none⟩) d.length cap, .int .i64 a, .int .i64 b, .int .i64 pv] w (ParPost g o a b d w) := by
  have hal : a < d.length := by omega
  have hpl : pv < d.length := by omega
  have c0 := h.cell a hal
  have c1 := h.cell pv hpl
  have f0 := h.free (o + a)
  have f1 := h.free (o + pv)
  obtain ⟨x, hx⟩ : ∃ x, x = gI d a := ⟨_, rfl⟩
  obtain ⟨y, hy⟩ : ∃ x, x = gI d pv := ⟨_, rfl⟩
  rw [← hx] at c0
  rw [← hy] at c1
  have c2 := (h.set hal y).cell pv (by rw [List.length_set]; exact hpl)
  have f2 := (h.set hal y).free (o + pv)
  have HH := hid h
  have HX := hid hx
  have HY := hid hy
  clear h hx hy
  go_enter Try.func67, Try.ntmps67
  go_upto_region 1 with fail
  go_cut [8, 9] from 12 to 25 (fun v8 v9 wx => v8 = .int .i64 0 ∧ v9 = .bool false ∧ ∃ d1, ParSt g o a b d w (a + 1) (b - 1) d1 wx)
  case first =>
    go_region
    all_goals go_wp2_with fail
    go_meet
    refine ⟨rfl, rfl, swL d a pv, ?_, POn.sw hb (Nat.le_refl _) (by omega) hab hpb, PInv.start (by omega), ?_⟩
    · rw [HX.out, HY.out]
      exact (HH.out.drewN _).sw hal hpl
    · exact Fr.sw (Fr.drewN (Chg.refl _ _ _) _) _ _ _ _
  case rest =>
  obtain ⟨h8, h9, dk, hS⟩ := hcut
  subst h8 h9
  have HS := hid hS
  clear hS c0 c1 c2 f0 f1 f2
  go_upto_region 2 with fail
  go_cut [10, 11] from 12 to 29 (fun v10 v11 wx => ∃ i j : Nat, v10 = .int .i64 i ∧ v11 = .int .i64 j ∧ ParSt g o a b d w i j dk wx)
  case first =>
    go_wp2_with fail
    go_meet
    exact ⟨a + 1, b - 1, by go_num, by congr 1; omega, HS.out⟩
  case rest =>
  clear HS
  obtain ⟨i, j, h10, h11, hS⟩ := hcut
  subst h10 h11
  have HS := hid hS
  clear hS
  go_upto_block 0 with fail
  go_cut [10] from 30 to 45 (fun v wx => ∃ i' : Nat, v = .int .i64 i' ∧ i ≤ i' ∧ ParSt g o a b d w i' j dk wx ∧ (j < i' ∨ gI dk a ≤ gI dk i'))
  case first =>
    go_wp2_with fail
    go_loopw [10] (fun vi wr => ∃ i1 : Nat, vi = .int .i64 i1 ∧ i ≤ i1 ∧ i1 ≤ j + 1 ∧ ParSt g o a b d w i1 j dk wr) (fun vi _ => j + 1 - (intOf vi).toNat)
    case atStart => exact ⟨i, rfl, Nat.le_refl _, HS.out.inv.ij, HS.out⟩
    case round =>
      obtain ⟨i1, rfl, hii, hij1, hS⟩ := hrel
      have HS2 := hid hS
      have hai := hS.inv.ai
      have hjb := hS.inv.jb
      have hdl := hS.pon.len
      by_cases hij : i1 ≤ j
      · have c0 := hS.hold.cell i1 (by omega)
        have c1 := hS.hold.cell a (by omega)
        have hil : i1 < d.length := by omega
        have hal : a < d.length := by omega
        obtain ⟨x, hx⟩ : ∃ x, x = gI dk i1 := ⟨_, rfl⟩
        obtain ⟨y, hy⟩ : ∃ x, x = gI dk a := ⟨_, rfl⟩
        rw [← hx] at c0
        rw [← hy] at c1
        have HX := hid hx
        have HY := hid hy
        have hiji : (i1 : Int) ≤ (j : Int) := by omega
        clear hS hdl hx hy
        go_wp2_with fail
        go_quiet (first | (go_at_call 65; refine Calls.quiet_of_same ((lessI_any _ _ _).mono fun _ _ h => ⟨h.1, h.2.symm⟩)))
        go_wp2_with fail
        · have hxy : x < y := by first | assumption | omega
          go_roundw
          case rel => exact ⟨i1 + 1, by go_num, by omega, by omega, ⟨HS2.out.hold.drewN _, HS2.out.pon, HS2.out.inv.istep hij (by rw [← HX.out, ← HY.out]; exact hxy), HS2.out.fr.drewN _⟩⟩
          case measure => simp [intOf]; omega
        · have hxy : y ≤ x := by first | assumption | omega
          go_meet
          exact ⟨i1, rfl, hii, HS2.out.drewN _, .inr (by rw [← HX.out, ← HY.out]; exact hxy)⟩
      · have hiji : decide ((i1 : Int) ≤ (j : Int)) = false := by simp; omega
        clear hS hdl
        go_wp2_with fail
        go_quiet (first | (go_at_call 65; refine Calls.quiet_of_same ((lessI_any _ _ _).mono fun _ _ h => ⟨h.1, h.2.symm⟩)))
        go_wp2_with fail
        go_meet
        exact ⟨i1, rfl, hii, HS2.out.drewN _, .inl (by omega)⟩
  case rest =>
  clear HS
  obtain ⟨i', h10, hii, hS, hst⟩ := hcut
  subst h10
  have HS := hid hS
  have HST := hid hst
  clear hS hst
  go_upto_block 2 with fail
  go_cut [11] from 46 to 62 (fun v wx => ∃ j' : Nat, v = .int .i64 j' ∧ j' ≤ j ∧ ParSt g o a b d w i' j' dk wx ∧ (j' < i' ∨ gI dk j' < gI dk a))
  case first =>
    go_wp2_with fail
    go_loopw [11] (fun vj wr => ∃ j' : Nat, vj = .int .i64 j' ∧ j' ≤ j ∧ ParSt g o a b d w i' j' dk wr) (fun vj _ => (intOf vj).toNat)
    case atStart => exact ⟨j, rfl, Nat.le_refl _, HS.out⟩
    case round =>
      obtain ⟨j', rfl, hjj, hS⟩ := hrel
      have HS2 := hid hS
      have hai := hS.inv.ai
      have hjb := hS.inv.jb
      have hdl := hS.pon.len
      by_cases hij : i' ≤ j'
      · have c0 := hS.hold.cell j' (by omega)
        have c1 := hS.hold.cell a (by omega)
        have hil : j' < d.length := by omega
        have hal : a < d.length := by omega
        obtain ⟨x, hx⟩ : ∃ x, x = gI dk j' := ⟨_, rfl⟩
        obtain ⟨y, hy⟩ : ∃ x, x = gI dk a := ⟨_, rfl⟩
        rw [← hx] at c0
        rw [← hy] at c1
        have HX := hid hx
        have HY := hid hy
        have hiji : (i' : Int) ≤ (j' : Int) := by omega
        clear hS hdl hx hy
        go_wp2_with fail
        go_quiet (first | (go_at_call 65; refine Calls.quiet_of_same ((lessI_any _ _ _).mono fun _ _ h => ⟨h.1, h.2.symm⟩)))
        go_wp2_with fail
        · have hxy : y ≤ x := by first | assumption | omega | (rename_i hq; simpa using hq)
          go_roundw
          case rel => exact ⟨j' - 1, by go_num, by omega, ⟨HS2.out.hold.drewN _, HS2.out.pon, HS2.out.inv.jstep hij (by rw [← HX.out, ← HY.out]; exact hxy), HS2.out.fr.drewN _⟩⟩
          case measure => simp [intOf]; omega
        · have hxy : x < y := by first | assumption | omega | (rename_i hq; simpa using hq)
          go_meet
          exact ⟨j', rfl, hjj, HS2.out.drewN _, .inr (by rw [← HX.out, ← HY.out]; exact hxy)⟩
      · have hiji : decide ((i' : Int) ≤ (j' : Int)) = false := by simp; omega
        clear hS hdl
        go_wp2_with fail
        go_quiet (first | (go_at_call 65; refine Calls.quiet_of_same ((lessI_any _ _ _).mono fun _ _ h => ⟨h.1, h.2.symm⟩)))
        go_wp2_with fail
        go_meet
        exact ⟨j', rfl, hjj, HS2.out.drewN _, .inl (by omega)⟩
  case rest =>
  clear HS
  obtain ⟨j', h11, hjj, hS, hst⟩ := hcut
  subst h11
  have HS := hid hS
  clear hS
  by_cases hfin : j' < i'
  · have hfi : (j' : Int) < (i' : Int) := by omega
    have hdl := HS.out.pon.len
    have hai := HS.out.inv.ai
    have hjb := HS.out.inv.jb
    have hij3 := HS.out.inv.ij
    have sI : j' < dk.length := by omega
    have sJ : a < dk.length := by omega
    have tI : j' < d.length := by omega
    have tJ : a < d.length := by omega
    have s0 := HS.out.hold.cell j' sI
    have s1 := HS.out.hold.cell a sJ
    have s2 := (HS.out.hold.set sI (gI dk a)).cell a (by rw [List.length_set]; exact sJ)
    have s3 := HS.out.hold.free (o + j')
    have s4 := (HS.out.hold.set sI (gI dk a)).free (o + a)
    have s5 := HS.out.hold.free (o + a)
    clear hdl
    go_upto_region 8 with fail
    all_goals first | (exfalso; omega) | skip
    go_cut [8] from 66 to 79 (fun v8 wx => v8 = .int .i64 0 ∧ HoldI wx g o (swL dk j' a) ∧ Fr g w wx)
    case first =>
      go_region
      all_goals go_wp2_with fail
      go_meet
      exact ⟨rfl, (HS.out.hold.drewN _).sw sI sJ, Fr.sw (Fr.drewN HS.out.fr _) _ _ _ _⟩
    case rest =>
    obtain ⟨h8, hH, hF⟩ := hcut
    subst h8
    go_wp2_with fail
    go_ret2
    exact ⟨j', true, swL dk j' a, rfl, by omega, by omega, hH, HS.out.pon.trans (POn.sw (by have := HS.out.pon.len; omega) (by omega) (by omega) (Nat.le_refl _) (by omega)), HS.out.inv.done (by have := HS.out.pon.len; omega) hfin, hF⟩
  have hfi : ¬ ((j' : Int) < (i' : Int)) := by omega
  have hgi : gI dk a ≤ gI dk i' := by rcases HST.out with h1 | h1; · omega
                                      · exact h1
  have hgj : gI dk j' < gI dk a := by rcases hst with h1 | h1; · omega
                                      · exact h1
  have HNX := hid (HS.out.inv.swap (by have := HS.out.pon.len; omega) (by omega) hgi hgj)
  have hdl := HS.out.pon.len
  have hai := HS.out.inv.ai
  have hjb := HS.out.inv.jb
  have hij3 := HS.out.inv.ij
  have sI : i' < dk.length := by omega
  have sJ : j' < dk.length := by omega
  have tI : i' < d.length := by omega
  have tJ : j' < d.length := by omega
  have s0 := HS.out.hold.cell i' sI
  have s1 := HS.out.hold.cell j' sJ
  have s2 := (HS.out.hold.set sI (gI dk j')).cell j' (by rw [List.length_set]; exact sJ)
  have s3 := HS.out.hold.free (o + i')
  have s4 := (HS.out.hold.set sI (gI dk j')).free (o + j')
  have s5 := HS.out.hold.free (o + j')
  clear hdl
  go_upto_region 10 with fail
  all_goals first | (exfalso; omega) | skip
  go_cut [8] from 81 to 94 (fun v8 wx => v8 = .int .i64 0 ∧ HoldI wx g o (swL dk i' j') ∧ Fr g w wx)
  case first =>
    go_region
    all_goals go_wp2_with fail
    go_meet
    exact ⟨rfl, (HS.out.hold.drewN _).sw sI sJ, Fr.sw (Fr.drewN HS.out.fr _) _ _ _ _⟩
  case rest =>
  obtain ⟨h8, hH, hF⟩ := hcut
  subst h8
  have hS2 : ParSt g o a b d w (i' + 1) (j' - 1) (swL dk i' j') wc := ⟨hH, HS.out.pon.trans (POn.sw (by have := HS.out.pon.len; omega) (by omega) (by omega) (by omega) (by omega)), HNX.out, hF⟩
  have HS2 := hid hS2
  have ei : (i' : Int) + 1 = ((i' + 1 : Nat) : Int) := by omega
  have ej : (j' : Int) - 1 = ((j' - 1 : Nat) : Int) := by omega
  have EI := hid ei
  have EJ := hid ej
  clear ei ej hS2 hH hF HS HST HNX s0 s1 s2 s3 s4 s5 sI sJ hgi hgj hst
  go_wp2_with fail
  go_loopw [10, 11] (fun vi vj wr => ∃ (i j : Nat) (dk : List Int), vi = .int .i64 i ∧ vj = .int .i64 j ∧ ParSt g o a b d w i j dk wr) (fun vi vj _ => (intOf vj).toNat + 1 - (intOf vi).toNat)
  case atStart => exact ⟨i' + 1, j' - 1, swL dk i' j', by rw [← EI.out], by rw [← EJ.out], HS2.out⟩
  case round =>
    clear HS2 EI EJ hfin hii hjj hfi tI tJ hai hjb hij3 
    obtain ⟨i, j, dk, rfl, rfl, hS⟩ := hrel
    have HS := hid hS
    have hij9 := hS.inv.ij
    clear hS
    go_upto_block 6 with fail
    go_cut [10] from 99 to 152 (fun v wx => ∃ i' : Nat, v = .int .i64 i' ∧ i ≤ i' ∧ ParSt g o a b d w i' j dk wx ∧ (j < i' ∨ gI dk a ≤ gI dk i'))
    case first =>
        go_wp2_with fail
        go_loopw [10] (fun vi wr => ∃ i1 : Nat, vi = .int .i64 i1 ∧ i ≤ i1 ∧ i1 ≤ j + 1 ∧ ParSt g o a b d w i1 j dk wr) (fun vi _ => j + 1 - (intOf vi).toNat)
        case atStart => exact ⟨i, rfl, Nat.le_refl _, HS.out.inv.ij, HS.out⟩
        case round =>
          obtain ⟨i1, rfl, hii, hij1, hS⟩ := hrel
          have HS2 := hid hS
          have hai := hS.inv.ai
          have hjb := hS.inv.jb
          have hdl := hS.pon.len
          by_cases hij : i1 ≤ j
          · have c0 := hS.hold.cell i1 (by omega)
            have c1 := hS.hold.cell a (by omega)
            have hil : i1 < d.length := by omega
            have hal : a < d.length := by omega
            obtain ⟨x, hx⟩ : ∃ x, x = gI dk i1 := ⟨_, rfl⟩
            obtain ⟨y, hy⟩ : ∃ x, x = gI dk a := ⟨_, rfl⟩
            rw [← hx] at c0
            rw [← hy] at c1
            have HX := hid hx
            have HY := hid hy
            have hiji : (i1 : Int) ≤ (j : Int) := by omega
            clear hS hdl hx hy
            go_wp2_with fail
            go_quiet (first | (go_at_call 65; refine Calls.quiet_of_same ((lessI_any _ _ _).mono fun _ _ h => ⟨h.1, h.2.symm⟩)))
            go_wp2_with fail
            · have hxy : x < y := by first | assumption | omega
              go_roundw
              case rel => exact ⟨i1 + 1, by go_num, by omega, by omega, ⟨HS2.out.hold.drewN _, HS2.out.pon, HS2.out.inv.istep hij (by rw [← HX.out, ← HY.out]; exact hxy), HS2.out.fr.drewN _⟩⟩
              case measure => simp [intOf]; omega
            · have hxy : y ≤ x := by first | assumption | omega
              go_meet
              exact ⟨i1, rfl, hii, HS2.out.drewN _, .inr (by rw [← HX.out, ← HY.out]; exact hxy)⟩
          · have hiji : decide ((i1 : Int) ≤ (j : Int)) = false := by simp; omega
            clear hS hdl
            go_wp2_with fail
            go_quiet (first | (go_at_call 65; refine Calls.quiet_of_same ((lessI_any _ _ _).mono fun _ _ h => ⟨h.1, h.2.symm⟩)))
            go_wp2_with fail
            go_meet
            exact ⟨i1, rfl, hii, HS2.out.drewN _, .inl (by omega)⟩
    case rest =>
    clear HS
    obtain ⟨i', h10, hii, hS, hst⟩ := hcut
    subst h10
    have HS := hid hS
    have HST := hid hst
    clear hS hst
    go_upto_block 8 with fail
    go_cut [11] from 99 to 152 (fun v wx => ∃ j' : Nat, v = .int .i64 j' ∧ j' ≤ j ∧ ParSt g o a b d w i' j' dk wx ∧ (j' < i' ∨ gI dk j' < gI dk a))
    case first =>
        go_wp2_with fail
        go_loopw [11] (fun vj wr => ∃ j' : Nat, vj = .int .i64 j' ∧ j' ≤ j ∧ ParSt g o a b d w i' j' dk wr) (fun vj _ => (intOf vj).toNat)
        case atStart => exact ⟨j, rfl, Nat.le_refl _, HS.out⟩
        case round =>
          obtain ⟨j', rfl, hjj, hS⟩ := hrel
          have HS2 := hid hS
          have hai := hS.inv.ai
          have hjb := hS.inv.jb
          have hdl := hS.pon.len
          by_cases hij : i' ≤ j'
          · have c0 := hS.hold.cell j' (by omega)
            have c1 := hS.hold.cell a (by omega)
            have hil : j' < d.length := by omega
            have hal : a < d.length := by omega
            obtain ⟨x, hx⟩ : ∃ x, x = gI dk j' := ⟨_, rfl⟩
            obtain ⟨y, hy⟩ : ∃ x, x = gI dk a := ⟨_, rfl⟩
            rw [← hx] at c0
            rw [← hy] at c1
            have HX := hid hx
            have HY := hid hy
            have hiji : (i' : Int) ≤ (j' : Int) := by omega
            clear hS hdl hx hy
            go_wp2_with fail
            go_quiet (first | (go_at_call 65; refine Calls.quiet_of_same ((lessI_any _ _ _).mono fun _ _ h => ⟨h.1, h.2.symm⟩)))
            go_wp2_with fail
            · have hxy : y ≤ x := by first | assumption | omega | (rename_i hq; simpa using hq)
              go_roundw
              case rel => exact ⟨j' - 1, by go_num, by omega, ⟨HS2.out.hold.drewN _, HS2.out.pon, HS2.out.inv.jstep hij (by rw [← HX.out, ← HY.out]; exact hxy), HS2.out.fr.drewN _⟩⟩
              case measure => simp [intOf]; omega
            · have hxy : x < y := by first | assumption | omega | (rename_i hq; simpa using hq)
              go_meet
              exact ⟨j', rfl, hjj, HS2.out.drewN _, .inr (by rw [← HX.out, ← HY.out]; exact hxy)⟩
          · have hiji : decide ((i' : Int) ≤ (j' : Int)) = false := by simp; omega
            clear hS hdl
            go_wp2_with fail
            go_quiet (first | (go_at_call 65; refine Calls.quiet_of_same ((lessI_any _ _ _).mono fun _ _ h => ⟨h.1, h.2.symm⟩)))
            go_wp2_with fail
            go_meet
            exact ⟨j', rfl, hjj, HS2.out.drewN _, .inl (by omega)⟩
    case rest =>
    clear HS
    obtain ⟨j', h11, hjj, hS, hst⟩ := hcut
    subst h11
    have HS := hid hS
    clear hS
    by_cases hfin : j' < i'
    · have hfi : (j' : Int) < (i' : Int) := by omega
      have hdl := HS.out.pon.len
      have hai := HS.out.inv.ai
      have hjb := HS.out.inv.jb
      have hij3 := HS.out.inv.ij
      have sI : j' < dk.length := by omega
      have sJ : a < dk.length := by omega
      have tI : j' < d.length := by omega
      have tJ : a < d.length := by omega
      have s0 := HS.out.hold.cell j' sI
      have s1 := HS.out.hold.cell a sJ
      have s2 := (HS.out.hold.set sI (gI dk a)).cell a (by rw [List.length_set]; exact sJ)
      have s3 := HS.out.hold.free (o + j')
      have s4 := (HS.out.hold.set sI (gI dk a)).free (o + a)
      have s5 := HS.out.hold.free (o + a)
      clear hdl
      go_upto_region 21 with fail
      all_goals first | (exfalso; omega) | skip
      go_cut [8] from 153 to 166 (fun v8 wx => v8 = .int .i64 0 ∧ HoldI wx g o (swL dk j' a) ∧ Fr g w wx)
      case first =>
        go_region
        all_goals go_wp2_with fail
        go_meet
        exact ⟨rfl, (HS.out.hold.drewN _).sw sI sJ, Fr.sw (Fr.drewN HS.out.fr _) _ _ _ _⟩
      case rest =>
      obtain ⟨h8, hH, hF⟩ := hcut
      subst h8
      go_wp2_with fail
      go_ret2
      exact ⟨j', false, swL dk j' a, rfl, by omega, by omega, hH, HS.out.pon.trans (POn.sw (by have := HS.out.pon.len; omega) (by omega) (by omega) (Nat.le_refl _) (by omega)), HS.out.inv.done (by have := HS.out.pon.len; omega) hfin, hF⟩
    · have hfi : ¬ ((j' : Int) < (i' : Int)) := by omega
      have hgi : gI dk a ≤ gI dk i' := by rcases HST.out with h1 | h1; · omega
                                          · exact h1
      have hgj : gI dk j' < gI dk a := by rcases hst with h1 | h1; · omega
                                          · exact h1
      have HNX := hid (HS.out.inv.swap (by have := HS.out.pon.len; omega) (by omega) hgi hgj)
      have hdl := HS.out.pon.len
      have hai := HS.out.inv.ai
      have hjb := HS.out.inv.jb
      have hij3 := HS.out.inv.ij
      have sI : i' < dk.length := by omega
      have sJ : j' < dk.length := by omega
      have tI : i' < d.length := by omega
      have tJ : j' < d.length := by omega
      have s0 := HS.out.hold.cell i' sI
      have s1 := HS.out.hold.cell j' sJ
      have s2 := (HS.out.hold.set sI (gI dk j')).cell j' (by rw [List.length_set]; exact sJ)
      have s3 := HS.out.hold.free (o + i')
      have s4 := (HS.out.hold.set sI (gI dk j')).free (o + j')
      have s5 := HS.out.hold.free (o + j')
      clear hdl
      go_upto_region 18 with fail
      all_goals first | (exfalso; omega) | skip
      go_cut [8] from 99 to 152 (fun v8 wx => v8 = .int .i64 0 ∧ HoldI wx g o (swL dk i' j') ∧ Fr g w wx)
      case first =>
        go_region
        all_goals go_wp2_with fail
        go_meet
        exact ⟨rfl, (HS.out.hold.drewN _).sw sI sJ, Fr.sw (Fr.drewN HS.out.fr _) _ _ _ _⟩
      case rest =>
      obtain ⟨h8, hH, hF⟩ := hcut
      subst h8
      have hS2 : ParSt g o a b d w (i' + 1) (j' - 1) (swL dk i' j') wc := ⟨hH, HS.out.pon.trans (POn.sw (by have := HS.out.pon.len; omega) (by omega) (by omega) (by omega) (by omega)), HNX.out, hF⟩
      have HS2 := hid hS2
      have ei : (i' : Int) + 1 = ((i' + 1 : Nat) : Int) := by omega
      have ej : (j' : Int) - 1 = ((j' - 1 : Nat) : Int) := by omega
      have EI := hid ei
      have EJ := hid ej
      clear ei ej hS2 hH hF s0 s1 s2 s3 s4 s5
      go_wp2_with fail
      go_roundw
      case rel => exact ⟨i' + 1, j' - 1, swL dk i' j', by rw [← EI.out], by rw [← EJ.out], HS2.out⟩
      case measure => simp [intOf]; omega
end Go.Proofs.Ytdadmphmpojjhaa
