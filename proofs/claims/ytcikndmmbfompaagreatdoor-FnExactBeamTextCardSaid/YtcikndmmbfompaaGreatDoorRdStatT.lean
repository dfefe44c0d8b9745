/- The reference's way to the beginnings of words at a lattice's nodes. Written by gen15.py. -/
import Derived.Test.YtcikndmmbfompaaGreatDoorRdRows
import Derived.Test.YtcikndmmbfompaaGreatDoorRdIns
import Derived.BigRegion
import Derived.Deep.CutRange
import Derived.Deep.RegionHeld3
namespace Go.Proofs.YtcikndmmbfompaaGreatDoor
open Go.RowKit Go.Sort
attribute [local go_sem ↓] Go.wp_at_zero Go.wp_at_succ

def gStT (m : Nat) (beg : ByteArray → Bool) (_ : List DEdge) (k : Nat) (a : SR) (e : DEdge) : SR := if decide (fr e = k) = true then pushR m beg a e else a
set_option maxHeartbeats 8000000 in
set_option maxRecDepth 100000 in
theorem l16StatesT_any (p q0 : Nat) (v vy : Value) (N m : Nat) (x : List DEdge) (y : XLexicon) (w : World) (hp0 : w.cell? ⟨p, 0, none⟩ = some (.int .i64 N)) (hp1 : w.cell? ⟨p, 1, none⟩ = some v) (hq0 : w.cell? ⟨q0, 0, none⟩ = some vy) (h : Arr eEdge w v x) (hY : Arr eEntry w vy y) (oky : okLexicon y) (gy : goodLexicon y) (hv : validLt ((N : Int), x) = true) (hm1 : 1 ≤ m) (hm : m ≤ 1000) (hbe : begLx y ⟨#[]⟩ = true) :
    Calls Tryz.prog 31 #[.pointer (some ⟨p, 0, none⟩), .pointer (some ⟨q0, 0, none⟩), .int .i64 m] w fun e w' => ∃ g vs, e = .returned (.slice (some ⟨g, 0, none⟩) N N) ∧ RowsR g N w' vs (statesR m (begLx y) (beg0 y) x) ∧ w.heap.size ≤ g ∧ Below w.heap.size w w' := by
  obtain ⟨b, off, ao, cap, rfl, hnc, hcm, hao, hc⟩ := h
  unfold maxLen at hcm
  obtain ⟨n1, n2, x2⟩ := valid_bd hv
  have HV := hid hv
  have HG := hid (valid_good hv)
  have HR := hid (valid_rises hv)
  have hpl := World.block_lt_of_cell? w _ hp0
  obtain ⟨i0, hi, hz0, hz1, hz2⟩ := info_parts infRows
  have hNi : (N : Int) ≤ 20 := by omega
  have hN0 : 0 < N := by omega
  have hN1 : (0 : Int) < (N : Int) := by omega
  have hmi : (m : Int) ≤ 1000 := by omega
  clear hv
  have hql := World.block_lt_of_cell? w _ hq0
  have hbeg : beg0 y = [⟨⟨#[]⟩, 0⟩] := by unfold beg0; rw [show begLx y ByteArray.empty = true from hbe]; rfl
  go_enter Tryz.func31, Tryz.ntmps31
  go_wp2_with (first | (at_make; refine wpList_make_full _ rfl _ _ 70 rfl w.heap.size 69 i0 _ 1 Tryz.underlying70 hi hz0 hz1 _ _ _ _ N rfl rfl rfl rfl (by rw [hz2]; omega) (by unfold maxLen; omega) (Nat.le_refl _) ?_; intro w1 hown hgr; have hown := Own.made (E := eS1) (z := (⟨none, 0, 0⟩ : SV)) hown rfl; have hr0 := RowsR.made hown; have hr1 := hr0.below (below_alloc w1 (.cells #[.string ⟨#[]⟩, .int .i64 0] 74)); obtain ⟨_, _, _, z0_, _⟩ := hr1.get hN0; have z1_ := hr1.free 0) | (go_at_call 54; refine (l16Begins_is hbe (w := w1) ((World.cell?_of_block (hgr.block q0 hql (by simp))).trans hq0) (hY.below (by exact (Below.refl _ _).grown hgr (Nat.le_refl _) (by simp))) oky gy (by decide)).mono ?_; rintro en w' ⟨rfl, rfl⟩))
  obtain ⟨g, hg⟩ : ∃ g, g = w.heap.size := ⟨_, rfl⟩
  rw [← hg] at hown hr0 hr1 z0_ z1_ ⊢
  have hw1 : Below g w w1 := by rw [hg]; exact (Below.refl _ _).grown hgr (Nat.le_refl _) (by simp)
  have hpg : p < g := by rw [hg]; exact hpl
  have hqg : q0 < g := by rw [hg]; exact hql
  have hbg : 0 < x.length → b < g := fun h => by rw [hg]; exact (hao h).2
  have hwg : g ≤ w1.heap.size := by rw [hg]; exact hgr.size
  have hgl := hr0.lt
  have hA1 : ArrIn eReading (g + 1) (w1.alloc (.cells #[.string ⟨#[]⟩, .int .i64 0] 74)).heap.size (w1.alloc (.cells #[.string ⟨#[]⟩, .int .i64 0] 74)) (.slice (some ⟨w1.heap.size, 0, none⟩) 1 1) [⟨⟨#[]⟩, 0⟩] :=
    arrIn_of (arr_block1 (E := eReading) (n := 1) [⟨⟨#[]⟩, 0⟩] #[.string ⟨#[]⟩, .int .i64 0] rfl rfl (maxLen_ge (Nat.le_of_ble_eq_true rfl)) (by simp)) (by omega) (by simp)
  have hr2' := hr1.set hN0 hA1
  rw [startR_set, ← hbeg] at hr2'
  have hb2 := (hw1.alloc hwg _).grown hr2'.2 (by simp; omega) (by intro kk hh; cases hh; exact Nat.le_refl _)
  have hr2 := And.intro hr2'.1 trivial
  have Hg := hid hg
  clear hg hgr hi hz0 hz1 hz2 hpl hql hown hr0 hr1 z0_ z1_ hw1 hwg hgl hA1 hr2' hbeg hbe
  have HOK0 := hid (okS_start hm1 (I := beg0 y) (by unfold beg0; split <;> simp) (by intro r hr; unfold beg0 at hr; split at hr <;> simp at hr; subst hr; rfl))
  go_loopw [8] (fun i wr => ∃ (k : Nat) (st : SR) (vs : List SV), k ≤ N ∧ i = .int .i64 k ∧ RowsR g N wr vs st ∧ okS m st ∧ Below g w wr ∧ Hid (st = (List.range k).foldl (fun a k => x.foldl (gStT m (begLx y) x k) a) (startR (beg0 y)))) (fun i _ => N - (intOf i).toNat)
  case atStart => exact ⟨0, _, _, Nat.zero_le _, rfl, hr2.1, HOK0.out, hb2, hid rfl⟩
  case round =>
    clear hr2 hb2 HOK0
    obtain ⟨k, st, vs, hk, rfl, hr, hok, hb, HST⟩ := hrel
    have t0 := below_cell hb hpg hp0
    by_cases hlt : k < N
    · have hli : (k : Int) < (N : Int) := by omega
      go_wp2
      go_loopw [9] (fun i wq => ∃ (j : Nat) (st2 : SR) (vs : List SV), j ≤ x.length ∧ i = .int .i64 j ∧ RowsR g N wq vs st2 ∧ okS m st2 ∧ Below g w wq ∧ Hid (st2 = (x.take j).foldl (gStT m (begLx y) x k) st)) (fun i _ => x.length - (intOf i).toNat)
      case atStart => exact ⟨0, st, vs, Nat.zero_le _, rfl, hr, hok, hb, hid rfl⟩
      case round =>
        clear hr hb t0 hok
        obtain ⟨j, st2, vs, hj, rfl, hr, hok, hb, HS2⟩ := hrel
        have t0 := below_cell hb hpg hp0
        have t1 := below_cell hb hpg hp1
        by_cases hjl : j < x.length
        · obtain ⟨hao', hbw⟩ := hao (by omega)
          subst hao'
          obtain ⟨e, he⟩ : ∃ e, x[j]? = some e := ⟨_, List.getElem?_eq_getElem hjl⟩
          have hli2 : (j : Int) < (x.length : Int) := by omega
          obtain ⟨f0, f1, f2, f3, f4⟩ := valid_fit HV.out he
          have hls := valid_lab HV.out he
          have HN : Hid ((x.take (j + 1)).foldl (gStT m (begLx y) x k) st = gStT m (begLx y) x k st2 e) := hid (by rw [HS2.out]; exact foldl_take he)
          obtain ⟨c0, c1, c2, c3⟩ := eEdge_cells (w := w) hc he
          have hbgx := hbg (by omega)
          replace c0 := below_cell hb hbgx c0
          replace c1 := below_cell hb hbgx c1
          replace c2 := below_cell hb hbgx c2
          replace c3 := below_cell hb hbgx c3
          have HE := hid (eEdge_cells (w := w) hc he)
          obtain ⟨fq, tq, la, co⟩ := e
          simp only at f0 f1 f2 f3 f4 hls c0 c1 c2 c3
          obtain ⟨f, rfl⟩ : ∃ f : Nat, fq = f := ⟨fq.toNat, by omega⟩
          obtain ⟨t, rfl⟩ : ∃ t : Nat, tq = t := ⟨tq.toNat, by omega⟩
          clear he hao
          by_cases hfk : f = k
          · subst hfk
            have hft : f < t := by omega
            have htN : t < N := by omega
            have hfN : f < N := by omega
            go_wp2
            go_loopw [11] (fun i wz => ∃ (q : Nat) (st3 : SR) (vs : List SV), q ≤ (st2 f).length ∧ i = .int .i64 q ∧ RowsR g N wz vs st3 ∧ okS m st3 ∧ Below g w wz ∧ Hid (st3 = pushK m (begLx y) st2 ⟨f, t, la, co⟩ q)) (fun i _ => (st2 f).length - (intOf i).toNat)
            case atStart => exact ⟨0, st2, vs, Nat.zero_le _, rfl, hr, hok, hb, hid (pushK_zero _ _ _ _).symm⟩
            case round =>
              clear hr hb t0 t1 c0 c1 c2 c3
              obtain ⟨q, st3, vs, hq, rfl, hr, hok3, hb, HS3⟩ := hrel
              obtain ⟨c0, c1, c2, c3⟩ := (show _ from HE.out)
              replace c0 := below_cell hb hbgx c0
              replace c1 := below_cell hb hbgx c1
              replace c2 := below_cell hb hbgx c2
              replace c3 := below_cell hb hbgx c3
              try simp only at c0 c1 c2 c3
              have hsf : st3 f = st2 f := by rw [HS3.out]; exact pushK_from (e := ⟨f, t, la, co⟩) (by show f < t; exact hft)
              obtain ⟨sf, hsfv, _, a0, hAf⟩ := hr.get hfN
              rw [hsf] at a0 hAf
              obtain ⟨L, hL⟩ : ∃ L, L = st2 f := ⟨_, rfl⟩
              have hL9 : L.length ≤ 1000 := by rw [hL]; exact Nat.le_trans (hok f).1 hm
              have hTX := hid (show ∀ r ∈ L, r.text.size ≤ f by rw [hL]; exact (hok f).2)
              rw [← hL] at hq a0 hAf ⊢
              have HL := hid hL
              have HSF := hid hsf
              clear hL hsf
              have hfNi : (f : Int) < (N : Int) := by omega
              have htNi : (t : Int) < (N : Int) := by omega
              obtain ⟨sa, sn, sc⟩ := sf
              simp only at a0 hAf
              by_cases hql : q < L.length
              · have hqi : (q : Int) < (L.length : Int) := by omega
                obtain ⟨r, hrq⟩ : ∃ r, L[q]? = some r := ⟨_, List.getElem?_eq_getElem hql⟩
                obtain ⟨b2, o2, ao2, cp2, hv2, hnc2, hcm2, hao2, hcl2⟩ := hAf
                simp only [Value.slice.injEq] at hv2
                obtain ⟨rfl, _, rfl⟩ := hv2
                obtain ⟨hae, hlo2, hhi2⟩ := hao2 (by omega)
                subst hae
                unfold maxLen at hcm2
                obtain ⟨r0, r1⟩ := eReading_cells hcl2 hrq
                have hrs := hTX.out r (List.mem_of_getElem? hrq)
                have HRQ := hid hrq
                obtain ⟨tx, cr⟩ := r
                simp only at r0 r1 hrs
                have hcat : tx.size + la.size ≤ 9223372036854775807 := by omega
                have hcati : (tx.size : Int) + (la.size : Int) ≤ 9223372036854775807 := by omega
                clear hao2 hcl2 hrq
                obtain ⟨ws, hws⟩ : ∃ ws, ws = IntKind.i64.wrap (cr + co) := ⟨_, rfl⟩
                have hws' := hws.symm
                have HWS := hid hws
                clear hws
                have hcc : ¬ 9223372036854775807 < tx.size + 1 := by omega
                have d0 := cell_alloc a0 (.cells #[.string ⟨#[]⟩, .int .i64 0] 74)
                have d1 := cell_alloc r0 (.cells #[.string ⟨#[]⟩, .int .i64 0] 74)
                have d2 := cell_alloc r1 (.cells #[.string ⟨#[]⟩, .int .i64 0] 74)
                have d3 := cell_alloc c2 (.cells #[.string ⟨#[]⟩, .int .i64 0] 74)
                have d4 := cell_alloc c3 (.cells #[.string ⟨#[]⟩, .int .i64 0] 74)
                go_wp2
                go_cut [12] from 53 to 108 (fun sb wx => sb = .pointer (some ⟨wr.heap.size, 0, none⟩) ∧ wx = (wr.alloc (.cells #[.string (tx ++ la), .int .i64 ws] 74)).drew)
                case first =>
                  go_region
                  go_wp2_with fail
                  go_meet
                  exact ⟨rfl, rfl⟩
                case rest =>
                obtain ⟨hsb, hwc⟩ := hcut
                subst hsb
                subst hwc
                obtain ⟨wB, hwB⟩ : ∃ wB, wB = (wr.alloc (.cells #[.string (tx ++ la), .int .i64 ws] 74)).drew := ⟨_, rfl⟩
                have hmB : Below wr.heap.size wr wB := by rw [hwB]; exact (below_alloc _ _).drew
                have hgr2 : g < wr.heap.size := hr.lt
                have hbB : Below g w wB := hb.trans (hmB.mono (Nat.le_of_lt hgr2))
                have hrB := hr.below hmB
                have z0 : wB.cell? ⟨wr.heap.size, 0, none⟩ = some (.string (tx ++ la)) := by rw [hwB]; simp
                have z1 : wB.cell? ⟨wr.heap.size, 1, none⟩ = some (.int .i64 ws) := by rw [hwB]; simp
                replace c1 := cell_later hmB c1
                obtain ⟨⟨aT, nT, cT⟩, _, _, a1, hAt⟩ := hrB.get htN
                simp only at a1 hAt
                have hLt := (hok3 t).1
                have h2x : extR ⟨tx, cr⟩ ⟨f, t, la, co⟩ = ⟨tx ++ la, ws⟩ := by rw [HWS.out]; rfl
                have h1x := pushK_at (m := m) (beg := begLx y) (st := st2) (e := ⟨f, t, la, co⟩) (k := q) (r := ⟨tx, cr⟩) (by show f < t; exact hft) (by show (st2 f)[q]? = _; rw [← HL.out]; exact HRQ.out)
                rw [h2x] at h1x
                have HNW : Hid (begLx y (tx ++ la) = true → setR st3 t (insK m (st3 t) ⟨tx ++ la, ws⟩) = pushK m (begLx y) st2 ⟨f, t, la, co⟩ (q + 1)) := hid (fun hbt => by rw [h1x, if_pos hbt, HS3.out]; rfl)
                have HSM : Hid (begLx y (tx ++ la) = false → st3 = pushK m (begLx y) st2 ⟨f, t, la, co⟩ (q + 1)) := hid (fun hbt => by rw [h1x, if_neg (by rw [hbt]; exact Bool.false_ne_true), HS3.out])
                clear h1x h2x
                have hok4 := hid (okS_set hok3 (v := t) (r := ⟨tx ++ la, ws⟩) (by show (tx ++ la).size ≤ t; rw [ByteArray.size_append]; omega))
                have HRB := hid hrB
                have HAT := hid hAt
                have HLT := hid hLt
                have HWB := hid hwB
                clear hwB d0 d1 d2 d3 d4 hr hmB hAt hrB hLt
                have HY2 := hid (hY.below (by rw [Hg.out] at hbB; exact hbB))
                have y0 := below_cell hbB hqg hq0
                rw [← HWB.out]
                clear c0 c2 c3 a0 r0 r1
                cases hbt : begLx y (tx ++ la)
                · have HSAME : Hid (st3 = pushK m (begLx y) st2 ⟨f, t, la, co⟩ (q + 1)) := hid (HSM.out hbt)
                  go_wp2_with (go_at_call 54; refine (l16Begins_is hbt y0 HY2.out oky gy (by have : (tx ++ la).size = tx.size + la.size := ByteArray.size_append ..; omega)).mono ?_; rintro en w' ⟨rfl, rfl⟩)
                  go_roundw
                  case rel => exact ⟨q + 1, st3, _, by omega, by go_num, HRB.out, hok3, hbB, HSAME⟩
                  case measure => simp [intOf]; omega
                have HNEW := hid (HNW.out hbt)
                go_wp2_with (go_at_call 54; refine (l16Begins_is hbt y0 HY2.out oky gy (by have : (tx ++ la).size = tx.size + la.size := ByteArray.size_append ..; omega)).mono ?_; rintro en w' ⟨rfl, rfl⟩)
                refine wp_region_stg 14 16 (fun c w' => match c with | 0 => Below wB.heap.size wB w' | 1 => Below wB.heap.size wB w' | _ => FinR g N w w' (setR st3 t (insK m (st3 t) ⟨tx ++ la, ws⟩))) (fun c i v w' => match i with
                      | 0 => v = .slice (some ⟨g, 0, none⟩) N N
                      | 1 => v = .pointer (some ⟨b, off + j * 4, none⟩)
                      | 2 => v = .pointer (some ⟨b, off + j * 4, none⟩)
                      | 3 => v = .pointer (some ⟨b, off + j * 4 + 1, none⟩)
                      | 4 => v = .int .i64 t
                      | 5 => v = .slice (some ⟨g, 0, none⟩) N N
                      | 6 => v = .pointer (some ⟨b, off + j * 4, none⟩)
                      | 7 => v = .pointer (some ⟨b, off + j * 4, none⟩)
                      | 8 => v = .pointer (some ⟨b, off + j * 4 + 1, none⟩)
                      | 9 => v = .int .i64 t
                      | 10 => v = .pointer (some ⟨g, t, none⟩)
                      | 11 => v = .slice aT (st3 t).length cT
                      | 12 => v = .agg #[.string (tx ++ la), .int .i64 ws]
                      | 13 => v = .int .i64 m
                      | 14 => (match c with | 0 => True | 1 => NewR (g + 1) w' v (insK m (st3 t) ⟨tx ++ la, ws⟩) | _ => True)
                      | 15 => v = .pointer (some ⟨g, t, none⟩)
                      | 16 => (match c with | 0 => True | 1 => True | _ => True)
                      | _ => True) (by kernel_rfl) (by kernel_rfl) (by kernel_rfl) (by kernel_rfl) (by kernel_rfl) ?_ ?_ ?_ ?_ ?_ ?_ (by decide) ?_
                · exact (Below.refl _ wB).drew
                · intro c w w' h hb
                  match c, h with
                  | 0, h => exact Below.trans (B := wB.heap.size) h (hb.mono (Below.size h))
                  | 1, h => exact Below.trans (B := wB.heap.size) h (hb.mono (Below.size h))
                  | (k + 2), h => exact (FinR.below h hb)
                · intro c i v w w' h hb
                  match i, h with
                  | 0, h => exact h
                  | 1, h => exact h
                  | 2, h => exact h
                  | 3, h => exact h
                  | 4, h => exact h
                  | 5, h => exact h
                  | 6, h => exact h
                  | 7, h => exact h
                  | 8, h => exact h
                  | 9, h => exact h
                  | 10, h => exact h
                  | 11, h => exact h
                  | 12, h => exact h
                  | 13, h => exact h
                  | 14, h =>
                    match c, h with
                    | 0, h => exact trivial
                    | 1, h => exact (NewR.below h hb)
                    | (k + 2), h => exact trivial
                  | 15, h => exact h
                  | 16, h =>
                    match c, h with
                    | 0, h => exact trivial
                    | 1, h => exact trivial
                    | (k + 2), h => exact trivial
                  | (k + 17), h => exact h
                · refine ⟨?_, ?_, ?_, ?_, ?_, ?_, ?_, ?_, ?_, ?_, ?_, ?_, ?_, ?_, ?_, ?_, ?_, trivial⟩
                  · refine .inr (.inr ⟨fun _ => ?_, fun _ => ?_, can_no (by kernel_rfl)⟩)
                    · intro ρ w' hbw ht hcs hfn hgl hdep G hG
                      replace hbw : Below wB.heap.size wB w' := hbw
                      refine ⟨fun _ => ?_, fun h => by cases h⟩
                      have s7 : ρ (.tmp 7) = .slice (some ⟨g, 0, none⟩) N N := ht 7 rfl
                      clear ht hdep hgl
                      go_simp
                      exact hG _ _ (Below.refl _ _) rfl
                    · intro ρ w' hbw ht hcs hfn hgl hdep G hG
                      replace hbw : Below wB.heap.size wB w' := hbw
                      refine ⟨fun _ => ?_, fun h => by cases h⟩
                      have s7 : ρ (.tmp 7) = .slice (some ⟨g, 0, none⟩) N N := ht 7 rfl
                      clear ht hdep hgl
                      go_simp
                      exact hG _ _ (Below.refl _ _) rfl
                  · refine .inr (.inr ⟨fun _ => ?_, fun _ => ?_, can_no (by kernel_rfl)⟩)
                    · intro ρ w' hbw ht hcs hfn hgl hdep G hG
                      replace hbw : Below wB.heap.size wB w' := hbw
                      refine ⟨fun _ => ?_, fun h => by cases h⟩
                      have s10 : ρ (.tmp 10) = .pointer (some ⟨b, off + j * 4, none⟩) := ht 10 rfl
                      clear ht hdep hgl
                      go_simp
                      exact hG _ _ (Below.refl _ _) rfl
                    · intro ρ w' hbw ht hcs hfn hgl hdep G hG
                      replace hbw : Below wB.heap.size wB w' := hbw
                      refine ⟨fun _ => ?_, fun h => by cases h⟩
                      have s10 : ρ (.tmp 10) = .pointer (some ⟨b, off + j * 4, none⟩) := ht 10 rfl
                      clear ht hdep hgl
                      go_simp
                      exact hG _ _ (Below.refl _ _) rfl
                  · refine .inr (.inr ⟨fun _ => ?_, fun _ => ?_, can_no (by kernel_rfl)⟩)
                    · intro ρ w' hbw ht hcs hfn hgl hdep G hG
                      replace hbw : Below wB.heap.size wB w' := hbw
                      refine ⟨fun _ => ?_, fun h => by cases h⟩
                      have s94 : ρ (.tmp 94) = .pointer (some ⟨b, off + j * 4, none⟩) := hdep ⟨1, .data⟩ (by simp) rfl 94 rfl
                      clear ht hdep hgl
                      go_simp
                      exact hG _ _ (Below.refl _ _) rfl
                    · intro ρ w' hbw ht hcs hfn hgl hdep G hG
                      replace hbw : Below wB.heap.size wB w' := hbw
                      refine ⟨fun _ => ?_, fun h => by cases h⟩
                      have s94 : ρ (.tmp 94) = .pointer (some ⟨b, off + j * 4, none⟩) := hdep ⟨1, .data⟩ (by simp) rfl 94 rfl
                      clear ht hdep hgl
                      go_simp
                      exact hG _ _ (Below.refl _ _) rfl
                  · refine .inr (.inr ⟨fun _ => ?_, fun _ => ?_, can_no (by kernel_rfl)⟩)
                    · intro ρ w' hbw ht hcs hfn hgl hdep G hG
                      replace hbw : Below wB.heap.size wB w' := hbw
                      refine ⟨fun _ => ?_, fun h => by cases h⟩
                      have s95 : ρ (.tmp 95) = .pointer (some ⟨b, off + j * 4, none⟩) := hdep ⟨2, .data⟩ (by simp) rfl 95 rfl
                      clear ht hdep hgl
                      go_simp
                      exact hG _ _ (Below.refl _ _) rfl
                    · intro ρ w' hbw ht hcs hfn hgl hdep G hG
                      replace hbw : Below wB.heap.size wB w' := hbw
                      refine ⟨fun _ => ?_, fun h => by cases h⟩
                      have s95 : ρ (.tmp 95) = .pointer (some ⟨b, off + j * 4, none⟩) := hdep ⟨2, .data⟩ (by simp) rfl 95 rfl
                      clear ht hdep hgl
                      go_simp
                      exact hG _ _ (Below.refl _ _) rfl
                  · refine .inr (.inr ⟨fun _ => ?_, fun _ => ?_, can_no (by kernel_rfl)⟩)
                    · intro ρ w' hbw ht hcs hfn hgl hdep G hG
                      replace hbw : Below wB.heap.size wB w' := hbw
                      refine ⟨fun _ => ?_, fun h => by cases h⟩
                      have s96 : ρ (.tmp 96) = .pointer (some ⟨b, off + j * 4 + 1, none⟩) := hdep ⟨3, .data⟩ (by simp) rfl 96 rfl
                      have c1 := cell_later hbw c1
                      have a1 := cell_later hbw a1
                      have z0 := cell_later hbw z0
                      have z1 := cell_later hbw z1
                      clear ht hdep hgl
                      go_simp
                      exact hG _ _ (Below.refl _ _) rfl
                    · intro ρ w' hbw ht hcs hfn hgl hdep G hG
                      replace hbw : Below wB.heap.size wB w' := hbw
                      refine ⟨fun _ => ?_, fun h => by cases h⟩
                      have s96 : ρ (.tmp 96) = .pointer (some ⟨b, off + j * 4 + 1, none⟩) := hdep ⟨3, .data⟩ (by simp) rfl 96 rfl
                      have c1 := cell_later hbw c1
                      have a1 := cell_later hbw a1
                      have z0 := cell_later hbw z0
                      have z1 := cell_later hbw z1
                      clear ht hdep hgl
                      go_simp
                      exact hG _ _ (Below.refl _ _) rfl
                  · refine .inr (.inr ⟨fun _ => ?_, can_no (by kernel_rfl), can_no (by kernel_rfl)⟩)
                    · intro ρ w' hbw ht hcs hfn hgl hdep G hG
                      replace hbw : Below wB.heap.size wB w' := hbw
                      refine ⟨fun _ => ?_, fun h => by cases h⟩
                      have s7 : ρ (.tmp 7) = .slice (some ⟨g, 0, none⟩) N N := ht 7 rfl
                      clear ht hdep hgl
                      go_simp
                      exact hG _ _ (Below.refl _ _) rfl
                  · refine .inr (.inr ⟨fun _ => ?_, can_no (by kernel_rfl), can_no (by kernel_rfl)⟩)
                    · intro ρ w' hbw ht hcs hfn hgl hdep G hG
                      replace hbw : Below wB.heap.size wB w' := hbw
                      refine ⟨fun _ => ?_, fun h => by cases h⟩
                      have s10 : ρ (.tmp 10) = .pointer (some ⟨b, off + j * 4, none⟩) := ht 10 rfl
                      clear ht hdep hgl
                      go_simp
                      exact hG _ _ (Below.refl _ _) rfl
                  · refine .inr (.inr ⟨fun _ => ?_, can_no (by kernel_rfl), can_no (by kernel_rfl)⟩)
                    · intro ρ w' hbw ht hcs hfn hgl hdep G hG
                      replace hbw : Below wB.heap.size wB w' := hbw
                      refine ⟨fun _ => ?_, fun h => by cases h⟩
                      have s99 : ρ (.tmp 99) = .pointer (some ⟨b, off + j * 4, none⟩) := hdep ⟨6, .data⟩ (by simp) rfl 99 rfl
                      clear ht hdep hgl
                      go_simp
                      exact hG _ _ (Below.refl _ _) rfl
                  · refine .inr (.inr ⟨fun _ => ?_, can_no (by kernel_rfl), can_no (by kernel_rfl)⟩)
                    · intro ρ w' hbw ht hcs hfn hgl hdep G hG
                      replace hbw : Below wB.heap.size wB w' := hbw
                      refine ⟨fun _ => ?_, fun h => by cases h⟩
                      have s100 : ρ (.tmp 100) = .pointer (some ⟨b, off + j * 4, none⟩) := hdep ⟨7, .data⟩ (by simp) rfl 100 rfl
                      clear ht hdep hgl
                      go_simp
                      exact hG _ _ (Below.refl _ _) rfl
                  · refine .inr (.inr ⟨fun _ => ?_, can_no (by kernel_rfl), can_no (by kernel_rfl)⟩)
                    · intro ρ w' hbw ht hcs hfn hgl hdep G hG
                      replace hbw : Below wB.heap.size wB w' := hbw
                      refine ⟨fun _ => ?_, fun h => by cases h⟩
                      have s101 : ρ (.tmp 101) = .pointer (some ⟨b, off + j * 4 + 1, none⟩) := hdep ⟨8, .data⟩ (by simp) rfl 101 rfl
                      have c1 := cell_later hbw c1
                      have a1 := cell_later hbw a1
                      have z0 := cell_later hbw z0
                      have z1 := cell_later hbw z1
                      clear ht hdep hgl
                      go_simp
                      exact hG _ _ (Below.refl _ _) rfl
                  · refine .inr (.inr ⟨fun _ => ?_, can_no (by kernel_rfl), can_no (by kernel_rfl)⟩)
                    · intro ρ w' hbw ht hcs hfn hgl hdep G hG
                      replace hbw : Below wB.heap.size wB w' := hbw
                      refine ⟨fun _ => ?_, fun h => by cases h⟩
                      have s98 : ρ (.tmp 98) = .slice (some ⟨g, 0, none⟩) N N := hdep ⟨5, .data⟩ (by simp) rfl 98 rfl
                      have s102 : ρ (.tmp 102) = .int .i64 t := hdep ⟨9, .data⟩ (by simp) rfl 102 rfl
                      clear ht hdep hgl
                      go_simp
                      exact hG _ _ (Below.refl _ _) rfl
                  · refine .inr (.inr ⟨fun _ => ?_, can_no (by kernel_rfl), can_no (by kernel_rfl)⟩)
                    · intro ρ w' hbw ht hcs hfn hgl hdep G hG
                      replace hbw : Below wB.heap.size wB w' := hbw
                      refine ⟨fun _ => ?_, fun h => by cases h⟩
                      have s103 : ρ (.tmp 103) = .pointer (some ⟨g, t, none⟩) := hdep ⟨10, .data⟩ (by simp) rfl 103 rfl
                      have c1 := cell_later hbw c1
                      have a1 := cell_later hbw a1
                      have z0 := cell_later hbw z0
                      have z1 := cell_later hbw z1
                      clear ht hdep hgl
                      go_simp
                      exact hG _ _ (Below.refl _ _) rfl
                  · refine .inr (.inr ⟨fun _ => ?_, can_no (by kernel_rfl), can_no (by kernel_rfl)⟩)
                    · intro ρ w' hbw ht hcs hfn hgl hdep G hG
                      replace hbw : Below wB.heap.size wB w' := hbw
                      refine ⟨fun _ => ?_, fun h => by cases h⟩
                      have s12 : ρ (.tmp 12) = .pointer (some ⟨wr.heap.size, 0, none⟩) := ht 12 rfl
                      have c1 := cell_later hbw c1
                      have a1 := cell_later hbw a1
                      have z0 := cell_later hbw z0
                      have z1 := cell_later hbw z1
                      clear ht hdep hgl
                      go_simp
                      exact hG _ _ (Below.refl _ _) rfl
                  · refine .inr (.inr ⟨fun _ => ?_, can_no (by kernel_rfl), can_no (by kernel_rfl)⟩)
                    · intro ρ w' hbw ht hcs hfn hgl hdep G hG
                      replace hbw : Below wB.heap.size wB w' := hbw
                      refine ⟨fun _ => ?_, fun h => by cases h⟩
                      have s2 : ρ (.tmp 2) = .int .i64 m := ht 2 rfl
                      clear ht hdep hgl
                      go_simp
                      exact hG _ _ (Below.refl _ _) rfl
                  · exact .inl rfl
                  · refine .inr (.inr ⟨fun _ => ?_, fun _ => ?_, can_no (by kernel_rfl)⟩)
                    · intro ρ w' hbw ht hcs hfn hgl hdep G hG
                      replace hbw : Below wB.heap.size wB w' := hbw
                      refine ⟨fun _ => ?_, fun h => by cases h⟩
                      have s93 : ρ (.tmp 93) = .slice (some ⟨g, 0, none⟩) N N := hdep ⟨0, .data⟩ (by simp) rfl 93 rfl
                      have s97 : ρ (.tmp 97) = .int .i64 t := hdep ⟨4, .data⟩ (by simp) rfl 97 rfl
                      clear ht hdep hgl
                      go_simp
                      exact hG _ _ (Below.refl _ _) rfl
                    · intro ρ w' hbw ht hcs hfn hgl hdep G hG
                      replace hbw : Below wB.heap.size wB w' := hbw
                      refine ⟨fun _ => ?_, fun h => by cases h⟩
                      have s93 : ρ (.tmp 93) = .slice (some ⟨g, 0, none⟩) N N := hdep ⟨0, .data⟩ (by simp) rfl 93 rfl
                      have s97 : ρ (.tmp 97) = .int .i64 t := hdep ⟨4, .data⟩ (by simp) rfl 97 rfl
                      clear ht hdep hgl
                      go_simp
                      exact hG _ _ (Below.refl _ _) rfl
                  · exact .inr (.inl rfl)
                · intro o ho
                  obtain rfl := Option.some.inj ho
                  intro ρ w' hbw ht hcs hfn hgl hdep G hG
                  replace hbw : Below wB.heap.size wB w' := hbw
                  refine ⟨fun _ => ?_, fun h => by cases h⟩
                  have s104 : ρ (.tmp 104) = .slice aT (st3 t).length cT := hdep ⟨11, .data⟩ (by simp) rfl 104 rfl
                  have s105 : ρ (.tmp 105) = .agg #[.string (tx ++ la), .int .i64 ws] := hdep ⟨12, .data⟩ (by simp) rfl 105 rfl
                  have s106 : ρ (.tmp 106) = .int .i64 m := hdep ⟨13, .data⟩ (by simp) rfl 106 rfl
                  clear ht hdep hgl
                  go_simp
                  refine (l15Insert_any _ (st3 t) ⟨tx ++ la, ws⟩ m w' (lo := g + 1) ((Rep.flat eReading 74).at_now HAT.out hbw) (Nat.lt_of_lt_of_le HRB.out.lt hbw.size) (by have := HLT.out; omega) (by omega)).mono ?_
                  rintro en w2 ⟨u, rfl, hA2, hbi⟩
                  refine ⟨_, rfl, hG _ _ (hbw.trans (hbi.mono hbw.size)) (newR hA2) ?_⟩
                  intro j u hj hne h
                  match j, h with
                  | 0, h => exact h
                  | 1, h => exact h
                  | 2, h => exact h
                  | 3, h => exact h
                  | 4, h => exact h
                  | 5, h => exact h
                  | 6, h => exact h
                  | 7, h => exact h
                  | 8, h => exact h
                  | 9, h => exact h
                  | 10, h => exact h
                  | 11, h => exact h
                  | 12, h => exact h
                  | 13, h => exact h
                  | 14, h => exact absurd rfl hne
                  | 15, h => exact h
                  | 16, h => exact trivial
                  | (k + 17), h => exact h
                · intro o ho
                  obtain rfl := Option.some.inj ho
                  intro ρ w' hbw ht hcs hfn hgl hdep G hG
                  replace hbw : Below wB.heap.size wB w' := hbw
                  refine ⟨fun _ => ?_, fun h => by cases h⟩
                  have s108 : ρ (.tmp 108) = .pointer (some ⟨g, t, none⟩) := hdep ⟨15, .data⟩ (by simp) rfl 108 rfl
                  have d107 := hdep ⟨14, .data⟩ (by simp) rfl 107 rfl
                  clear ht hdep hgl
                  obtain ⟨ua, uc, s99, hA2⟩ := d107
                  have hr2 := HRB.out.below hbw
                  obtain ⟨_, _, _, a2, _⟩ := hr2.get htN
                  have q2 := hr2.free t
                  rw [s99] at hA2
                  have h30 := hr2.set htN hA2
                  have h3 := hid (finR h30.1 ((hbB.trans (hbw.mono (Nat.le_of_lt HRB.out.lt))).grown h30.2 (Nat.le_of_lt hr2.lt) (by intro kk hh; cases hh; exact Nat.le_refl _)))
                  clear h30 hA2 hr2
                  go_simp
                  refine hG _ _ h3.out trivial ?_
                  intro j u hj hne h
                  match j, h with
                  | 0, h => exact h
                  | 1, h => exact h
                  | 2, h => exact h
                  | 3, h => exact h
                  | 4, h => exact h
                  | 5, h => exact h
                  | 6, h => exact h
                  | 7, h => exact h
                  | 8, h => exact h
                  | 9, h => exact h
                  | 10, h => exact h
                  | 11, h => exact h
                  | 12, h => exact h
                  | 13, h => exact h
                  | 14, h => exact trivial
                  | 15, h => exact h
                  | 16, h => exact trivial
                  | (k + 17), h => exact h
                intro xx w2 hF hx
                clear hx
                simp only [putAll, Act.put, List.setIfInBounds_toArray, List.set_cons_succ, List.set_cons_zero, Nat.zero_add, Nat.reduceAdd]
                obtain ⟨vs2, hF1, hF2⟩ := hF
                go_wp2
                go_roundw
                case rel => exact ⟨q + 1, _, vs2, by omega, by go_num, hF1, hok4.out, hF2, hid HNEW.out⟩
                case measure => simp [intOf]; omega
              · have hql2 : q = L.length := by omega
                have hqd : ¬ ((q : Int) < (L.length : Int)) := by omega
                have HPA : Hid (st3 = (x.take (j + 1)).foldl (gStT m (begLx y) x f) st) := hid (by
                  rw [HN.out, HS3.out, hql2, HL.out]
                  have h1 := pushK_all m (begLx y) st2 ⟨f, t, la, co⟩
                  have h2 : gStT m (begLx y) x f st2 ⟨f, t, la, co⟩ = pushR m (begLx y) st2 ⟨f, t, la, co⟩ := by unfold gStT; rw [if_pos (by simp [fr])]
                  rw [h2]; exact h1)
                clear hql2
                go_wp2
                go_roundw
                case rel => exact ⟨j + 1, st3, vs, by omega, by go_num, hr, hok3, hb, HPA⟩
                case measure => simp [intOf]; omega
          · have hfki : ¬ ((f : Int) = (k : Int)) := by omega
            have hfd : ((f : Int) == (k : Int)) = false := by simp; omega
            have HPA : Hid (st2 = (x.take (j + 1)).foldl (gStT m (begLx y) x k) st) := hid (by
              rw [HN.out]
              unfold gStT
              rw [if_neg (by simp [fr, hfk])])
            go_wp2
            go_roundw
            case rel => exact ⟨j + 1, st2, vs, by omega, by go_num, hr, hok, hb, HPA⟩
            case measure => simp [intOf]; omega
        · have hjx : j = x.length := by omega
          have hjd : ¬ ((j : Int) < (x.length : Int)) := by omega
          have HST' : Hid (st2 = (List.range (k + 1)).foldl (fun a k => x.foldl (gStT m (begLx y) x k) a) (startR (beg0 y))) := hid (by
            rw [HS2.out, hjx, List.take_length, List.range_succ, List.foldl_append, ← HST.out]; rfl)
          clear hjx
          go_wp2
          go_roundw
          case rel => exact ⟨k + 1, st2, vs, by omega, by go_num, hr, hok, hb, HST'⟩
          case measure => simp [intOf]; omega
    · have hkN : k = N := by omega
      have hkd : ¬ ((k : Int) < (N : Int)) := by omega
      have HFIN : Hid (st = statesR m (begLx y) (beg0 y) x) := hid (by
        rw [HST.out, hkN]
        exact states_rows HG.out HR.out m (begLx y) (beg0 y))
      clear hkN
      go_wp2
      go_ret
      refine ⟨g, rfl, ⟨vs, by rw [← HFIN.out]; exact hr⟩, by rw [Hg.out]; exact Nat.le_refl _, by rw [← Hg.out]; exact hb⟩
end Go.Proofs.YtcikndmmbfompaaGreatDoor
