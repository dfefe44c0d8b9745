/- The number of paths of a lattice, and the calls that count them. -/
import Derived.Test.YtkgfonchklnckaaLtValid2
import Derived.Test.YtkgfonchklnckaaIntArr
import Derived.Deep.RegionHeld3
import Derived.Deep.DrawnRows
import Derived.StillTailTactics
import Derived.IntWalk
namespace Go.Proofs.Ytkgfonchklnckaa
open Go.RowKit
attribute [local go_sem ↓] Go.wp_at_zero Go.wp_at_succ

def stepW (node : Nat) (ws : List Int) (e : DEdge) : List Int :=
  if e.frm = node then ws.set e.to_.toNat (min 1000001 (ws.getD e.to_.toNat 0 + ws.getD node 0)) else ws
def rowW (x : List DEdge) (ws : List Int) (node : Nat) : List Int := x.foldl (stepW node) ws
def waysW (n : Nat) (x : List DEdge) (k : Nat) : List Int := (List.range k).foldl (rowW x) ((List.replicate n 0).set 0 1)
def waysLt (x : XLattice) : Int := (waysW x.1.toNat x.2 x.1.toNat).getD (x.1.toNat - 1) 0
def pathN (x : XLattice) : Int := if validLt x then (if 1000000 < waysLt x then 0 else waysLt x) else 0
def pathC (x : XLattice) : Int := if validLt x then (if 1000000 < waysLt x then 5 else 0) else 1

def okW (n : Nat) (ws : List Int) : Prop := n = ws.length ∧ ∀ (k : Nat) (u : Int), ws[k]? = some u → 0 ≤ u ∧ u ≤ 1000001
theorem okW_set {n : Nat} {ws : List Int} (h : okW n ws) {k : Nat} {u : Int} (h0 : 0 ≤ u) (h1 : u ≤ 1000001) : okW n (ws.set k u) := by
  refine ⟨by simpa using h.1, fun j v hj => ?_⟩
  rw [List.getElem?_set] at hj
  split at hj
  · split at hj
    · cases hj; exact ⟨h0, h1⟩
    · cases hj
  · exact h.2 j v hj
theorem okW_start (n : Nat) : okW n ((List.replicate n 0).set 0 1) := by
  refine okW_set ⟨by simp, fun k u h => ?_⟩ (by omega) (by omega)
  rw [List.getElem?_replicate] at h
  split at h
  · cases h; omega
  · cases h
theorem okW_get {n : Nat} {ws : List Int} (h : okW n ws) {k : Nat} (hk : k < n) : ∃ u, ws[k]? = some u ∧ ws.getD k 0 = u ∧ 0 ≤ u ∧ u ≤ 1000001 := by
  have hlt : k < ws.length := by rw [← h.1]; exact hk
  have h1 := List.getElem?_eq_getElem hlt
  exact ⟨ws[k], h1, by simp [List.getD, h1], h.2 k _ h1⟩
theorem rowW_take {x : List DEdge} {ws : List Int} {node k : Nat} {e : DEdge} (h : x[k]? = some e) : rowW (x.take (k + 1)) ws node = stepW node (rowW (x.take k) ws node) e := by
  unfold rowW
  rw [List.take_add_one, h]; simp
theorem waysW_succ (n : Nat) (x : List DEdge) (k : Nat) : waysW n x (k + 1) = rowW x (waysW n x k) k := by
  unfold waysW
  rw [List.range_succ]; simp
theorem fit_of {n : Int} {e : DEdge} (h : fitE n e = true) : 0 ≤ e.frm ∧ e.frm < e.to_ ∧ e.to_ < n ∧ 0 ≤ e.cost ∧ e.cost ≤ 1000000 := by
  simp [fitE, inB] at h; omega
theorem valid_fit {n : Int} {x : List DEdge} (h : validLt (n, x) = true) {k : Nat} {e : DEdge} (he : x[k]? = some e) : 0 ≤ e.frm ∧ e.frm < e.to_ ∧ e.to_ < n ∧ 0 ≤ e.cost ∧ e.cost ≤ 1000000 := by
  have h1 : validEd n x = true := by simp [validLt] at h; exact h.2
  have h2 := validEd_mem h1 he
  simp [edOk] at h2
  exact fit_of h2.1.1
theorem valid_bd {n : Int} {x : List DEdge} (h : validLt (n, x) = true) : 1 ≤ n ∧ n ≤ 20 ∧ x.length ≤ 200 := by
  simp [validLt, inB] at h; omega

set_option maxHeartbeats 4000000 in
theorem specPathCount_any (v : Value) (x : XLattice) (w : World) {lo hi : Nat} (h : rLattice.at_ lo hi w v x) (ok : okLattice x) (g : goodLattice x) :
    Calls Try.prog 16 #[v] w (Ret (.tuple #[.int .i64 (pathN x), .int .i64 (pathC x)]) w) := by
  obtain ⟨u, rfl, h⟩ := h
  replace h := ArrIn.arr h
  obtain ⟨n, x⟩ := x
  have hA := h
  obtain ⟨b, off, ao, cap, rfl, hnc, hcm, hao, hc⟩ := h
  simp only at hnc hao
  unfold maxLen at hcm
  have ok' : x.length ≤ 1048576 := ok
  have q0 : (w.alloc (.cells #[.int .i64 n, .slice ao x.length cap] 29)).cell? ⟨w.heap.size, 0, none⟩ = some (.int .i64 n) := by simp
  have q1 : (w.alloc (.cells #[.int .i64 n, .slice ao x.length cap] 29)).cell? ⟨w.heap.size, 1, none⟩ = some (.slice ao x.length cap) := by simp
  cases hv : validLt (n, x)
  · go_enter Try.func16, Try.ntmps16
    go_wp2_with (go_at_call 31; refine (l15Ok_any _ n _ x _ q0 q1 (hA.alloc _) ok g).mono ?_; rintro e w2 ⟨rfl, hb⟩; rw [hv])
    go_ret2
    exact ⟨by simp [pathN, pathC, hv], (below_alloc _ _).trans (hb.mono (by simp))⟩
  obtain ⟨n1, n2, x2⟩ := valid_bd hv
  obtain ⟨m, rfl⟩ : ∃ m : Nat, n = m := ⟨n.toNat, by omega⟩
  have HV : Hid (validLt ((m : Int), x) = true) := hv
  obtain ⟨i0, hi, hz0, hz1, hz2⟩ := info_parts infoInt
  go_enter Try.func16, Try.ntmps16
  go_wp2_with (first | (go_at_call 31; refine (l15Ok_any _ (m : Int) _ x _ q0 q1 (hA.alloc _) ok g).mono ?_; rintro e w2 ⟨rfl, hb⟩; rw [hv]; clear hv; have r0 := cell_later hb q0; have r1 := cell_later hb q1; have hc2 := hc.below (B := w.heap.size) ((below_alloc _ _).trans (hb.mono (by simp))); have hbw2 : Below w.heap.size w w2 := (below_alloc _ _).trans (hb.mono (by simp))) | (at_make; refine wpList_make_full _ rfl _ _ 55 rfl w2.heap.size 2 i0 _ 1 Try.underlying55 hi hz0 hz1 _ _ _ _ m rfl rfl rfl rfl (by rw [hz2]; omega) (by unfold maxLen; omega) (Nat.le_refl _) ?_; intro w3 hown hgr; have hown := Own.made (E := eInt) (z := (0 : Int)) hown rfl; have hf := hown.free (by simp); have s0 := ownI_get hown (by simp) (k := 0) (u := 0) (by rw [List.getElem?_replicate, if_pos (by omega)])))
  have hbw3 : Below w2.heap.size w2 w3 := (Below.refl _ _).grown hgr (Nat.le_refl _) (by simp)
  obtain ⟨g0, hg0⟩ : ∃ g0, g0 = w2.heap.size := ⟨_, rfl⟩
  rw [← hg0] at hown s0 ⊢
  have hbw3' : Below g0 w2 w3 := by rw [hg0]; exact hbw3
  have hown1 := ownI_below (u := 1) (k := 0) hown (by simp) (by omega) hbw3'
  have hwg : w.heap.size < g0 := by rw [hg0]; exact cell_lt r0
  have hbg : 0 < x.length → b < g0 := fun h => by have := (hao h).2; omega
  clear hg0 hf s0 hown hbw3 hbw3' hgr hi hz0 hz1 hz2 hA q0 q1
  go_loopw [5] (fun i wr => ∃ k : Nat, k ≤ m ∧ i = .int .i64 k ∧ Own eInt 2 g0 wr (.slice (some ⟨g0, 0, none⟩) m m) (waysW m x k) ∧ okW m (waysW m x k) ∧ Below g0 w2 wr) (fun i _ => m - (intOf i).toNat)
  case atStart => exact ⟨0, Nat.zero_le _, rfl, hown1.1, okW_start m, hown1.2⟩
  case round =>
    clear hown1
    obtain ⟨k, hk, rfl, ho, hw, hbr⟩ := hrel
    have t0 := hbr.cell (p := ⟨w.heap.size, 0, none⟩) hwg
    rw [r0] at t0
    have t1 := hbr.cell (p := ⟨w.heap.size, 1, none⟩) hwg
    rw [r1] at t1
    have hkm : (k : Int) ≤ (m : Int) := by omega
    by_cases hlt : k < m
    · have hkl : (k : Int) < (m : Int) := by omega
      go_wp2
      go_loopw [6] (fun i wq => ∃ j : Nat, j ≤ x.length ∧ i = .int .i64 j ∧ Own eInt 2 g0 wq (.slice (some ⟨g0, 0, none⟩) m m) (rowW (x.take j) (waysW m x k) k) ∧ okW m (rowW (x.take j) (waysW m x k) k) ∧ Below g0 w2 wq) (fun i _ => x.length - (intOf i).toNat)
      case atStart => exact ⟨0, Nat.zero_le _, rfl, ho, hw, hbr⟩
      case round =>
        clear ho hw t0 t1 hbr
        obtain ⟨j, hj, rfl, ho, hw, hbr⟩ := hrel
        have t0 := hbr.cell (p := ⟨w.heap.size, 0, none⟩) hwg
        rw [r0] at t0
        have t1 := hbr.cell (p := ⟨w.heap.size, 1, none⟩) hwg
        rw [r1] at t1
        by_cases hjl : j < x.length
        · obtain ⟨hao', hbw⟩ := hao (by omega)
          subst hao'
          obtain ⟨e, he⟩ : ∃ e, x[j]? = some e := ⟨_, List.getElem?_eq_getElem hjl⟩
          have hcq : Cells eEdge wr b off x := (hc2 hbw).below hbr (hbg (by omega))
          obtain ⟨c0, c1, c2, c3⟩ := eEdge_cells hcq he
          have hli : (j : Int) < (x.length : Int) := by omega
          obtain ⟨f0, f1, f2, _, _⟩ := valid_fit HV.out he
          have HT := hid (rowW_take (ws := waysW m x k) (node := k) he)
          obtain ⟨fr, to, la, co⟩ := e
          simp only at c0 c1 c2 c3 f0 f1 f2
          obtain ⟨t, rfl⟩ : ∃ t : Nat, to = t := ⟨to.toNat, by omega⟩
          clear he hcq hao
          by_cases hfk : fr = (k : Int)
          · have hq : (fr == (k : Int)) = true := by rw [beq_iff_eq]; exact hfk
            obtain ⟨u1, g1, G1, b1, b2⟩ := okW_get hw (k := t) (by omega)
            obtain ⟨u2, g2, G2, b3, b4⟩ := okW_get hw (k := k) (by omega)
            have a1 := ownI_get ho hw.1 g1
            have a2 := ownI_get ho hw.1 g2
            have hfree := ho.free hw.1
            replace G1 := hid G1
            replace G2 := hid G2
            have HF := hid hfk
            clear hfk g1 g2
            have hti : (t : Int) < (m : Int) := f2
            have hsum : u1 + u2 ≤ 2000002 := by omega
            go_wp2
            have hwr : IntKind.i64.wrap (u1 + u2) = u1 + u2 := IntWalk.i64_in _ (by omega)
            refine wp_region_still_tail 19 (by kernel_rfl) (by kernel_rfl) ?_
            simp only [List.take_succ_cons, List.take_zero, List.drop_succ_cons, List.drop_zero]
            repeat (first | still_step | still_call ((l00Min_any _ _ _).mono fun _ _ h => ⟨h.1, h.2.symm⟩))
            refine wpStill_nil ?_
            change wpList _ _ _ _ _ (World.drew _)
            clear hwr
            go_wp2
            have a3 := ownI_below (u := min 1000001 (u1 + u2)) (k := t) ho hw.1 (by omega) hbr
            go_roundw
            case rel =>
              refine ⟨j + 1, by omega, by go_num, ?_, ?_, ?_⟩
              · rw [HT.out, stepW, if_pos HF.out]
                simp only [Int.toNat_natCast, G1.out, G2.out]
                exact a3.1
              · rw [HT.out, stepW, if_pos HF.out]
                simp only [Int.toNat_natCast, G1.out, G2.out]
                exact okW_set hw (by omega) (by omega)
              · exact a3.2.drew
            case measure => simp [intOf]; omega
          · have hq : (fr == (k : Int)) = false := by rw [beq_eq_false_iff_ne]; exact hfk
            have HF := hid hfk
            clear hfk
            go_wp2
            go_roundw
            case rel =>
              refine ⟨j + 1, by omega, by go_num, ?_, ?_, hbr⟩
              all_goals
                rw [HT.out, stepW, if_neg HF.out]
                assumption
            case measure => simp [intOf]; omega
        · obtain rfl : j = x.length := by omega
          rw [List.take_length] at ho hw
          rw [← waysW_succ] at ho hw
          go_wp2
          go_roundw
          case rel => exact ⟨k + 1, by omega, by go_num, ho, hw, hbr⟩
          case measure => simp [intOf]; omega
    · obtain rfl : k = m := by omega
      obtain ⟨u1, g1, G1, b1, b2⟩ := okW_get hw (k := k - 1) (by omega)
      have a1 := ownI_get ho hw.1 g1
      have hk1 : (0 : Int) ≤ (k : Int) - 1 := by omega
      have hk2 : (k : Int) - 1 < (k : Int) := by omega
      have hk3 : ((k : Int) - 1).toNat = k - 1 := by omega
      have HL : Hid (waysLt ((k : Int), x) = u1) := by show waysLt ((k : Int), x) = u1; simp only [waysLt, Int.toNat_natCast]; exact G1
      have hbe : Below w.heap.size w wr := hbw2.trans (hbr.mono (by omega))
      clear g1 G1
      by_cases hbig : 1000000 < u1
      · go_wp2
        go_ret2
        exact ⟨by simp [pathN, pathC, HV.out, HL.out, hbig], hbe⟩
      · go_wp2
        go_ret2
        exact ⟨by simp only [pathN, pathC, HV.out, HL.out, if_true]; rw [if_neg (by omega), if_neg (by omega)]; rfl, hbe⟩
set_option maxHeartbeats 4000000 in
theorem implPathCount_any (v : Value) (x : XLattice) (w : World) {lo hi : Nat} (h : rLattice.at_ lo hi w v x) (ok : okLattice x) (g : goodLattice x) :
    Calls Try.prog 17 #[v] w (Ret (.tuple #[.int .i64 (pathN x), .int .i64 (pathC x)]) w) := by
  have hR := h
  obtain ⟨u, rfl, h⟩ := h
  replace h := ArrIn.arr h
  obtain ⟨n, x⟩ := x
  have hA := h
  obtain ⟨b, off, ao, cap, rfl, hnc, hcm, hao, hc⟩ := h
  simp only at hnc hao
  unfold maxLen at hcm
  have ok' : x.length ≤ 1048576 := ok
  have q0 : (w.alloc (.cells #[.int .i64 n, .slice ao x.length cap] 29)).cell? ⟨w.heap.size, 0, none⟩ = some (.int .i64 n) := by simp
  have q1 : (w.alloc (.cells #[.int .i64 n, .slice ao x.length cap] 29)).cell? ⟨w.heap.size, 1, none⟩ = some (.slice ao x.length cap) := by simp
  cases hv : validLt (n, x)
  · go_enter Try.func17, Try.ntmps17
    go_wp2_with (go_at_call 15; refine (implValidLattice_any _ (n, x) _ (rLattice.at_alloc hR _) ok g).mono ?_; rintro e w2 ⟨rfl, hb⟩; rw [hv])
    go_ret2
    exact ⟨by simp [pathN, pathC, hv], (below_alloc _ _).trans (hb.mono (by simp))⟩
  obtain ⟨n1, n2, x2⟩ := valid_bd hv
  obtain ⟨m, rfl⟩ : ∃ m : Nat, n = m := ⟨n.toNat, by omega⟩
  have HV : Hid (validLt ((m : Int), x) = true) := hv
  obtain ⟨i0, hi, hz0, hz1, hz2⟩ := info_parts infoInt
  go_enter Try.func17, Try.ntmps17
  go_wp2_with (first | (go_at_call 15; refine (implValidLattice_any _ ((m : Int), x) _ (rLattice.at_alloc hR _) ok g).mono ?_; rintro e w2 ⟨rfl, hb⟩; rw [hv]; clear hv; have r0 := cell_later hb q0; have r1 := cell_later hb q1; have hc2 := hc.below (B := w.heap.size) ((below_alloc _ _).trans (hb.mono (by simp))); have hbw2 : Below w.heap.size w w2 := (below_alloc _ _).trans (hb.mono (by simp))) | (at_make; refine wpList_make_full _ rfl _ _ 55 rfl w2.heap.size 2 i0 _ 1 Try.underlying55 hi hz0 hz1 _ _ _ _ m rfl rfl rfl rfl (by rw [hz2]; omega) (by unfold maxLen; omega) (Nat.le_refl _) ?_; intro w3 hown hgr; have hown := Own.made (E := eInt) (z := (0 : Int)) hown rfl; have hf := hown.free (by simp); have s0 := ownI_get hown (by simp) (k := 0) (u := 0) (by rw [List.getElem?_replicate, if_pos (by omega)])))
  have hbw3 : Below w2.heap.size w2 w3 := (Below.refl _ _).grown hgr (Nat.le_refl _) (by simp)
  obtain ⟨g0, hg0⟩ : ∃ g0, g0 = w2.heap.size := ⟨_, rfl⟩
  rw [← hg0] at hown s0 ⊢
  have hbw3' : Below g0 w2 w3 := by rw [hg0]; exact hbw3
  have hown1 := ownI_below (u := 1) (k := 0) hown (by simp) (by omega) hbw3'
  have hwg : w.heap.size < g0 := by rw [hg0]; exact cell_lt r0
  have hbg : 0 < x.length → b < g0 := fun h => by have := (hao h).2; omega
  clear hg0 hf s0 hown hbw3 hbw3' hgr hi hz0 hz1 hz2 hA q0 q1
  go_loopw [5] (fun i wr => ∃ k : Nat, k ≤ m ∧ i = .int .i64 k ∧ Own eInt 2 g0 wr (.slice (some ⟨g0, 0, none⟩) m m) (waysW m x k) ∧ okW m (waysW m x k) ∧ Below g0 w2 wr) (fun i _ => m - (intOf i).toNat)
  case atStart => exact ⟨0, Nat.zero_le _, rfl, hown1.1, okW_start m, hown1.2⟩
  case round =>
    clear hown1
    obtain ⟨k, hk, rfl, ho, hw, hbr⟩ := hrel
    have t0 := hbr.cell (p := ⟨w.heap.size, 0, none⟩) hwg
    rw [r0] at t0
    have t1 := hbr.cell (p := ⟨w.heap.size, 1, none⟩) hwg
    rw [r1] at t1
    have hkm : (k : Int) ≤ (m : Int) := by omega
    by_cases hlt : k < m
    · have hkl : (k : Int) < (m : Int) := by omega
      go_wp2
      go_loopw [25] (fun i wq => ∃ j : Nat, j ≤ x.length ∧ i = .int .i64 j ∧ Own eInt 2 g0 wq (.slice (some ⟨g0, 0, none⟩) m m) (rowW (x.take j) (waysW m x k) k) ∧ okW m (rowW (x.take j) (waysW m x k) k) ∧ Below g0 w2 wq) (fun i _ => x.length - (intOf i).toNat)
      case atStart => exact ⟨0, Nat.zero_le _, rfl, ho, hw, hbr⟩
      case round =>
        clear ho hw t0 t1 hbr
        obtain ⟨j, hj, rfl, ho, hw, hbr⟩ := hrel
        have t0 := hbr.cell (p := ⟨w.heap.size, 0, none⟩) hwg
        rw [r0] at t0
        have t1 := hbr.cell (p := ⟨w.heap.size, 1, none⟩) hwg
        rw [r1] at t1
        by_cases hjl : j < x.length
        · obtain ⟨hao', hbw⟩ := hao (by omega)
          subst hao'
          obtain ⟨e, he⟩ : ∃ e, x[j]? = some e := ⟨_, List.getElem?_eq_getElem hjl⟩
          have hcq : Cells eEdge wr b off x := (hc2 hbw).below hbr (hbg (by omega))
          obtain ⟨c0, c1, c2, c3⟩ := eEdge_cells hcq he
          have hli : (j : Int) < (x.length : Int) := by omega
          obtain ⟨f0, f1, f2, _, _⟩ := valid_fit HV.out he
          have HT := hid (rowW_take (ws := waysW m x k) (node := k) he)
          obtain ⟨fr, to, la, co⟩ := e
          simp only at c0 c1 c2 c3 f0 f1 f2
          obtain ⟨t, rfl⟩ : ∃ t : Nat, to = t := ⟨to.toNat, by omega⟩
          clear he hcq hao
          by_cases hfk : fr = (k : Int)
          · have hq : (fr == (k : Int)) = true := by rw [beq_iff_eq]; exact hfk
            obtain ⟨u1, g1, G1, b1, b2⟩ := okW_get hw (k := t) (by omega)
            obtain ⟨u2, g2, G2, b3, b4⟩ := okW_get hw (k := k) (by omega)
            have a1 := ownI_get ho hw.1 g1
            have a2 := ownI_get ho hw.1 g2
            have hfree := ho.free hw.1
            replace G1 := hid G1
            replace G2 := hid G2
            have HF := hid hfk
            clear hfk g1 g2
            have hti : (t : Int) < (m : Int) := f2
            have hsum : u1 + u2 ≤ 2000002 := by omega
            obtain ⟨w1, hw1⟩ : ∃ w1, w1 = wr.alloc (.cells #[.int .i64 fr, .int .i64 t, .string la, .int .i64 co] 49) := ⟨_, rfl⟩
            have hm1 : Below wr.heap.size wr w1 := by rw [hw1]; exact below_alloc _ _
            have hgr0 := ho.lt.2
            have hbr1 : Below g0 w2 w1 := hbr.trans (hm1.mono (by omega))
            have ho1 := ho.below hm1
            have a1' := cell_later hm1 a1
            have a2' := cell_later hm1 a2
            have hfree' := ho1.free hw.1
            have e1 : w1.cell? ⟨wr.heap.size, 1, none⟩ = some (.int .i64 t) := by rw [hw1]; simp
            go_wp2
            rw [← hw1]
            clear hw1
            have hwr : IntKind.i64.wrap (u1 + u2) = u1 + u2 := IntWalk.i64_in _ (by omega)
            refine wp_region_still_tail 15 (by kernel_rfl) (by kernel_rfl) ?_
            simp only [List.take_succ_cons, List.take_zero, List.drop_succ_cons, List.drop_zero]
            repeat (first | still_step)
            refine wpStill_nil ?_
            change wpList _ _ _ _ _ (World.drew _)
            clear hwr
            go_wp2
            have a3 := ownI_below (u := min (u1 + u2) 1000001) (k := t) ho1 hw.1 (by omega) hbr1
            go_roundw
            case rel =>
              refine ⟨j + 1, by omega, by go_num, ?_, ?_, ?_⟩
              · rw [HT.out, stepW, if_pos HF.out]
                simp only [Int.toNat_natCast, G1.out, G2.out]
                rw [Int.min_comm 1000001]
                exact a3.1
              · rw [HT.out, stepW, if_pos HF.out]
                simp only [Int.toNat_natCast, G1.out, G2.out]
                exact okW_set hw (by omega) (by omega)
              · exact a3.2.drew
            case measure => simp [intOf]; omega
          · have hq : (fr == (k : Int)) = false := by rw [beq_eq_false_iff_ne]; exact hfk
            have HF := hid hfk
            clear hfk
            have hgr0 := ho.lt.2
            go_wp2
            go_roundw
            case rel =>
              refine ⟨j + 1, by omega, by go_num, ?_, ?_, hbr.alloc (by omega) _⟩
              · rw [HT.out, stepW, if_neg HF.out]
                exact ho.alloc _
              · rw [HT.out, stepW, if_neg HF.out]
                exact hw
            case measure => simp [intOf]; omega
        · obtain rfl : j = x.length := by omega
          rw [List.take_length] at ho hw
          rw [← waysW_succ] at ho hw
          go_wp2
          go_roundw
          case rel => exact ⟨k + 1, by omega, by go_num, ho, hw, hbr⟩
          case measure => simp [intOf]; omega
    · obtain rfl : k = m := by omega
      obtain ⟨u1, g1, G1, b1, b2⟩ := okW_get hw (k := k - 1) (by omega)
      have a1 := ownI_get ho hw.1 g1
      have hk1 : (0 : Int) ≤ (k : Int) - 1 := by omega
      have hk2 : (k : Int) - 1 < (k : Int) := by omega
      have hk3 : ((k : Int) - 1).toNat = k - 1 := by omega
      have HL : Hid (waysLt ((k : Int), x) = u1) := by show waysLt ((k : Int), x) = u1; simp only [waysLt, Int.toNat_natCast]; exact G1
      have hbe : Below w.heap.size w wr := hbw2.trans (hbr.mono (by omega))
      clear g1 G1
      by_cases hbig : 1000000 < u1
      · go_wp2
        go_ret2
        exact ⟨by simp [pathN, pathC, HV.out, HL.out, hbig], hbe⟩
      · go_wp2
        go_ret2
        exact ⟨by simp only [pathN, pathC, HV.out, HL.out, if_true]; rw [if_neg (by omega), if_neg (by omega)]; rfl, hbe⟩
end Go.Proofs.Ytkgfonchklnckaa
