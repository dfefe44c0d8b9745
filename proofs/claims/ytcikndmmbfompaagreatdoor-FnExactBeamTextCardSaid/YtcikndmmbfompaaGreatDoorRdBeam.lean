/- The implementation's beam: node by node. -/
import Derived.Test.YtcikndmmbfompaaGreatDoorRdRows
namespace Go.Proofs.YtcikndmmbfompaaGreatDoor
open Go.RowKit Go.Sort
attribute [local go_sem ↓] Go.wp_at_zero Go.wp_at_succ

structure RowsO (g N : Nat) (w : World) (vs : List SV) (st : SR) : Prop where
  own : Own eS1 69 g w (.slice (some ⟨g, 0, none⟩) N N) vs
  len : N = vs.length
  row : ∀ (v : Nat) (s : SV), vs[v]? = some s → OwnIn eReading 74 (g + 1) w.heap.size w s.val (st v)
theorem RowsO.toR {g N : Nat} {w : World} {vs : List SV} {st : SR} (h : RowsO g N w vs st) : RowsR g N w vs st := ⟨h.own, h.len, fun v s hs => (h.row v s hs).arrIn⟩
theorem RowsO.below {g N : Nat} {w w' : World} {vs : List SV} {st : SR} (h : RowsO g N w vs st) (hb : Below w.heap.size w w') : RowsO g N w' vs st :=
  ⟨h.own.below hb, h.len, fun v s hs => (Rep.flat eReading 74).own_now (h.row v s hs) hb⟩
theorem RowsO.set {g N : Nat} {w : World} {vs : List SV} {st : SR} (h : RowsO g N w vs st) {v n c : Nat} {a : Option Addr} {L : List DReading} (hv : v < N) (hL : OwnIn eReading 74 (g + 1) w.heap.size w (.slice a n c) L) :
    RowsO g N (w.setCell ⟨g, v, none⟩ (.slice a n c)) (vs.set v ⟨a, n, c⟩) (setR st v L) ∧ w.grownBy (w.setCell ⟨g, v, none⟩ (.slice a n c)) (some g) := by
  have h1 := h.toR.set hv hL.arrIn
  have hch : Chg g (g + 1) w (w.setCell ⟨g, v, none⟩ (.slice a n c)) := chg_set w g v _
  refine ⟨⟨h1.1.own, h1.1.len, fun u s hs => ?_⟩, h1.2⟩
  have hsz : (w.setCell ⟨g, v, none⟩ (.slice a n c)).heap.size = w.heap.size := by simp
  rw [hsz]
  unfold setR
  by_cases e : u = v
  · subst e
    rw [List.getElem?_set_self (by rw [← h.len]; exact hv)] at hs
    cases hs
    rw [if_pos rfl]
    exact hL.chg hch (.inl (Nat.le_refl _))
  · rw [List.getElem?_set_ne (Ne.symm e)] at hs
    rw [if_neg e]
    exact (h.row u s hs).chg hch (.inl (Nat.le_refl _))
theorem RowsO.made {g N : Nat} {w : World} (h : Own eS1 69 g w (.slice (some ⟨g, 0, none⟩) N N) (List.replicate N ⟨none, 0, 0⟩)) : RowsO g N w (List.replicate N ⟨none, 0, 0⟩) (fun _ => []) :=
  ⟨h, by simp, fun v s hs => by
    rw [List.getElem?_replicate] at hs
    split at hs
    · cases hs
      exact ⟨Own.nil _ _ _, fun g hg => by cases hg⟩
    · cases hs⟩
theorem own_block1 {α : Type} {E : Enc α} {e : TypeId} {B : Nat} {w : World} (xs : List α) (n : Nat) (cells : Array Value) (hn : n = xs.length) (hc : cells.toList = E.flat xs) (hm : n ≤ maxLen) (hB : B ≤ w.heap.size) :
    Own E e B (w.alloc (.cells cells e)) (.slice (some ⟨w.heap.size, 0, none⟩) n n) xs := by
  subst hn
  refine ⟨E.flat_len xs, .inr ⟨w.heap.size, xs.length, cells, rfl, hB, heap_alloc_new _ _, Nat.le_refl _, hm, ?_, ?_⟩⟩
  · rw [← Array.length_toList, hc, E.flat_len]
  · rw [hc, ← E.flat_len xs, List.take_length]
theorem pullR_succ (m : Nat) (beg : ByteArray → Bool) (I : List DReading) (x : List DEdge) (k : Nat) : pullR m beg I x (k + 1) = setR (pullR m beg I x k) (k + 1) (topR m (inR beg x (pullR m beg I x k) (k + 1))) := rfl
/-- what has been gathered for a node -/
def gatR (beg : ByteArray → Bool) (x : List DEdge) (st : SR) (v : Nat) : List DReading := (x.filter fun e => decide (to e = v)).flatMap fun e => extsR beg e (st (fr e))
theorem gatR_take (beg : ByteArray → Bool) {x : List DEdge} {st : SR} {v j : Nat} {e : DEdge} (h : x[j]? = some e) : gatR beg (x.take (j + 1)) st v = if to e = v then gatR beg (x.take j) st v ++ extsR beg e (st (fr e)) else gatR beg (x.take j) st v := by
  unfold gatR
  rw [List.take_add_one, h]
  simp only [Option.toList_some, List.filter_append, List.flatMap_append]
  by_cases hv : to e = v
  · simp [hv]
  · simp [hv]
theorem extsR_len (beg : ByteArray → Bool) (e : DEdge) (L : List DReading) : (extsR beg e L).length ≤ L.length := by
  unfold extsR
  exact Nat.le_trans (List.length_filter_le _ _) (by simp)
theorem okS_mono {m m' : Nat} {st : SR} (h : okS m st) (hm : m ≤ m') : okS m' st := fun v => ⟨Nat.le_trans (h v).1 hm, (h v).2⟩
theorem okS_top {m : Nat} {st : SR} (h : okS m st) {v : Nat} {S : List DReading} (hS : ∀ r ∈ S, r.text.size ≤ v) : okS m (setR st v (topR m S)) := by
  intro u
  unfold setR
  split
  · rename_i e
    subst e
    exact ⟨topR_len m S, fun r hr => hS r (topR_mem hr)⟩
  · exact h u
theorem zwrap (n : Int) (h0 : 0 ≤ n) (h1 : n ≤ 1000000) : IntKind.i64.wrap n = n := IntWalk.i64_in _ (by omega)
set_option maxHeartbeats 8000000 in
set_option maxRecDepth 100000 in
theorem beam_any (v1 : Value) (N : Nat) (x : List DEdge) (v2 : Value) (y : XLexicon) (m : Nat) (w : World) {lo1 hi1 lo2 hi2 : Nat} (h1 : rLattice.at_ lo1 hi1 w v1 ((N : Int), x)) (h2 : rLexicon.at_ lo2 hi2 w v2 y) (hv : validLt ((N : Int), x) = true) (hs : Sorted y) (oky : okLexicon y) (gy : goodLexicon y) (hm1 : 1 ≤ m) (hm : m ≤ 1000) :
    Calls Tryz.prog 41 #[v1, v2, .int .i64 m] w fun e w' => ∃ g vs, e = .returned (.slice (some ⟨g, 0, none⟩) N N) ∧ RowsO g N w' vs (pullR m (begLx y) (beg0 y) x (N - 1)) ∧ w.heap.size ≤ g ∧ Below w.heap.size w w' := by
  obtain ⟨u1, rfl, h1⟩ := h1
  replace h1 := ArrIn.arr h1
  obtain ⟨b, off, ao, cap, rfl, hnc, hcm, hao, hc⟩ := h1
  simp only at hnc hao
  unfold maxLen at hcm
  obtain ⟨u2, rfl, h2⟩ := h2
  replace h2 := ArrIn.arr h2
  obtain ⟨ya, yc, hu⟩ := h2.isSlice
  subst hu
  obtain ⟨n1, n2, x2⟩ := valid_bd hv
  have HV := hid hv
  have HG := hid (valid_good hv)
  obtain ⟨i0, hi, hz0, hz1, hz2⟩ := info_parts infRows
  have hNi : (N : Int) ≤ 20 := by omega
  have hN0 : 0 < N := by omega
  have hN1 : (0 : Int) < (N : Int) := by omega
  have hmi : (m : Int) ≤ 1000 := by omega
  have ok' : y.length ≤ 1048576 := oky
  have hb0 := beg_empty y
  obtain ⟨W, hW⟩ : ∃ W, W = (w.alloc (.cells #[.int .i64 N, .slice ao x.length cap] 33)).alloc (.cells #[.slice ya y.length yc] 37) := ⟨_, rfl⟩
  have hbW : Below w.heap.size w W := by rw [hW]; exact (below_alloc _ _).trans ((below_alloc _ _).mono (by simp))
  have q1 : Box W w.heap.size #[.int .i64 N, .slice ao x.length cap] 33 := by rw [hW]; exact (Box.new w _ _).later (below_alloc _ _)
  have q2 : Box W (w.heap.size + 1) #[.slice ya y.length yc] 37 := by
    rw [hW]
    have := Box.new (w.alloc (.cells #[.int .i64 N, .slice ao x.length cap] 33)) #[.slice ya y.length yc] 37
    simp at this
    exact this
  have zW : W.heap.size = w.heap.size + 2 := by rw [hW]; simp
  obtain ⟨p1, hp1⟩ : ∃ p, p = w.heap.size := ⟨_, rfl⟩
  obtain ⟨p2, hp2⟩ : ∃ p, p = w.heap.size + 1 := ⟨_, rfl⟩
  obtain ⟨g, hg⟩ : ∃ g, g = W.heap.size := ⟨_, rfl⟩
  rw [← hp1] at q1
  rw [← hp2] at q2
  have hp1g : p1 < g := by omega
  have hp2g : p2 < g := by omega
  have hwg : w.heap.size ≤ g := by omega
  have hcW : 0 < x.length → Cells eEdge W b off x := fun h => hc.below hbW (hao h).2
  have hbg : 0 < x.length → b < g := fun h => by have := (hao h).2; omega
  have hYW := h2.below hbW
  have l0 := q1.cell (j := 0) rfl
  have l1 := q1.cell (j := 1) rfl
  have m0 := q2.cell (j := 0) rfl
  have HP1 := hid hp1
  have HP2 := hid hp2
  have HW := hid hW
  have Hg := hid hg
  have HYA : ∀ w', Below g W w' → rLexicon.at_ 0 w'.heap.size w' (.agg #[.slice ya y.length yc]) y := fun w' hb => ⟨_, rfl, (hYW.below (by rw [hg] at hb; exact hb)).in_⟩
  have HYH := hid HYA
  clear hp1 hp2 hW hg zW hc h2 hv q1 q2 HYA
  by_cases hy : 0 < y.length
  · have hyi : (0 : Int) < (y.length : Int) := by omega
    have hbeg : beg0 y = [⟨⟨#[]⟩, 0⟩] := by unfold beg0; rw [hb0]; simp [hy]
    clear hb0
    go_enter Tryz.func41, Tryz.ntmps41
    go_wp2_with (at_make; rw [← HP2.out, ← HP1.out, ← HW.out]; refine wpList_make_full _ rfl _ _ 70 rfl W.heap.size 69 i0 _ 1 Tryz.underlying70 hi hz0 hz1 _ _ _ _ N rfl rfl rfl rfl (by rw [hz2]; omega) (by unfold maxLen; omega) (Nat.le_refl _) ?_; intro w1 hown hgr; have hown := Own.made (E := eS1) (z := (⟨none, 0, 0⟩ : SV)) hown rfl; have hr0 := RowsO.made (g := W.heap.size) hown; have hr1 := hr0.below (below_alloc w1 (.cells #[.string ⟨#[]⟩, .int .i64 0] 74)); obtain ⟨_, _, _, q0, _⟩ := hr1.toR.get hN0; have q1 := hr1.toR.free 0; have l0n := (World.cell?_of_block (hgr.block p1 (by have := Hg.out; omega) (by simp))).trans l0; have m0n := (World.cell?_of_block (hgr.block p2 (by have := Hg.out; omega) (by simp))).trans m0)
    rw [← Hg.out] at hown hr0 hr1 q0 q1 ⊢
    have hw1 : Below g W w1 := by rw [Hg.out]; exact (Below.refl _ _).grown hgr (Nat.le_refl _) (by simp)
    have hwg1 : g ≤ w1.heap.size := by rw [Hg.out]; exact hgr.size
    have hgl := hr0.toR.lt
    have hA1 : OwnIn eReading 74 (g + 1) (w1.alloc (.cells #[.string ⟨#[]⟩, .int .i64 0] 74)).heap.size (w1.alloc (.cells #[.string ⟨#[]⟩, .int .i64 0] 74)) (.slice (some ⟨w1.heap.size, 0, none⟩) 1 1) [⟨⟨#[]⟩, 0⟩] :=
      (own_block1 (E := eReading) (B := g + 1) [⟨⟨#[]⟩, 0⟩] 1 #[.string ⟨#[]⟩, .int .i64 0] rfl rfl (maxLen_ge (Nat.le_of_ble_eq_true rfl)) (by omega)).in_
    have hr2' := hr1.set hN0 hA1
    rw [startR_set, ← hbeg] at hr2'
    have hb2 := (hw1.alloc hwg1 _).grown hr2'.2 (by simp; omega) (by intro kk hh; cases hh; exact Nat.le_refl _)
    have hr2 := hr2'.1
    clear hown hr0 hr1 q0 q1 hw1 hwg1 hgl hA1 hr2' hgr hi hz0 hz1 hz2 hbeg hyi l0n m0n
    have HOK0 := hid (okS_start hm1 (I := beg0 y) (by unfold beg0; split <;> simp) (by intro r hr; unfold beg0 at hr; split at hr <;> simp at hr; subst hr; rfl))
    go_loopw [8] (fun i wr => ∃ (k : Nat) (st : SR) (vs : List SV), 1 ≤ k ∧ k ≤ N ∧ i = .int .i64 k ∧ RowsO g N wr vs st ∧ okS m st ∧ Below g W wr ∧ Hid (st = pullR m (begLx y) (beg0 y) x (k - 1))) (fun i _ => N - (intOf i).toNat)
    case atStart => exact ⟨1, _, _, Nat.le_refl _, hN0, rfl, hr2, HOK0.out, hb2, hid rfl⟩
    case round =>
      clear hr2 hb2 HOK0
      obtain ⟨k, st, vs, hk1, hk, rfl, hr, hok, hb, HST⟩ := hrel
      obtain ⟨w0, rfl⟩ : ∃ w0, w0 = wr := ⟨wr, rfl⟩
      have t0 := below_cell hb hp1g l0
      have t1 := below_cell hb hp1g l1
      have t2 := below_cell hb hp2g m0
      by_cases hlt : k < N
      · have hli : (k : Int) < (N : Int) := by omega
        obtain ⟨H, hH⟩ : ∃ H, H = w0.heap.size := ⟨_, rfl⟩
        have hgH : g < H := by rw [hH]; exact hr.toR.lt
        have HH := hid hH
        clear hH
        go_wp2
        go_loopw [9, 35] (fun l i wq => ∃ (j : Nat) (LST : List DReading), j ≤ x.length ∧ i = .int .i64 j ∧ Own eReading 74 H wq l LST ∧ Below H w0 wq ∧ LST.length ≤ j * 1000 ∧ Hid ((∀ r ∈ LST, r.text.size ≤ k) ∧ LST = gatR (begLx y) (x.take j) st k)) (fun _ i _ => x.length - (intOf i).toNat)
        case atStart => exact ⟨0, [], Nat.zero_le _, rfl, Own.nil _ _ _, Below.refl _ _, by simp, hid ⟨by simp, rfl⟩⟩
        case round =>
          clear t0 t1 t2
          obtain ⟨j, LST, hj, rfl, hoL, hbq, hLl, HLS⟩ := hrel
          have hHr : H ≤ wr.heap.size := by rw [HH.out]; exact hbq.size
          have hbr : Below g W wr := hb.trans (hbq.mono (Nat.le_of_lt hgH))
          have t0 := below_cell hbr hp1g l0
          have t1 := below_cell hbr hp1g l1
          have t2 := below_cell hbr hp2g m0
          obtain ⟨la_, lc_, hls⟩ := hoL.isSlice
          subst hls
          by_cases hjl : j < x.length
          · obtain ⟨hao', hbw⟩ := hao (by omega)
            subst hao'
            obtain ⟨e, he⟩ : ∃ e, x[j]? = some e := ⟨_, List.getElem?_eq_getElem hjl⟩
            have hli2 : (j : Int) < (x.length : Int) := by omega
            obtain ⟨f0, f1, f2, f3, f4⟩ := valid_fit HV.out he
            have hlb := valid_lab HV.out he
            obtain ⟨c0, c1, c2, c3⟩ := eEdge_cells (w := W) (hcW (by omega)) he
            have hbgx := hbg (by omega)
            replace c0 := below_cell hbr hbgx c0
            replace c1 := below_cell hbr hbgx c1
            replace c2 := below_cell hbr hbgx c2
            replace c3 := below_cell hbr hbgx c3
            have HGT := hid (gatR_take (begLx y) (st := st) (v := k) he)
            obtain ⟨fq, tq, la, co⟩ := e
            simp only at f0 f1 f2 f3 f4 hlb c0 c1 c2 c3
            obtain ⟨f, rfl⟩ : ∃ f : Nat, fq = f := ⟨fq.toNat, by omega⟩
            obtain ⟨t, rfl⟩ : ∃ t : Nat, tq = t := ⟨tq.toNat, by omega⟩
            clear he hao
            obtain ⟨wE, hwE⟩ : ∃ wE, wE = wr.alloc (.cells #[.int .i64 f, .int .i64 t, .string la, .int .i64 co] 81) := ⟨_, rfl⟩
            have hmE : Below wr.heap.size wr wE := by rw [hwE]; exact below_alloc _ _
            obtain ⟨pe, hpe⟩ : ∃ pe, pe = wr.heap.size := ⟨_, rfl⟩
            have bE : Box wE pe #[.int .i64 f, .int .i64 t, .string la, .int .i64 co] 81 := by rw [hwE, hpe]; exact Box.new _ _ _
            have hoE := hoL.below hmE
            have hbE : Below H w0 wE := hbq.trans (hmE.mono hHr)
            have HWE := hid hwE
            have HPE := hid hpe
            clear hwE hpe
            by_cases htk : t = k
            · subst htk
              have hft : f < t := by omega
              have hfN : f < N := by omega
              obtain ⟨⟨sa, sn, sc⟩, _, _, a0, hAf⟩ := hr.toR.get hfN
              simp only at a0 hAf
              obtain ⟨L, hL⟩ : ∃ L, L = st f := ⟨_, rfl⟩
              have hL9 : L.length ≤ 1000 := by rw [hL]; exact Nat.le_trans (hok f).1 hm
              have hTX := hid (show ∀ r ∈ L, r.text.size ≤ f by rw [hL]; exact (hok f).2)
              rw [← hL] at a0 hAf
              have HL := hid hL
              have HA0 := hid a0
              have HAF := hid hAf
              have ae0 := cell_alloc (below_cell hbq (by exact hgH) a0) (.cells #[.int .i64 f, .int .i64 t, .string la, .int .i64 co] 81)
              have z0 := bE.cell (j := 0) rfl
              have z1 := bE.cell (j := 1) rfl
              have hfNi : (f : Int) < (N : Int) := by omega
              clear hL a0 hAf
              go_wp2_with fail
              rw [← HWE.out]
              try rw [← HPE.out]
              go_loopw [9, 49] (fun l i wz => ∃ (q : Nat) (LS2 : List DReading), q ≤ L.length ∧ i = .int .i64 q ∧ Own eReading 74 H wz l LS2 ∧ Below H w0 wz ∧ Box wz pe #[.int .i64 f, .int .i64 t, .string la, .int .i64 co] 81 ∧ LS2.length ≤ j * 1000 + q ∧ Hid ((∀ r ∈ LS2, r.text.size ≤ t) ∧ LS2 = LST ++ extsR (begLx y) ⟨f, t, la, co⟩ (L.take q))) (fun _ i _ => L.length - (intOf i).toNat)
              case atStart => exact ⟨0, LST, Nat.zero_le _, rfl, hoE, hbE, bE, by omega, hid ⟨HLS.out.1, by simp [extsR]⟩⟩
              case round =>
                clear t0 t1 t2 c0 c1 c2 c3 hoL hoE hbE bE ae0 z0 z1 hbq hbr hHr hmE
                obtain ⟨q, LS2, hq, rfl, hoL, hbq, bE, hLl2, HL2⟩ := hrel
                have hHr : H ≤ wr.heap.size := by rw [HH.out]; exact hbq.size
                have hbr : Below g W wr := hb.trans (hbq.mono (Nat.le_of_lt hgH))
                have t2 := below_cell hbr hp2g m0
                obtain ⟨la2, lc2, hls⟩ := hoL.isSlice
                subst hls
                by_cases hql : q < L.length
                · have hqi : (q : Int) < (L.length : Int) := by omega
                  obtain ⟨r, hrq⟩ : ∃ r, L[q]? = some r := ⟨_, List.getElem?_eq_getElem hql⟩
                  obtain ⟨b2, o2, ao2, cp2, hv2, hnc2, hcm2, hao2, hcl2⟩ := HAF.out
                  simp only [Value.slice.injEq] at hv2
                  obtain ⟨hae1, _, hae2⟩ := hv2
                  obtain ⟨hae, hlo2, hhi2⟩ := hao2 (by omega)
                  rw [hae] at hae1
                  subst hae1
                  subst hae2
                  unfold maxLen at hcm2
                  obtain ⟨r0, r1⟩ := eReading_cells hcl2 hrq
                  have hb2H : b2 < H := by rw [HH.out]; exact hhi2
                  replace r0 := below_cell hbq hb2H r0
                  replace r1 := below_cell hbq hb2H r1
                  have hrs := hTX.out r (List.mem_of_getElem? hrq)
                  have HXT := hid (extsR_take (beg := begLx y) (e := ⟨f, t, la, co⟩) hrq)
                  obtain ⟨tx, cr⟩ := r
                  simp only at r0 r1 hrs
                  have hcc : ¬ 9223372036854775807 < tx.size + 1 := by omega
                  have hca : tx.size + la.size ≤ 1048576 := by omega
                  clear hao2 hcl2 hrq hae
                  obtain ⟨ws, hws⟩ : ∃ ws, ws = IntKind.i64.wrap (cr + co) := ⟨_, rfl⟩
                  have hws' := hws.symm
                  have HWS := hid hws
                  obtain ⟨w3, hw3⟩ : ∃ w3, w3 = wr.alloc (.cells #[.string tx, .int .i64 cr] 74) := ⟨_, rfl⟩
                  have hm3 : Below wr.heap.size wr w3 := by rw [hw3]; exact below_alloc _ _
                  have x0 : w3.cell? ⟨wr.heap.size, 0, none⟩ = some (.string tx) := by rw [hw3]; simp
                  have x1 : w3.cell? ⟨wr.heap.size, 1, none⟩ = some (.int .i64 cr) := by rw [hw3]; simp
                  have bE3 := bE.later hm3
                  have z2 := cell_alloc (bE.cell (j := 2) rfl) (.cells #[.string tx, .int .i64 cr] 74)
                  have hb3 : Below g W w3 := hbr.trans (hm3.mono (Nat.le_trans (Nat.le_of_lt hgH) hHr))
                  have m3 := cell_alloc t2 (.cells #[.string tx, .int .i64 cr] 74)
                  have ho3 := hoL.below hm3
                  have hbq3 : Below H w0 w3 := hbq.trans (hm3.mono hHr)
                  have h3H : H ≤ w3.heap.size := Nat.le_trans hHr hm3.size
                  have htxs : (tx ++ la).size = tx.size + la.size := ByteArray.size_append ..
                  have HB3 := hid hb3
                  have HW3 := hid hw3
                  have HEX : Hid (extR ⟨tx, cr⟩ ⟨f, t, la, co⟩ = ⟨tx ++ la, ws⟩) := hid (by rw [hws]; rfl)
                  clear hws hw3 bE hm3 t2 hoL
                  go_wp2_with fail
                  rw [← HW3.out]
                  cases hbt : begLx y (tx ++ la)
                  · have HN : Hid ((∀ r ∈ LS2, r.text.size ≤ t) ∧ LS2 = LST ++ extsR (begLx y) ⟨f, t, la, co⟩ (L.take (q + 1))) := hid ⟨HL2.out.1, by rw [HXT.out, HEX.out]; simp [hbt]; exact HL2.out.2⟩
                    refine (begins_is hbt (HYH.out w3 HB3.out) oky gy hs (by rw [htxs]; omega)).mono ?_
                    rintro en w4 ⟨rfl, hb4⟩
                    go_wp2_with fail
                    go_roundw
                    case rel => exact ⟨q + 1, LS2, by omega, by go_num, ho3.below hb4, hbq3.trans (hb4.mono h3H), bE3.later hb4, by omega, HN⟩
                    case measure => simp [intOf]; omega
                  · have HN : Hid ((∀ r ∈ LS2 ++ [⟨tx ++ la, ws⟩], r.text.size ≤ t) ∧ LS2 ++ [⟨tx ++ la, ws⟩] = LST ++ extsR (begLx y) ⟨f, t, la, co⟩ (L.take (q + 1))) := hid ⟨by
                        intro r hr
                        rcases List.mem_append.1 hr with h | h
                        · exact HL2.out.1 r h
                        · rw [List.mem_singleton.1 h]; show (tx ++ la).size ≤ t; rw [htxs]; omega, by rw [HXT.out, HEX.out]; simp [hbt]; rw [← List.append_assoc, ← HL2.out.2]⟩
                    refine (begins_is hbt (HYH.out w3 HB3.out) oky gy hs (by rw [htxs]; omega)).mono ?_
                    rintro en w4 ⟨rfl, hb4⟩
                    have bE4 := bE3.later hb4
                    have z3 := bE4.cell (j := 3) rfl
                    have y1 := cell_later hb4 x1
                    have ho4 := ho3.below hb4
                    have h4H := Nat.le_trans h3H hb4.size
                    have hbq4 := hbq3.trans (hb4.mono h3H)
                    go_wp2_with (at_builtin; (refine wpList_appA rfl _ _ 69 rfl H 74 _ 24 infReading Tryz.underlying69 rfl _ LS2 rfl (ho4.alloc _) _ [⟨tx ++ la, ws⟩] rfl (by exact arr_block1 (E := eReading) (n := 1) [⟨tx ++ la, ws⟩] #[.string (tx ++ la), .int .i64 ws] rfl rfl (maxLen_ge (Nat.le_of_ble_eq_true rfl)) (by simp)) (by unfold maxLen; simp <;> omega) (by simp <;> omega) (by simp <;> omega) ?_; intro v' wA hoA hbA htA))
                    go_roundw
                    case rel => exact ⟨q + 1, _, by omega, by go_num, hoA, (hbq4.alloc h4H _).trans hbA, (bE4.alloc _).typed htA rfl, by simp; omega, HN⟩
                    case measure => simp [intOf]; omega
                · have hqL : q = L.length := by omega
                  have hqd : ¬ ((q : Int) < (L.length : Int)) := by omega
                  have HN : Hid ((∀ r ∈ LS2, r.text.size ≤ t) ∧ LS2 = gatR (begLx y) (x.take (j + 1)) st t) := hid ⟨HL2.out.1, by
                    rw [HGT.out, if_pos (by simp [to]), HL2.out.2, hqL, List.take_length, HLS.out.2, HL.out]; rfl⟩
                  clear hqL
                  go_wp2_with fail
                  go_roundw
                  case rel => exact ⟨j + 1, LS2, by omega, by go_num, hoL, hbq, by omega, HN⟩
                  case measure => simp [intOf]; omega
            · have hfd : ((t : Int) == (k : Int)) = false := by simp; omega
              have htki : ¬ ((t : Int) = (k : Int)) := by omega
              have HN : Hid ((∀ r ∈ LST, r.text.size ≤ k) ∧ LST = gatR (begLx y) (x.take (j + 1)) st k) := hid ⟨HLS.out.1, by rw [HGT.out, if_neg (by simp [to]; exact htk)]; exact HLS.out.2⟩
              have z1 := bE.cell (j := 1) rfl
              go_wp2_with fail
              rw [← HWE.out]
              go_roundw
              case rel => exact ⟨j + 1, LST, by omega, by go_num, hoE, hbE, by omega, HN⟩
              case measure => simp [intOf]; omega
          · have hjx : j = x.length := by omega
            have hjd : ¬ ((j : Int) < (x.length : Int)) := by omega
            have HG2 : Hid (LST = inR (begLx y) x st k) := hid (by rw [HLS.out.2, hjx, List.take_length]; rfl)
            have HST2 : Hid (setR st k (topR m LST) = pullR m (begLx y) (beg0 y) x k) := hid (by
              obtain ⟨k', rfl⟩ : ∃ k', k = k' + 1 := ⟨k - 1, by omega⟩
              rw [pullR_succ, HG2.out]
              have := HST.out
              rw [Nat.add_sub_cancel] at this
              rw [this])
            have HOK := hid (okS_top hok (v := k) HLS.out.1)
            have hrq := hr.below (w' := wr) (by rw [← HH.out]; exact hbq)
            have HRQ := hid hrq
            have HTX := hid HLS.out.1
            clear hjx
            go_wp2_with fail
            refine (firstReadings_any _ LST m H wr hoL hHr (by omega) (by omega) (fun r hr => by have := HTX.out r hr; omega)).mono ?_
            rintro en w5 ⟨u5, rfl, ho5, hg5⟩
            have hb5 : Below H wr w5 := below_grown hg5 (fun kk hh => (World.ownsRow.lt hoL kk hh).1) hHr
            have hb05 : Below H w0 w5 := hbq.trans hb5
            have hr5 := hr.below (w' := w5) (by rw [← HH.out]; exact hb05)
            obtain ⟨a5, c5, hu5⟩ := ho5.isSlice
            subst hu5
            obtain ⟨_, _, _, y5, _⟩ := hr5.toR.get hlt
            have yf := hr5.toR.free k
            have hg5' : g < w5.heap.size := Nat.lt_of_lt_of_le hgH (Nat.le_trans hHr hb5.size)
            have hs5 := hr5.set hlt ((ho5.in_).mono (lo' := g + 1) (Nat.le_trans hgH hHr) (Nat.le_refl _))
            go_wp2_with fail
            go_roundw
            case rel =>
              refine ⟨k + 1, _, _, by omega, by omega, by go_num, hs5.1, HOK.out, ?_, by rw [Nat.add_sub_cancel]; exact HST2⟩
              exact (hb.trans (hb05.mono (Nat.le_of_lt hgH))).grown hs5.2 (Nat.le_of_lt hg5') (by intro kk hh; cases hh; exact Nat.le_refl _)
            case measure => simp [intOf]; omega
      · have hkN : k = N := by omega
        have hkd : ¬ ((k : Int) < (N : Int)) := by omega
        have HFIN : Hid (st = pullR m (begLx y) (beg0 y) x (N - 1)) := hid (by rw [HST.out, hkN])
        clear hkN
        go_wp2_with fail
        go_ret
        refine ⟨g, rfl, ⟨vs, by rw [← HFIN.out]; exact hr⟩, hwg, ?_⟩
        rw [Hg.out] at hb
        exact hbW.trans (hb.mono hbW.size)
  · have hyi : ¬ ((0 : Int) < (y.length : Int)) := by omega
    have hyd : decide ((0 : Int) < (y.length : Int)) = false := decide_eq_false hyi
    have hbeg : beg0 y = [] := by unfold beg0; rw [hb0]; simp [hy]
    clear hb0
    go_enter Tryz.func41, Tryz.ntmps41
    go_wp2_with (at_make; rw [← HP2.out, ← HP1.out, ← HW.out]; refine wpList_make_full _ rfl _ _ 70 rfl W.heap.size 69 i0 _ 1 Tryz.underlying70 hi hz0 hz1 _ _ _ _ N rfl rfl rfl rfl (by rw [hz2]; omega) (by unfold maxLen; omega) (Nat.le_refl _) ?_; intro w1 hown hgr; have hown := Own.made (E := eS1) (z := (⟨none, 0, 0⟩ : SV)) hown rfl; have hr0 := RowsO.made (g := W.heap.size) hown; have m0n := (World.cell?_of_block (hgr.block p2 (by have := Hg.out; omega) (by simp))).trans m0)
    rw [← Hg.out] at hown hr0 ⊢
    have hb2 : Below g W w1 := by rw [Hg.out]; exact (Below.refl _ _).grown hgr (Nat.le_refl _) (by simp)
    have hr2 : RowsO g N w1 (List.replicate N ⟨none, 0, 0⟩) (startR (beg0 y)) := by
      have : startR (beg0 y) = fun _ => [] := by rw [hbeg]; funext v; unfold startR; split <;> rfl
      rw [this]; exact hr0
    clear hown hr0 hgr hi hz0 hz1 hz2 hbeg hyi hyd m0n
    have HOK0 := hid (okS_start hm1 (I := beg0 y) (by unfold beg0; split <;> simp) (by intro r hr; unfold beg0 at hr; split at hr <;> simp at hr; subst hr; rfl))
    go_loopw [8] (fun i wr => ∃ (k : Nat) (st : SR) (vs : List SV), 1 ≤ k ∧ k ≤ N ∧ i = .int .i64 k ∧ RowsO g N wr vs st ∧ okS m st ∧ Below g W wr ∧ Hid (st = pullR m (begLx y) (beg0 y) x (k - 1))) (fun i _ => N - (intOf i).toNat)
    case atStart => exact ⟨1, _, _, Nat.le_refl _, hN0, rfl, hr2, HOK0.out, hb2, hid rfl⟩
    case round =>
      clear hr2 hb2 HOK0
      obtain ⟨k, st, vs, hk1, hk, rfl, hr, hok, hb, HST⟩ := hrel
      obtain ⟨w0, rfl⟩ : ∃ w0, w0 = wr := ⟨wr, rfl⟩
      have t0 := below_cell hb hp1g l0
      have t1 := below_cell hb hp1g l1
      have t2 := below_cell hb hp2g m0
      by_cases hlt : k < N
      · have hli : (k : Int) < (N : Int) := by omega
        obtain ⟨H, hH⟩ : ∃ H, H = w0.heap.size := ⟨_, rfl⟩
        have hgH : g < H := by rw [hH]; exact hr.toR.lt
        have HH := hid hH
        clear hH
        go_wp2
        go_loopw [9, 35] (fun l i wq => ∃ (j : Nat) (LST : List DReading), j ≤ x.length ∧ i = .int .i64 j ∧ Own eReading 74 H wq l LST ∧ Below H w0 wq ∧ LST.length ≤ j * 1000 ∧ Hid ((∀ r ∈ LST, r.text.size ≤ k) ∧ LST = gatR (begLx y) (x.take j) st k)) (fun _ i _ => x.length - (intOf i).toNat)
        case atStart => exact ⟨0, [], Nat.zero_le _, rfl, Own.nil _ _ _, Below.refl _ _, by simp, hid ⟨by simp, rfl⟩⟩
        case round =>
          clear t0 t1 t2
          obtain ⟨j, LST, hj, rfl, hoL, hbq, hLl, HLS⟩ := hrel
          have hHr : H ≤ wr.heap.size := by rw [HH.out]; exact hbq.size
          have hbr : Below g W wr := hb.trans (hbq.mono (Nat.le_of_lt hgH))
          have t0 := below_cell hbr hp1g l0
          have t1 := below_cell hbr hp1g l1
          have t2 := below_cell hbr hp2g m0
          obtain ⟨la_, lc_, hls⟩ := hoL.isSlice
          subst hls
          by_cases hjl : j < x.length
          · obtain ⟨hao', hbw⟩ := hao (by omega)
            subst hao'
            obtain ⟨e, he⟩ : ∃ e, x[j]? = some e := ⟨_, List.getElem?_eq_getElem hjl⟩
            have hli2 : (j : Int) < (x.length : Int) := by omega
            obtain ⟨f0, f1, f2, f3, f4⟩ := valid_fit HV.out he
            have hlb := valid_lab HV.out he
            obtain ⟨c0, c1, c2, c3⟩ := eEdge_cells (w := W) (hcW (by omega)) he
            have hbgx := hbg (by omega)
            replace c0 := below_cell hbr hbgx c0
            replace c1 := below_cell hbr hbgx c1
            replace c2 := below_cell hbr hbgx c2
            replace c3 := below_cell hbr hbgx c3
            have HGT := hid (gatR_take (begLx y) (st := st) (v := k) he)
            obtain ⟨fq, tq, la, co⟩ := e
            simp only at f0 f1 f2 f3 f4 hlb c0 c1 c2 c3
            obtain ⟨f, rfl⟩ : ∃ f : Nat, fq = f := ⟨fq.toNat, by omega⟩
            obtain ⟨t, rfl⟩ : ∃ t : Nat, tq = t := ⟨tq.toNat, by omega⟩
            clear he hao
            obtain ⟨wE, hwE⟩ : ∃ wE, wE = wr.alloc (.cells #[.int .i64 f, .int .i64 t, .string la, .int .i64 co] 81) := ⟨_, rfl⟩
            have hmE : Below wr.heap.size wr wE := by rw [hwE]; exact below_alloc _ _
            obtain ⟨pe, hpe⟩ : ∃ pe, pe = wr.heap.size := ⟨_, rfl⟩
            have bE : Box wE pe #[.int .i64 f, .int .i64 t, .string la, .int .i64 co] 81 := by rw [hwE, hpe]; exact Box.new _ _ _
            have hoE := hoL.below hmE
            have hbE : Below H w0 wE := hbq.trans (hmE.mono hHr)
            have HWE := hid hwE
            have HPE := hid hpe
            clear hwE hpe
            by_cases htk : t = k
            · subst htk
              have hft : f < t := by omega
              have hfN : f < N := by omega
              obtain ⟨⟨sa, sn, sc⟩, _, _, a0, hAf⟩ := hr.toR.get hfN
              simp only at a0 hAf
              obtain ⟨L, hL⟩ : ∃ L, L = st f := ⟨_, rfl⟩
              have hL9 : L.length ≤ 1000 := by rw [hL]; exact Nat.le_trans (hok f).1 hm
              have hTX := hid (show ∀ r ∈ L, r.text.size ≤ f by rw [hL]; exact (hok f).2)
              rw [← hL] at a0 hAf
              have HL := hid hL
              have HA0 := hid a0
              have HAF := hid hAf
              have ae0 := cell_alloc (below_cell hbq (by exact hgH) a0) (.cells #[.int .i64 f, .int .i64 t, .string la, .int .i64 co] 81)
              have z0 := bE.cell (j := 0) rfl
              have z1 := bE.cell (j := 1) rfl
              have hfNi : (f : Int) < (N : Int) := by omega
              clear hL a0 hAf
              go_wp2_with fail
              rw [← HWE.out]
              try rw [← HPE.out]
              go_loopw [9, 49] (fun l i wz => ∃ (q : Nat) (LS2 : List DReading), q ≤ L.length ∧ i = .int .i64 q ∧ Own eReading 74 H wz l LS2 ∧ Below H w0 wz ∧ Box wz pe #[.int .i64 f, .int .i64 t, .string la, .int .i64 co] 81 ∧ LS2.length ≤ j * 1000 + q ∧ Hid ((∀ r ∈ LS2, r.text.size ≤ t) ∧ LS2 = LST ++ extsR (begLx y) ⟨f, t, la, co⟩ (L.take q))) (fun _ i _ => L.length - (intOf i).toNat)
              case atStart => exact ⟨0, LST, Nat.zero_le _, rfl, hoE, hbE, bE, by omega, hid ⟨HLS.out.1, by simp [extsR]⟩⟩
              case round =>
                clear t0 t1 t2 c0 c1 c2 c3 hoL hoE hbE bE ae0 z0 z1 hbq hbr hHr hmE
                obtain ⟨q, LS2, hq, rfl, hoL, hbq, bE, hLl2, HL2⟩ := hrel
                have hHr : H ≤ wr.heap.size := by rw [HH.out]; exact hbq.size
                have hbr : Below g W wr := hb.trans (hbq.mono (Nat.le_of_lt hgH))
                have t2 := below_cell hbr hp2g m0
                obtain ⟨la2, lc2, hls⟩ := hoL.isSlice
                subst hls
                by_cases hql : q < L.length
                · have hqi : (q : Int) < (L.length : Int) := by omega
                  obtain ⟨r, hrq⟩ : ∃ r, L[q]? = some r := ⟨_, List.getElem?_eq_getElem hql⟩
                  obtain ⟨b2, o2, ao2, cp2, hv2, hnc2, hcm2, hao2, hcl2⟩ := HAF.out
                  simp only [Value.slice.injEq] at hv2
                  obtain ⟨hae1, _, hae2⟩ := hv2
                  obtain ⟨hae, hlo2, hhi2⟩ := hao2 (by omega)
                  rw [hae] at hae1
                  subst hae1
                  subst hae2
                  unfold maxLen at hcm2
                  obtain ⟨r0, r1⟩ := eReading_cells hcl2 hrq
                  have hb2H : b2 < H := by rw [HH.out]; exact hhi2
                  replace r0 := below_cell hbq hb2H r0
                  replace r1 := below_cell hbq hb2H r1
                  have hrs := hTX.out r (List.mem_of_getElem? hrq)
                  have HXT := hid (extsR_take (beg := begLx y) (e := ⟨f, t, la, co⟩) hrq)
                  obtain ⟨tx, cr⟩ := r
                  simp only at r0 r1 hrs
                  have hcc : ¬ 9223372036854775807 < tx.size + 1 := by omega
                  have hca : tx.size + la.size ≤ 1048576 := by omega
                  clear hao2 hcl2 hrq hae
                  obtain ⟨ws, hws⟩ : ∃ ws, ws = IntKind.i64.wrap (cr + co) := ⟨_, rfl⟩
                  have hws' := hws.symm
                  have HWS := hid hws
                  obtain ⟨w3, hw3⟩ : ∃ w3, w3 = wr.alloc (.cells #[.string tx, .int .i64 cr] 74) := ⟨_, rfl⟩
                  have hm3 : Below wr.heap.size wr w3 := by rw [hw3]; exact below_alloc _ _
                  have x0 : w3.cell? ⟨wr.heap.size, 0, none⟩ = some (.string tx) := by rw [hw3]; simp
                  have x1 : w3.cell? ⟨wr.heap.size, 1, none⟩ = some (.int .i64 cr) := by rw [hw3]; simp
                  have bE3 := bE.later hm3
                  have z2 := cell_alloc (bE.cell (j := 2) rfl) (.cells #[.string tx, .int .i64 cr] 74)
                  have hb3 : Below g W w3 := hbr.trans (hm3.mono (Nat.le_trans (Nat.le_of_lt hgH) hHr))
                  have m3 := cell_alloc t2 (.cells #[.string tx, .int .i64 cr] 74)
                  have ho3 := hoL.below hm3
                  have hbq3 : Below H w0 w3 := hbq.trans (hm3.mono hHr)
                  have h3H : H ≤ w3.heap.size := Nat.le_trans hHr hm3.size
                  have htxs : (tx ++ la).size = tx.size + la.size := ByteArray.size_append ..
                  have HB3 := hid hb3
                  have HW3 := hid hw3
                  have HEX : Hid (extR ⟨tx, cr⟩ ⟨f, t, la, co⟩ = ⟨tx ++ la, ws⟩) := hid (by rw [hws]; rfl)
                  clear hws hw3 bE hm3 t2 hoL
                  go_wp2_with fail
                  rw [← HW3.out]
                  cases hbt : begLx y (tx ++ la)
                  · have HN : Hid ((∀ r ∈ LS2, r.text.size ≤ t) ∧ LS2 = LST ++ extsR (begLx y) ⟨f, t, la, co⟩ (L.take (q + 1))) := hid ⟨HL2.out.1, by rw [HXT.out, HEX.out]; simp [hbt]; exact HL2.out.2⟩
                    refine (begins_is hbt (HYH.out w3 HB3.out) oky gy hs (by rw [htxs]; omega)).mono ?_
                    rintro en w4 ⟨rfl, hb4⟩
                    go_wp2_with fail
                    go_roundw
                    case rel => exact ⟨q + 1, LS2, by omega, by go_num, ho3.below hb4, hbq3.trans (hb4.mono h3H), bE3.later hb4, by omega, HN⟩
                    case measure => simp [intOf]; omega
                  · have HN : Hid ((∀ r ∈ LS2 ++ [⟨tx ++ la, ws⟩], r.text.size ≤ t) ∧ LS2 ++ [⟨tx ++ la, ws⟩] = LST ++ extsR (begLx y) ⟨f, t, la, co⟩ (L.take (q + 1))) := hid ⟨by
                        intro r hr
                        rcases List.mem_append.1 hr with h | h
                        · exact HL2.out.1 r h
                        · rw [List.mem_singleton.1 h]; show (tx ++ la).size ≤ t; rw [htxs]; omega, by rw [HXT.out, HEX.out]; simp [hbt]; rw [← List.append_assoc, ← HL2.out.2]⟩
                    refine (begins_is hbt (HYH.out w3 HB3.out) oky gy hs (by rw [htxs]; omega)).mono ?_
                    rintro en w4 ⟨rfl, hb4⟩
                    have bE4 := bE3.later hb4
                    have z3 := bE4.cell (j := 3) rfl
                    have y1 := cell_later hb4 x1
                    have ho4 := ho3.below hb4
                    have h4H := Nat.le_trans h3H hb4.size
                    have hbq4 := hbq3.trans (hb4.mono h3H)
                    go_wp2_with (at_builtin; (refine wpList_appA rfl _ _ 69 rfl H 74 _ 24 infReading Tryz.underlying69 rfl _ LS2 rfl (ho4.alloc _) _ [⟨tx ++ la, ws⟩] rfl (by exact arr_block1 (E := eReading) (n := 1) [⟨tx ++ la, ws⟩] #[.string (tx ++ la), .int .i64 ws] rfl rfl (maxLen_ge (Nat.le_of_ble_eq_true rfl)) (by simp)) (by unfold maxLen; simp <;> omega) (by simp <;> omega) (by simp <;> omega) ?_; intro v' wA hoA hbA htA))
                    go_roundw
                    case rel => exact ⟨q + 1, _, by omega, by go_num, hoA, (hbq4.alloc h4H _).trans hbA, (bE4.alloc _).typed htA rfl, by simp; omega, HN⟩
                    case measure => simp [intOf]; omega
                · have hqL : q = L.length := by omega
                  have hqd : ¬ ((q : Int) < (L.length : Int)) := by omega
                  have HN : Hid ((∀ r ∈ LS2, r.text.size ≤ t) ∧ LS2 = gatR (begLx y) (x.take (j + 1)) st t) := hid ⟨HL2.out.1, by
                    rw [HGT.out, if_pos (by simp [to]), HL2.out.2, hqL, List.take_length, HLS.out.2, HL.out]; rfl⟩
                  clear hqL
                  go_wp2_with fail
                  go_roundw
                  case rel => exact ⟨j + 1, LS2, by omega, by go_num, hoL, hbq, by omega, HN⟩
                  case measure => simp [intOf]; omega
            · have hfd : ((t : Int) == (k : Int)) = false := by simp; omega
              have htki : ¬ ((t : Int) = (k : Int)) := by omega
              have HN : Hid ((∀ r ∈ LST, r.text.size ≤ k) ∧ LST = gatR (begLx y) (x.take (j + 1)) st k) := hid ⟨HLS.out.1, by rw [HGT.out, if_neg (by simp [to]; exact htk)]; exact HLS.out.2⟩
              have z1 := bE.cell (j := 1) rfl
              go_wp2_with fail
              rw [← HWE.out]
              go_roundw
              case rel => exact ⟨j + 1, LST, by omega, by go_num, hoE, hbE, by omega, HN⟩
              case measure => simp [intOf]; omega
          · have hjx : j = x.length := by omega
            have hjd : ¬ ((j : Int) < (x.length : Int)) := by omega
            have HG2 : Hid (LST = inR (begLx y) x st k) := hid (by rw [HLS.out.2, hjx, List.take_length]; rfl)
            have HST2 : Hid (setR st k (topR m LST) = pullR m (begLx y) (beg0 y) x k) := hid (by
              obtain ⟨k', rfl⟩ : ∃ k', k = k' + 1 := ⟨k - 1, by omega⟩
              rw [pullR_succ, HG2.out]
              have := HST.out
              rw [Nat.add_sub_cancel] at this
              rw [this])
            have HOK := hid (okS_top hok (v := k) HLS.out.1)
            have hrq := hr.below (w' := wr) (by rw [← HH.out]; exact hbq)
            have HRQ := hid hrq
            have HTX := hid HLS.out.1
            clear hjx
            go_wp2_with fail
            refine (firstReadings_any _ LST m H wr hoL hHr (by omega) (by omega) (fun r hr => by have := HTX.out r hr; omega)).mono ?_
            rintro en w5 ⟨u5, rfl, ho5, hg5⟩
            have hb5 : Below H wr w5 := below_grown hg5 (fun kk hh => (World.ownsRow.lt hoL kk hh).1) hHr
            have hb05 : Below H w0 w5 := hbq.trans hb5
            have hr5 := hr.below (w' := w5) (by rw [← HH.out]; exact hb05)
            obtain ⟨a5, c5, hu5⟩ := ho5.isSlice
            subst hu5
            obtain ⟨_, _, _, y5, _⟩ := hr5.toR.get hlt
            have yf := hr5.toR.free k
            have hg5' : g < w5.heap.size := Nat.lt_of_lt_of_le hgH (Nat.le_trans hHr hb5.size)
            have hs5 := hr5.set hlt ((ho5.in_).mono (lo' := g + 1) (Nat.le_trans hgH hHr) (Nat.le_refl _))
            go_wp2_with fail
            go_roundw
            case rel =>
              refine ⟨k + 1, _, _, by omega, by omega, by go_num, hs5.1, HOK.out, ?_, by rw [Nat.add_sub_cancel]; exact HST2⟩
              exact (hb.trans (hb05.mono (Nat.le_of_lt hgH))).grown hs5.2 (Nat.le_of_lt hg5') (by intro kk hh; cases hh; exact Nat.le_refl _)
            case measure => simp [intOf]; omega
      · have hkN : k = N := by omega
        have hkd : ¬ ((k : Int) < (N : Int)) := by omega
        have HFIN : Hid (st = pullR m (begLx y) (beg0 y) x (N - 1)) := hid (by rw [HST.out, hkN])
        clear hkN
        go_wp2_with fail
        go_ret
        refine ⟨g, rfl, ⟨vs, by rw [← HFIN.out]; exact hr⟩, hwg, ?_⟩
        rw [Hg.out] at hb
        exact hbW.trans (hb.mono hbW.size)
end Go.Proofs.YtcikndmmbfompaaGreatDoor
