/- slices.Insert of one element of the type Edge into a slice that the call owns. Written by insgen.py. -/
import Derived.Test.YthooeaappnkjgaaLtJoin
import Derived.Test.YthooeaappnkjgaaInsRow
namespace Go.Proofs.Ythooeaappnkjgaa
open Go.RowKit Go.Lib

set_option maxHeartbeats 8000000 in
set_option maxRecDepth 100000 in
theorem insertEdge_any (g cap n k B q : Nat) (x : List DEdge) (a : DEdge) (w : World) (h : Own eEdge 35 B w (.slice (some ⟨g, 0, none⟩) n cap) x) (hn : n = x.length) (hk : k ≤ n) (hq : Box w q #[.int .i64 a.frm, .int .i64 a.to_, .string a.label, .int .i64 a.cost] 35) (hne : q ≠ g) (hn1 : n ≤ 1000) (hBw : B ≤ w.heap.size) :
    Calls Try.prog 35 #[.slice (some ⟨g, 0, none⟩) n cap, .int .i64 k, .slice (some ⟨q, 0, none⟩) 1 1] w fun en w' => ∃ u, en = .returned u ∧ Own eEdge 35 B w' u (insL x k a) ∧ w.grownBy w' (some g) := by
  obtain ⟨i0, hi0, hz0, hzs, hzb⟩ := info_parts infEdge
  have hgl := h.lt
  have hql := hq.lt
  have hra : (eEdge.row a).toArray = #[.int .i64 a.frm, .int .i64 a.to_, .string a.label, .int .i64 a.cost] := rfl
  have hsrc : ∀ j u, (eEdge.row a)[j]? = some u → w.cell? ⟨q, j, none⟩ = some u := fun j u hu => hq.cell (by rw [← hra]; simpa using hu)
  have hni : (n : Int) ≤ 1000 := by omega
  have hki : (k : Int) ≤ (n : Int) := by omega
  have hnc : n ≤ cap ∧ cap ≤ maxLen := by
    obtain ⟨_, _, _, c', hv, hl, hm, _⟩ := h.arr
    simp only [Value.slice.injEq] at hv
    obtain ⟨_, _, rfl⟩ := hv
    exact ⟨by omega, hm⟩
  have hcm := hnc.2
  unfold maxLen at hcm
  have hncI : (n : Int) ≤ (cap : Int) := by omega
  have hkcI : (k : Int) ≤ (cap : Int) := by omega
  by_cases hkn : k = n
  · subst hkn
    have hown : w.ownsRow B 35 4 (.slice (some ⟨g, 0, none⟩) k cap) k (eEdge.flat x) := by subst hn; exact h
    have hins : insL x k a = x ++ [a] := by unfold insL; rw [List.take_of_length_le (by omega), List.drop_of_length_le (by omega)]
    have HINS := hid hins
    have HI0 := hid hi0
    have HZ0 := hid hz0
    have HZS := hid hzs
    have HZB := hid hzb
    have HOWN := hid hown
    have HN := hid hn
    have HSRC := hid hsrc
    clear hi0 hz0 hzs hzb hown hins hn hsrc h hra hk hki
    by_cases hck : cap = k
    all_goals
     go_enter Try.func35, Try.ntmps35
     go_wp2_with (at_builtin; refine wpList_append_own _ rfl _ _ 29 rfl B 35 i0 _ 4 40 Try.underlying29 HI0.out HZ0.out HZS.out HZB.out rfl (by decide) _ k (eEdge.flat x) rfl HOWN.out ⟨q, 0, none⟩ 1 1 (eEdge.row a) rfl rfl (fun j u hu => by rw [Addr.add_lit, Nat.zero_add]; exact HSRC.out j u hu) (eEdge.one a) (by unfold maxLen; omega) (by omega) hBw ?_; intro v' w1 ho1 hg1 _)
     go_ret
     refine ⟨_, rfl, ?_, hg1⟩
     rw [HINS.out]
     unfold Own
     rw [eEdge.flat_append, show eEdge.flat [a] = eEdge.row a by simp [Enc.flat], List.length_append, ← HN.out]
     exact ho1
  · have hkl : k < n := by omega
    have hkeq : ((k : Int) == (n : Int)) = false := by rw [beq_eq_false_iff_ne]; omega
    have hz2 : ¬ ((k : Int) = (n : Int)) := by omega
    have hk1 : (k : Int) + 1 ≤ (n : Int) + 1 := by omega
    have hb1 : (0 : Int) ≤ (k : Int) + 1 := by omega
    have hb3 : (k : Int) ≤ (n : Int) + 1 := by omega
    have hw1 : IntKind.i64.wrap ((k : Int) + 1) = (k : Int) + 1 := by rw [IntKind.wrap_i64]; omega
    have htn : ((k : Int) + 1).toNat = k + 1 := by omega
    have htm : ((n : Int) + 1).toNat = n + 1 := by omega
    have hkx : k ≤ x.length := by omega
    have eS : eEdge.sz = 4 := rfl
    have hsz : (Try.prog.info? 35).map (·.size) = some 4 := by rw [hi0]; simp [hzs, eS]
    have hdl : (eEdge.flat (x.drop k)).length = (n - k) * 4 := by rw [eEdge.flat_len, List.length_drop, ← hn, eS]
    have hone := eEdge.flat_one (x.drop k)
    have hflat : ∀ t v, (eEdge.flat x)[t]? = some v → w.cell? ⟨g, t, none⟩ = some v := fun t v hv => by
      subst hn
      rw [World.ownsRow.cellAt h _ (by rw [← eEdge.flat_len]; exact (List.getElem?_eq_some_iff.1 hv).1)]; exact hv
    have hdrop : ∀ t v, (eEdge.flat (x.drop k))[t]? = some v → (eEdge.flat x)[k * 4 + t]? = some v := fun t v hv => by
      have e1 : eEdge.flat x = eEdge.flat (x.take k) ++ eEdge.flat (x.drop k) := by rw [← eEdge.flat_append, List.take_append_drop]
      rw [e1, List.getElem?_append_right (by rw [flat_take_len eEdge hkx, eS]; exact Nat.le_add_right _ _), flat_take_len eEdge hkx, eS, Nat.add_sub_cancel_left]
      exact hv
    by_cases hroom : n + 1 ≤ cap
    · -- in place
      have hroomI : (n : Int) + 1 ≤ (cap : Int) := by omega
      have hrd : decide ((cap : Int) < (n : Int) + 1) = false := by simp; omega
      have hb2 : ¬ (cap = k + 1) := by omega
      have hb4 : ¬ (cap = k) := by omega
      obtain ⟨ys, hyo, hyl, _⟩ := ownsRow_wide (sz := 4) (xs := eEdge.flat x) (n := n) (by subst hn; exact h) hroom
      have hsp : ∀ t, t < (n + 1) * 4 → (w.cell? ⟨g, t, none⟩).isSome = true := fun t ht => by
        rw [World.ownsRow.cellAt hyo _ ht, List.getElem?_eq_getElem (by omega)]; rfl
      have hfz : ∀ t, w.frozen? ⟨g, t, none⟩ = false := fun t => World.ownsRow.frozenAt hyo t
      have hshq : w.shape? q = some (35, 4) := by unfold World.shape?; rw [show w.heap[q]? = _ from hq]; rfl
      obtain ⟨cur, hcur, hcs⟩ : ∃ cur : Array Value, w.heap[g]? = some (.cells cur 35 (0, 0)) ∧ cur.size = cap * 4 := by
        rcases h.2 with ⟨h0, _⟩ | ⟨g', cap', cur, hv, _, hh, _, _, hs, _⟩
        · cases h0
        · cases hv; exact ⟨cur, hh, hs⟩
      have hshg : w.shape? g = some (35, cap * 4) := by unfold World.shape?; rw [hcur]; simp [hcs]
      have hov : ∀ (lb cb : Nat), (callFunc 63 #[.slice (some ⟨q, 0, none⟩) 1 1, .slice (some ⟨g, (k + 1) * 4, none⟩) lb cb]).run Try.prog w = .ok (.value (.bool false)) w := fun lb cb => by
        rw [run_callFunc_extern Try.func63 (by kernel_rfl) (by kernel_rfl) (by kernel_rfl) (e := Extern.SlicesOverlaps.overlaps #[29, 29] #[4]) (by kernel_rfl),
          Lib.run_overlaps_apart w 29 4 35 Try.underlying29 4 Try.sizeOf35 ⟨q, 0, none⟩ ⟨g, (k + 1) * 4, none⟩ 1 1 lb cb hne 35 35 4 (cap * 4) hshq hshg (by omega) (hq.free 0) (hq.free 4)]
        rfl
      obtain ⟨W1, hW1⟩ : ∃ W1, W1 = w.drew.setCells g ((k + 1) * 4) (eEdge.flat (x.drop k)) := ⟨_, rfl⟩
      obtain ⟨W2, hW2⟩ : ∃ W2, W2 = W1.setCells g (k * 4) (eEdge.row a) := ⟨_, rfl⟩
      have hcp1 : ∀ ty dc sc, (Builtin.copy_ #[29, 29] ty #[.slice (some ⟨g, (k + 1) * 4, none⟩) (n - k) dc, .slice (some ⟨g, k * 4, none⟩) (n + 1 - k) sc]).run Try.prog w.drew = .ok (goInt ((n - k : Nat) : Int)) W1 := fun ty dc sc => by
        rw [hW1]
        exact run_copy_cellsK w.drew _ _ ty 35 4 g ((k + 1) * 4) (n - k) dc ⟨g, k * 4, none⟩ (n + 1 - k) sc (n - k) (eEdge.flat (x.drop k)) Try.underlying29 hsz (by simp only [Nat.min_def]; split <;> omega) hdl
          (fun t v hv => by rw [Addr.add_lit]; exact hflat _ v (hdrop t v hv)) (fun t ht => hsp _ (by rw [hdl] at ht; omega)) (fun t _ => hfz _) hone
      have hsp1 : ∀ t, t < (n + 1) * 4 → (W1.cell? ⟨g, t, none⟩).isSome = true := fun t ht => by
        rw [hW1]
        exact isSome_setCells g (eEdge.flat (x.drop k)) ((k + 1) * 4) w.drew (fun j hj => hsp ((k + 1) * 4 + j) (by rw [hdl] at hj; omega)) t (hsp t ht)
      have hcp2 : ∀ ty dc, (Builtin.copy_ #[29, 29] ty #[.slice (some ⟨g, k * 4, none⟩) (n + 1 - k) dc, .slice (some ⟨q, 0, none⟩) 1 1]).run Try.prog W1 = .ok (goInt 1) W2 := fun ty dc => by
        rw [hW2]
        exact run_copy_cellsK W1 _ _ ty 35 4 g (k * 4) (n + 1 - k) dc ⟨q, 0, none⟩ 1 1 1 (eEdge.row a) Try.underlying29 hsz (by simp only [Nat.min_def]; split <;> omega) (by rw [eEdge.len]; rfl)
          (fun j v hv => by
            rw [Addr.add_lit, Nat.zero_add, hW1, World.cell?_setCells_out g _ _ _ _ (fun hh _ => absurd hh hne)]
            exact hsrc j v hv)
          (fun j hj => hsp1 _ (by rw [eEdge.len] at hj; have : eEdge.sz = 4 := rfl; omega)) (fun j _ => by rw [hW1, World.frozen?_setCells]; exact hfz _) (eEdge.one a)
      have hfin := ins_room a h hn hk hroom (w1 := W1) (w2 := W2) (by rw [hW1, setCells_stores, show (k + 1) * 4 = k * eEdge.sz + eEdge.sz by show (k + 1) * 4 = k * 4 + 4; omega]) (by rw [hW2, setCells_stores]; rfl)
      have HFIN := hid hfin
      have HC1 := hid hcp1
      have HC2 := hid hcp2
      clear hcp1 hcp2 hfin hW1 hW2 hsp hsp1 hfz h hcur hcs hshq hshg hyo hyl hflat hdrop hdl hsz hone hsrc hi0 hz0 hzs hzb hn hra hkx
      go_enter Try.func35, Try.ntmps35
      go_wp2_with (simp only [hov])
      go_region_law (refine step_copy_runI rfl (.tmp 73) (.tmp 76) 29 29 rfl (.slice (some ⟨g, (k + 1) * 4, none⟩) (n - k) (cap - (k + 1))) (.slice (some ⟨g, k * 4, none⟩) (n + 1 - k) (cap - k)) (by simp [Act.eval, Act.put]) (by simp [Act.eval, Act.put]) (HC1.out 3 (cap - (k + 1)) (cap - k)) ?_)
      go_wp2_with (refine wpList_copy_runI _ rfl _ _ 29 29 rfl _ _ rfl rfl (HC2.out _ _) ?_)
      go_ret
      exact ⟨_, rfl, HFIN.out.1, HFIN.out.2⟩
    · -- a new row
      have hcapn : cap = n := by omega
      have hltI : (cap : Int) < (n : Int) + 1 := by omega
      have hkk : (n : Int) + 1 - (k : Int) = ((n + 1 - k : Nat) : Int) := by omega
      have hik : k + (n + 1 - k) = n + 1 := by omega
      have htk : (eEdge.flat (x.take k)).length = k * 4 := by rw [flat_take_len eEdge hkx, eS]
      have e1 : eEdge.flat x = eEdge.flat (x.take k) ++ eEdge.flat (x.drop k) := by rw [← eEdge.flat_append, List.take_append_drop]
      have hold : (Builtin.firstCells i0.size k (.slice (some ⟨g, 0, none⟩) k cap)).run Try.prog w.drew = .ok (eEdge.flat (x.take k)).toArray w.drew := by
        rw [hzs]
        exact run_firstCells_some w.drew eEdge.sz k ⟨g, 0, none⟩ k cap (eEdge.flat (x.take k)) (by rw [htk]; rfl) (fun j v hj => by
          rw [Addr.add_lit, Nat.zero_add]
          refine hflat j v ?_
          rw [e1, List.getElem?_append_left (List.getElem?_eq_some_iff.1 hj).1]; exact hj)
      have hr := fun ty => Lib.run_append_grow_zeros w 29 3 ty 35 i0 _ .i64 .i64 Try.underlying29 Try.underlying3 hi0 hz0 (some ⟨g, 0, none⟩) k cap (eEdge.flat (x.take k)) hold (n + 1 - k) (by omega) (by rw [hzs]; exact eEdge.pos) (by omega) (by omega) (by rw [hzb]; omega) (by rw [hzb, hik]; exact growslice_fits (by omega) (by omega))
      rw [hik] at hr
      have hGn := grownCap_ge w (n + 1) cap 35
      have hGm := grownCap_le_maxLen w (n + 1) cap 35 (by unfold maxLen; omega)
      obtain ⟨G, hG⟩ : ∃ G, G = grownCap w (n + 1) cap 35 := ⟨_, rfl⟩
      rw [← hG] at hr hGn hGm
      obtain ⟨zv, hzv, hzc⟩ : ∃ z, i0.zero = some z ∧ z.cells.size = 4 := ⟨_, hz0, rfl⟩
      have hzz := Option.some.inj (hz0.symm.trans hzv)
      rw [hzz] at hr
      obtain ⟨ROW, hROW⟩ : ∃ ROW : Array Value, ROW = (eEdge.flat (x.take k)).toArray ++ Builtin.zeroCells zv.cells (n + 1 - k) ++ Builtin.zeroCells zv.cells (G - (n + 1)) := ⟨_, rfl⟩
      rw [← hROW] at hr
      have hRs : ROW.size = G * 4 := by
        rw [hROW, Array.size_append, Array.size_append, size_zeroCells, size_zeroCells, hzc]
        simp only [List.size_toArray, htk]
        omega
      obtain ⟨W1, hW1⟩ : ∃ W1, W1 = w.drew.alloc (.cells ROW 35) := ⟨_, rfl⟩
      rw [← hW1] at hr
      obtain ⟨N, hN⟩ : ∃ N, N = w.heap.size := ⟨_, rfl⟩
      rw [← hN] at hr hgl hql hBw
      have hb01 : Below N w W1 := by rw [hN, hW1]; exact (Below.refl _ _).drew.alloc (Nat.le_refl _) _
      have ho : W1.ownsRow B 35 4 (.slice (some ⟨N, 0, none⟩) (n + 1) G) (n + 1) (ROW.toList.take ((n + 1) * 4)) :=
        ⟨by rw [List.length_take, Array.length_toList, hRs]; omega, .inr ⟨N, G, ROW, rfl, hBw, by rw [hN, hW1]; exact heap_alloc_new (w := w.drew) _, hGn, hGm, hRs, rfl⟩⟩
      have hys : ∀ i, i < k * 4 → (ROW.toList.take ((n + 1) * 4))[i]? = (eEdge.flat (x.take k))[i]? := fun i hi => by
        rw [List.getElem?_take_of_lt (by omega), hROW]
        simp only [Array.toList_append]
        rw [List.append_assoc, List.getElem?_append_left (by rw [htk]; exact hi)]
      have hspN : ∀ t, t < (n + 1) * 4 → (W1.cell? ⟨N, t, none⟩).isSome = true := fun t ht => by
        rw [World.ownsRow.cellAt ho _ ht, List.getElem?_eq_getElem (by rw [ho.1]; exact ht)]; rfl
      have hfzN : ∀ t, W1.frozen? ⟨N, t, none⟩ = false := fun t => World.ownsRow.frozenAt ho t
      have hNg : g ≠ N := by omega
      have hNq : q ≠ N := by omega
      have hflat1 : ∀ t v, (eEdge.flat x)[t]? = some v → W1.cell? ⟨g, t, none⟩ = some v := fun t v hv => below_cell hb01 hgl.2 (hflat t v hv)
      have hsrc1 : ∀ j u, (eEdge.row a)[j]? = some u → W1.cell? ⟨q, j, none⟩ = some u := fun j u hu => below_cell hb01 hql (hsrc j u hu)
      obtain ⟨W2, hW2⟩ : ∃ W2, W2 = W1.setCells N (k * 4) (eEdge.row a) := ⟨_, rfl⟩
      obtain ⟨W3, hW3⟩ : ∃ W3, W3 = W2.drew.setCells N ((k + 1) * 4) (eEdge.flat (x.drop k)) := ⟨_, rfl⟩
      have hcp1 : ∀ ty dc, (Builtin.copy_ #[29, 29] ty #[.slice (some ⟨N, k * 4, none⟩) (n + 1 - k) dc, .slice (some ⟨q, 0, none⟩) 1 1]).run Try.prog W1 = .ok (goInt 1) W2 := fun ty dc => by
        rw [hW2]
        exact run_copy_cellsK W1 _ _ ty 35 4 N (k * 4) (n + 1 - k) dc ⟨q, 0, none⟩ 1 1 1 (eEdge.row a) Try.underlying29 hsz (by simp only [Nat.min_def]; split <;> omega) (by rw [eEdge.len]; rfl)
          (fun j v hv => by rw [Addr.add_lit, Nat.zero_add]; exact hsrc1 j v hv)
          (fun j hj => hspN _ (by rw [eEdge.len, eS] at hj; omega)) (fun j _ => hfzN _) (eEdge.one a)
      have hsp2 : ∀ t, t < (n + 1) * 4 → (W2.cell? ⟨N, t, none⟩).isSome = true := fun t ht => by
        rw [hW2]
        exact isSome_setCells N (eEdge.row a) (k * 4) W1 (fun j hj => hspN (k * 4 + j) (by rw [eEdge.len, eS] at hj; omega)) t (hspN t ht)
      have hcp2 : ∀ ty dc sc, (Builtin.copy_ #[29, 29] ty #[.slice (some ⟨N, (k + 1) * 4, none⟩) (n - k) dc, .slice (some ⟨g, k * 4, none⟩) (n - k) sc]).run Try.prog W2.drew = .ok (goInt ((n - k : Nat) : Int)) W3 := fun ty dc sc => by
        rw [hW3]
        exact run_copy_cellsK W2.drew _ _ ty 35 4 N ((k + 1) * 4) (n - k) dc ⟨g, k * 4, none⟩ (n - k) sc (n - k) (eEdge.flat (x.drop k)) Try.underlying29 hsz (by simp only [Nat.min_def]; split <;> omega) hdl
          (fun t v hv => by
            rw [Addr.add_lit]
            show W2.cell? ⟨g, k * 4 + t, none⟩ = some v
            rw [hW2, World.cell?_setCells_out N _ _ _ _ (fun hh _ => absurd hh hNg)]
            exact hflat1 _ v (hdrop t v hv))
          (fun t ht => hsp2 _ (by rw [hdl] at ht; omega)) (fun t _ => by show W2.frozen? _ = false; rw [hW2, World.frozen?_setCells]; exact hfzN _) hone
      have hfin := ins_grow a (E := eEdge) ho hn hk hys (w1 := W2) (w2 := W3) (by rw [hW2, setCells_stores]; rfl) (by rw [hW3, setCells_stores, show (k + 1) * 4 = k * eEdge.sz + eEdge.sz by show (k + 1) * 4 = k * 4 + 4; omega])
      have hgrw : w.grownBy W3 (some g) := ⟨hfin.2.os.trans hb01.os, hfin.2.tape.trans hb01.tape, hfin.2.output.trans hb01.output, Nat.le_trans hb01.size hfin.2.size, fun j hj _ => (hfin.2.block j (Nat.lt_of_lt_of_le hj hb01.size) (by intro hh; have := Option.some.inj hh; omega)).trans (hb01.block j (by omega))⟩
      have hGi : ¬ (G = k) := by omega
      have hGi1 : ¬ (G = k + 1) := by omega
      have hci : ¬ (cap = k) := by omega
      have hGl : (k : Int) ≤ (n : Int) + 1 := by omega
      have HFIN := hid hfin.1
      have HGR := hid hgrw
      have HR := hid hr
      have HC1 := hid hcp1
      have HC2 := hid hcp2
      have hw2 : IntKind.i64.wrap ((n : Int) + 1 - (k : Int)) = ((n + 1 - k : Nat) : Int) := by rw [hkk, IntKind.wrap_i64]; omega
      clear hcp1 hcp2 hfin hgrw hr hW1 hW2 hW3 hsp2 hspN hfzN hflat1 hsrc1 hys ho hROW hRs hzz hzv hzc hG hold htk e1 h hflat hdrop hdl hsz hone hsrc hi0 hz0 hzs hzb hn hra hkx hb01 hN hcapn hGm
      go_enter Try.func35, Try.ntmps35
      go_wp2_with (first | (at_builtin; refine Lib.wpList_append_run _ rfl _ _ _ _ rfl _ _ rfl rfl _ _ (HR.out _) ?_) | (refine wpList_copy_runI _ rfl _ _ 29 29 rfl _ _ rfl rfl (HC1.out _ _) ?_))
      go_region_law (refine step_copy_runI rfl (.tmp 50) (.tmp 53) 29 29 rfl (.slice (some ⟨N, (k + 1) * 4, none⟩) (n - k) (G - (k + 1))) (.slice (some ⟨g, k * 4, none⟩) (n - k) (cap - k)) (by simp [Act.eval, Act.put]) (by simp [Act.eval, Act.put]) (HC2.out 3 (G - (k + 1)) (cap - k)) ?_)
      go_wp2
      go_ret
      exact ⟨_, rfl, HFIN.out, HGR.out⟩
set_option maxHeartbeats 1000000 in
set_option maxRecDepth 100000 in
theorem insertEdgeNil_any (B q : Nat) (a : DEdge) (w : World) (hq : Box w q #[.int .i64 a.frm, .int .i64 a.to_, .string a.label, .int .i64 a.cost] 35) (hBw : B ≤ w.heap.size) :
    Calls Try.prog 35 #[.slice none 0 0, .int .i64 0, .slice (some ⟨q, 0, none⟩) 1 1] w fun en w' => ∃ u, en = .returned u ∧ Own eEdge 35 B w' u [a] ∧ w.grownBy w' none := by
  obtain ⟨i0, hi0, hz0, hzs, hzb⟩ := info_parts infEdge
  have hra : (eEdge.row a).toArray = #[.int .i64 a.frm, .int .i64 a.to_, .string a.label, .int .i64 a.cost] := rfl
  have HSRC := hid (show ∀ j u, (eEdge.row a)[j]? = some u → w.cell? ⟨q, j, none⟩ = some u from fun j u hu => hq.cell (by rw [← hra]; simpa using hu))
  have HI0 := hid hi0
  have HZ0 := hid hz0
  have HZS := hid hzs
  have HZB := hid hzb
  clear hi0 hz0 hzs hzb hra
  go_enter Try.func35, Try.ntmps35
  go_wp2_with (at_builtin; refine wpList_append_own _ rfl _ _ 29 rfl B 35 i0 _ 4 40 Try.underlying29 HI0.out HZ0.out HZS.out HZB.out rfl (by decide) _ 0 [] rfl ⟨by simp, .inl ⟨rfl, rfl⟩⟩ ⟨q, 0, none⟩ 1 1 (eEdge.row a) rfl rfl (fun j u hu => by rw [Addr.add_lit, Nat.zero_add]; exact HSRC.out j u hu) (eEdge.one a) (by unfold maxLen; omega) (by omega) hBw ?_; intro v' w1 ho1 hg1 _)
  go_ret
  refine ⟨_, rfl, ?_, hg1⟩
  unfold Own
  rw [show eEdge.flat [a] = eEdge.row a by simp [Enc.flat]]
  simp only [List.nil_append, Nat.zero_add] at ho1
  exact ho1
end Go.Proofs.Ythooeaappnkjgaa
