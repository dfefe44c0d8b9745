/- The implementation's way to the first readings of a lattice. -/
import Derived.Test.YtnhmailnnggmjaaRdRowsP
import Derived.Test.YtnhmailnnggmjaaRdRaw
import Derived.Test.YtnhmailnnggmjaaAppO
import Derived.BigRegion
import Derived.Deep.RegionHeld3
namespace Go.Proofs.Ytnhmailnnggmjaa
open Go.RowKit Go.Sort
attribute [local go_sem ↓] Go.wp_at_zero Go.wp_at_succ

theorem RowsP.drew {g N : Nat} {w : World} {vs : List SV} {st : SR} (h : RowsP g N w vs st) : RowsP g N w.drew vs st := ⟨h.own, h.len, h.row, h.apart⟩
theorem RowsP.toR {g N : Nat} {w : World} {vs : List SV} {st : SR} (h : RowsP g N w vs st) : RowsR g N w vs st := h.toO.toR
theorem rows_cell {g N : Nat} {w : World} {vs : List SV} (h : Own eS1 37 g w (.slice (some ⟨g, 0, none⟩) N N) vs) (hl : N = vs.length) {v : Nat} (hv : v < N) : ∃ u, w.cell? ⟨g, v, none⟩ = some u := by
  have := h.slot hl v hv 0 (by decide)
  have e0 : v * eS1.sz + 0 = v := by show v * 1 + 0 = v; omega
  rwa [e0] at this
theorem grown_alloc (w : World) (o : Obj) (r : Option Nat) : w.grownBy (w.alloc o) r := ⟨rfl, rfl, rfl, by simp, fun k hk _ => (below_alloc w o).block k hk⟩
theorem RowsP.start {g N : Nat} {w : World} (h : Own eS1 37 g w (.slice (some ⟨g, 0, none⟩) N N) (List.replicate N ⟨none, 0, 0⟩)) (hN : 0 < N) :
    ∃ vs, RowsP g N ((w.alloc (.cells #[.string ⟨#[]⟩, .int .i64 0] 27)).setCell ⟨g, 0, none⟩ (.slice (some ⟨w.heap.size, 0, none⟩) 1 1)) vs (startR I0) ∧ Below g w ((w.alloc (.cells #[.string ⟨#[]⟩, .int .i64 0] 27)).setCell ⟨g, 0, none⟩ (.slice (some ⟨w.heap.size, 0, none⟩) 1 1)) := by
  have h0 := RowsP.made h
  have hgl := h0.toR.lt
  have hA : OwnIn eReading 27 (g + 1) (w.alloc (.cells #[.string ⟨#[]⟩, .int .i64 0] 27)).heap.size (w.alloc (.cells #[.string ⟨#[]⟩, .int .i64 0] 27)) (.slice (some ⟨w.heap.size, 0, none⟩) 1 1) I0 :=
    (own_block1 (E := eReading) (B := g + 1) [⟨⟨#[]⟩, 0⟩] 1 #[.string ⟨#[]⟩, .int .i64 0] rfl rfl (maxLen_ge (Nat.le_of_ble_eq_true rfl)) (by omega)).in_
  have hp := h0.put (w1 := w.alloc (.cells #[.string ⟨#[]⟩, .int .i64 0] 27)) hN (s := ⟨none, 0, 0⟩) (by rw [List.getElem?_replicate, if_pos hN]) (grown_alloc _ _ _) hA (.inr fun q hq => by simp [Value.ownBlock] at hq; omega)
  rw [startR_set] at hp
  exact ⟨_, hp.1, ((below_alloc w _).mono (Nat.le_of_lt hgl)).grown hp.2 (by simp; omega) (by intro kk hh; cases hh; exact Nat.le_refl _)⟩
theorem valid_labs {n : Int} {x : List DEdge} (h : validLt (n, x) = true) : ∀ e ∈ x, e.label.size = 1 := fun e he => by
  obtain ⟨k, hk⟩ := List.mem_iff_getElem?.1 he
  exact valid_lab h hk
/-- what a node's rows are, step by step -/
structure PartOk (G : List DReading → List DReading) (beg : ByteArray → Bool) (x : List DEdge) (st : SR) (k j B m : Nat) (st2 : SR) : Prop where
  eq : st2 = partR G beg x st k j
  ok : okB (B + j * 1000) st2
  row : (st2 k).length ≤ m
theorem PartOk.next {G : List DReading → List DReading} {beg : ByteArray → Bool} {x : List DEdge} {st st2 : SR} {k j B m : Nat} {e : DEdge} (h : PartOk G beg x st k j B m st2) (he : x[j]? = some e) (hf : fr e = k) (hl : fr e < to e) (hs : e.label.size = 1) (hm : m ≤ 1000) : PartOk G beg x st k (j + 1) B m (layR beg st2 e) := by
  refine ⟨by rw [partR_at he, if_pos hf, h.eq], ?_, ?_⟩
  · rw [← layQ_all]
    exact (h.ok.layQ (m := m) (by rw [hf]; exact h.row) hl hs _).mono (by omega)
  · have : layR beg st2 e k = st2 k := by unfold layR setR; rw [if_neg (by omega)]
    rw [this]; exact h.row
theorem PartOk.skip {G : List DReading → List DReading} {beg : ByteArray → Bool} {x : List DEdge} {st st2 : SR} {k j B m : Nat} {e : DEdge} (h : PartOk G beg x st k j B m st2) (he : x[j]? = some e) (hf : fr e ≠ k) : PartOk G beg x st k (j + 1) B m st2 :=
  ⟨by rw [partR_at he, if_neg hf, h.eq], h.ok.mono (by omega), h.row⟩
theorem PartOk.lay {G : List DReading → List DReading} {beg : ByteArray → Bool} {x : List DEdge} {st st2 : SR} {k j B m : Nat} {e : DEdge} (h : PartOk G beg x st k j B m st2) (hf : fr e = k) (hl : fr e < to e) (hs : e.label.size = 1) (q : Nat) : okB (B + j * 1000 + m) (layQ beg st2 e q) :=
  h.ok.layQ (m := m) (by rw [hf]; exact h.row) hl hs q
theorem part_start {G : List DReading → List DReading} {beg : ByteArray → Bool} {I : List DReading} {N m k : Nat} {x : List DEdge} {D st : SR} (h : WayR G beg I N m x D) (hg : Good N x) (hk : k < N) (hst : st = rawR G beg I x k) (_ : m ≤ 1000) (hG : ∀ S r, r ∈ G S → r ∈ S) : PartOk G beg x st k 0 (m + x.length * m) m (setR st k (G (st k))) := by
  subst hst
  have h1 := way_at h hk hg
  refine ⟨rfl, ?_, by unfold setR; rw [if_pos rfl]; exact h1⟩
  rw [Nat.zero_mul, Nat.add_zero]
  exact (h.bd k (Nat.le_of_lt hk)).put (m := m) (by omega) h1 (hG _)
theorem part_end {G : List DReading → List DReading} {beg : ByteArray → Bool} {I : List DReading} {B m k : Nat} {x : List DEdge} {st st2 : SR} (h : PartOk G beg x st k x.length B m st2) (hst : st = rawR G beg I x k) : st2 = rawR G beg I x (k + 1) := by
  rw [h.eq, partR_all, rawR_succ, hst]

theorem grown_cell {w w' : World} {r : Option Nat} {p o : Nat} {u : Value} (h : w.grownBy w' r) (hc : w.cell? ⟨p, o, none⟩ = some u) (hne : r ≠ some p) : w'.cell? ⟨p, o, none⟩ = some u :=
  (World.cell?_of_block (h.block p (cell_lt hc) (fun e => hne e.symm))).trans hc
theorem own_box_ne {α : Type} {E : Enc α} {e : TypeId} {B : Nat} {w : World} {v : Value} {xs : List α} {p : Nat} {cs : Array Value} {T : TypeId} (h : Own E e B w v xs) (hb : Box w p cs T) (hT : T ≠ e) : v.ownBlock ≠ some p := by
  rcases h.2 with ⟨hv, _⟩ | ⟨g, cap, cur, hv, _, hg, _⟩
  · rw [hv]; simp [Value.ownBlock]
  · rw [hv]
    intro he
    have : g = p := by simpa [Value.ownBlock] using he
    subst this
    rw [hb] at hg
    cases hg
    exact hT rfl
def NewO (lo B : Nat) (blk : Option Nat) (w' : World) (v : Value) (L : List DReading) : Prop := ∃ ua uc, v = .slice ua L.length uc ∧ OwnIn eReading 27 lo w'.heap.size w' v L ∧ (v.ownBlock = blk ∨ ∀ q, v.ownBlock = some q → B ≤ q)
theorem NewO.below {lo B : Nat} {blk : Option Nat} {w w' : World} {v : Value} {L : List DReading} (h : NewO lo B blk w v L) (hb : Below w.heap.size w w') : NewO lo B blk w' v L := by
  obtain ⟨ua, uc, h1, h2, h3⟩ := h
  exact ⟨ua, uc, h1, (Rep.flat eReading 27).own_now h2 hb, h3⟩
def FinP (g N : Nat) (W : World) (pe : Nat) (cs : Array Value) (f : Nat) (sF : SV) (st : SR) (w' : World) : Prop := ∃ vs, RowsP g N w' vs st ∧ vs[f]? = some sF ∧ Below g W w' ∧ Box w' pe cs 89
theorem FinP.below {g N : Nat} {W : World} {pe : Nat} {cs : Array Value} {f : Nat} {sF : SV} {st : SR} {w w' : World} (h : FinP g N W pe cs f sF st w) (hb : Below w.heap.size w w') : FinP g N W pe cs f sF st w' := by
  obtain ⟨vs, h1, h2, h3, h4⟩ := h
  exact ⟨vs, h1.below hb, h2, h3.trans (hb.mono (Nat.le_of_lt h1.toR.lt)), h4.later hb⟩

theorem grown_of_below {w w' w'' : World} {r : Option Nat} (hb : Below w.heap.size w w') (h : w'.grownBy w'' r) : w.grownBy w'' r :=
  ⟨h.os.trans hb.os, h.tape.trans hb.tape, h.output.trans hb.output, Nat.le_trans hb.size h.size, fun k hk hne => (h.block k (Nat.lt_of_lt_of_le hk hb.size) hne).trans (hb.block k hk)⟩
theorem boxOther2 {w : World} {q p o : Nat} {cs : Array Value} {T : TypeId} {u : Value} (h : Box w q cs T) (hne : q ≠ p) : Box (w.setCell ⟨p, o, none⟩ u) q cs T := by
  unfold Box at *
  rw [Below.heap_setCell _ _ _ _ hne]; exact h
set_option maxHeartbeats 8000000 in
set_option maxRecDepth 100000 in
theorem bestReadings_any (v1 : Value) (N m : Nat) (x : List DEdge) (w : World) {lo1 hi1 : Nat} (h1 : rLattice.at_ lo1 hi1 w v1 ((N : Int), x)) (hv : validLt ((N : Int), x) = true) (hm1 : 1 ≤ m) (hm : m ≤ 1000) :
    Calls Try.prog 42 #[v1, .int .i64 m] w fun e w' => ∃ u, e = .returned u ∧ Own eReading 27 w.heap.size w' u (statesR m (fun _ => true) I0 x (N - 1)) ∧ Below w.heap.size w w' := by
  obtain ⟨u1, rfl, h1⟩ := h1
  replace h1 := ArrIn.arr h1
  obtain ⟨b, off, ao, cap, rfl, hnc, hcm, hao, hc⟩ := h1
  simp only at hnc hao
  unfold maxLen at hcm
  obtain ⟨n1, n2, x2⟩ := valid_bd hv
  have HV := hid hv
  have HG := hid (valid_good hv)
  have HWAY := hid (best_way (valid_good hv) (valid_rises hv) (valid_labs hv) hm1)
  obtain ⟨i0, hi, hz0, hz1, hz2⟩ := info_parts infRows
  have hNi : (N : Int) ≤ 20 := by omega
  have hN0 : 0 < N := by omega
  have hN1 : (0 : Int) < (N : Int) := by omega
  have hmi : (m : Int) ≤ 1000 := by omega
  obtain ⟨B0, hB0⟩ : ∃ B0, B0 = m + x.length * m := ⟨_, rfl⟩
  have hB1 : B0 ≤ 201000 := by
    have := Nat.mul_le_mul x2 hm
    omega
  have HB0 := hid hB0
  obtain ⟨W, hW⟩ : ∃ W, W = w.alloc (.cells #[.int .i64 N, .slice ao x.length cap] 32) := ⟨_, rfl⟩
  have hbW : Below w.heap.size w W := by rw [hW]; exact below_alloc _ _
  have q1 : Box W w.heap.size #[.int .i64 N, .slice ao x.length cap] 32 := by rw [hW]; exact Box.new w _ _
  have zW : W.heap.size = w.heap.size + 1 := by rw [hW]; simp
  obtain ⟨p1, hp1⟩ : ∃ p, p = w.heap.size := ⟨_, rfl⟩
  obtain ⟨g, hg⟩ : ∃ g, g = W.heap.size := ⟨_, rfl⟩
  rw [← hp1] at q1
  have hp1g : p1 < g := by omega
  have hwg : w.heap.size ≤ g := by omega
  have hcW : 0 < x.length → Cells eEdge W b off x := fun h => hc.below hbW (hao h).2
  have hbg : 0 < x.length → b < g := fun h => by have := (hao h).2; omega
  have l0 := q1.cell (j := 0) rfl
  have l1 := q1.cell (j := 1) rfl
  have HP1 := hid hp1
  have HW := hid hW
  have Hg := hid hg
  clear hp1 hW hg zW hc hv q1 hB0
  go_enter Try.func42, Try.ntmps42
  go_wp2_with (at_make; rw [← HP1.out, ← HW.out]; refine wpList_make_full _ rfl _ _ 82 rfl W.heap.size 37 i0 _ 1 Try.underlying82 hi hz0 hz1 _ _ _ _ N rfl rfl rfl rfl (by rw [hz2]; omega) (by unfold maxLen; omega) (Nat.le_refl _) ?_; intro w1 hown hgr; have hown := Own.made (E := eS1) (z := (⟨none, 0, 0⟩ : SV)) hown rfl; have hr1 := (RowsP.made (g := W.heap.size) hown).below (below_alloc w1 (.cells #[.string ⟨#[]⟩, .int .i64 0] 27)); obtain ⟨_, _, _, q0, _⟩ := hr1.toR.get hN0; have q1 := hr1.toR.free 0)
  rw [← Hg.out] at hown hr1 q0 q1 ⊢
  have hw1 : Below g W w1 := by rw [Hg.out]; exact (Below.refl _ _).grown hgr (Nat.le_refl _) (by simp)
  obtain ⟨vs0, hr2, hb2'⟩ := RowsP.start hown hN0
  have hb2 := hw1.trans hb2'
  clear hown hr1 q0 q1 hw1 hb2' hgr hi hz0 hz1 hz2
  go_loopw [6] (fun i wr => ∃ (k : Nat) (st : SR) (vs : List SV), k ≤ N ∧ i = .int .i64 k ∧ RowsP g N wr vs st ∧ Below g W wr ∧ Hid (st = rawR (topR m) (fun _ => true) I0 x k)) (fun i _ => N - (intOf i).toNat)
  case atStart => exact ⟨0, _, _, Nat.zero_le _, rfl, hr2, hb2, hid rfl⟩
  case round =>
    clear hr2 hb2
    obtain ⟨k, st, vs, hk, rfl, hr, hb, HST⟩ := hrel
    obtain ⟨w0, rfl⟩ : ∃ w0, w0 = wr := ⟨wr, rfl⟩
    have t0 := below_cell hb hp1g l0
    have t1 := below_cell hb hp1g l1
    by_cases hlt : k < N
    · have hli : (k : Int) < (N : Int) := by omega
      obtain ⟨H, hH⟩ : ∃ H, H = w0.heap.size := ⟨_, rfl⟩
      have hgH : g < H := by rw [hH]; exact hr.toR.lt
      have HH := hid hH
      obtain ⟨⟨sa, sn, sc⟩, hsv, hsn, a0, _⟩ := hr.toR.get hlt
      simp only at hsn a0
      subst hsn
      have hrow : Own eReading 27 (g + 1) w0 (.slice sa (st k).length sc) (st k) := (hr.row k _ hsv).1
      have HBD := hid (show okB B0 st by rw [HB0.out, HST.out]; exact HWAY.out.bd k hk)
      have hLk : (st k).length ≤ 1048576 := by have := (HBD.out k).1; omega
      have HTk := hid (show ∀ r ∈ st k, r.text.size ≤ 1048576 from fun r hr => by have := (HBD.out k).2 r hr; omega)
      have HP0 := hid (show PartOk (topR m) (fun _ => true) x st k 0 B0 m (setR st k (topR m (st k))) by rw [HB0.out]; exact part_start HWAY.out HG.out hlt HST.out hm (fun S r hr => topR_mem hr))
      have HSV := hid hsv
      clear hH hsv
      go_wp2_with fail
      refine (firstReadings_any _ (st k) m (g + 1) w0 hrow (by have := HH.out; omega) (by omega) hLk HTk.out).mono ?_
      rintro en w5 ⟨u5, rfl, ho5, hg5⟩
      obtain ⟨a5, c5, hu5⟩ := ho5.isSlice
      subst hu5
      have htn := (hr.turn HSV.out hg5).1
      obtain ⟨_, y5⟩ := rows_cell htn hr.len hlt
      have yf := htn.free hr.len k
      have hb5 := hb.grown hg5 (by have := HH.out; omega) (fun kk hh => by have := (World.ownsRow.lt hrow kk hh).1; omega)
      replace t0 := below_cell hb5 hp1g l0
      replace t1 := below_cell hb5 hp1g l1
      have hs5 := hr.put hlt HSV.out hg5 ((ho5.in_).mono (lo' := g + 1) (by have := HH.out; omega) (Nat.le_refl _)) (.inr fun q hq => (World.ownsRow.lt ho5 q hq).1)
      have hb6 : Below g W _ := hb5.grown hs5.2 (by have := hg5.size; have := HH.out; omega) (by intro kk hh; cases hh; exact Nat.le_refl _)
      obtain ⟨st1, hst1⟩ : ∃ st1, st1 = setR st k (topR m (st k)) := ⟨_, rfl⟩
      rw [← hst1] at hs5 HP0
      have hr6 := hs5.1
      obtain ⟨w6, hw6⟩ : ∃ w6, w6 = w5.setCell ⟨g, k, none⟩ (.slice a5 (topR m (st k)).length c5) := ⟨_, rfl⟩
      rw [← hw6] at hr6 hb6
      have HW6 := hid hw6
      clear hst1 hs5 hr hb hrow a0 htn hb5 hw6
      go_wp2_with fail
      rw [← HW6.out]
      have t0 := below_cell hb6 hp1g l0
      have t1 := below_cell hb6 hp1g l1
      clear HW6 y5 yf
      go_wp2_with fail
      go_loopw [36] (fun i wq => ∃ (j : Nat) (st2 : SR) (vs : List SV), j ≤ x.length ∧ i = .int .i64 j ∧ RowsP g N wq vs st2 ∧ Below g W wq ∧ Hid (PartOk (topR m) (fun _ => true) x st k j B0 m st2)) (fun i _ => x.length - (intOf i).toNat)
      case atStart => exact ⟨0, _, _, Nat.zero_le _, rfl, hr6, hb6, HP0⟩
      case round =>
        clear t0 t1 hr6 hb6 HP0
        obtain ⟨j, st2, vs2, hj, rfl, hr, hb, HP⟩ := hrel
        have t0 := below_cell hb hp1g l0
        have t1 := below_cell hb hp1g l1
        by_cases hjl : j < x.length
        · obtain ⟨hao', hbw⟩ := hao (by omega)
          subst hao'
          obtain ⟨e, he⟩ : ∃ e, x[j]? = some e := ⟨_, List.getElem?_eq_getElem hjl⟩
          have hli2 : (j : Int) < (x.length : Int) := by omega
          obtain ⟨f0, f1, f2, f3, f4⟩ := valid_fit HV.out he
          have hlb := valid_lab HV.out he
          obtain ⟨c0, c1, c2, c3⟩ := eEdge_cells (w := W) (hcW (by omega)) he
          have hbgx := hbg (by omega)
          replace c0 := below_cell hb hbgx c0
          replace c1 := below_cell hb hbgx c1
          replace c2 := below_cell hb hbgx c2
          replace c3 := below_cell hb hbgx c3
          have HE := hid he
          obtain ⟨fq, tq, la, co⟩ := e
          simp only at f0 f1 f2 f3 f4 hlb c0 c1 c2 c3
          obtain ⟨f, rfl⟩ : ∃ f : Nat, fq = f := ⟨fq.toNat, by omega⟩
          obtain ⟨t, rfl⟩ : ∃ t : Nat, tq = t := ⟨tq.toNat, by omega⟩
          clear he hao
          obtain ⟨wE, hwE⟩ : ∃ wE, wE = wr.alloc (.cells #[.int .i64 f, .int .i64 t, .string la, .int .i64 co] 89) := ⟨_, rfl⟩
          have hmE : Below wr.heap.size wr wE := by rw [hwE]; exact below_alloc _ _
          obtain ⟨pe, hpe⟩ : ∃ pe, pe = wr.heap.size := ⟨_, rfl⟩
          have bE : Box wE pe #[.int .i64 f, .int .i64 t, .string la, .int .i64 co] 89 := by rw [hwE, hpe]; exact Box.new _ _ _
          have hgr0 : g < wr.heap.size := hr.toR.lt
          have hgpe : g ≠ pe := by omega
          have hrE := hr.below hmE
          have hbE : Below g W wE := hb.trans (hmE.mono (Nat.le_of_lt hgr0))
          have HWE := hid hwE
          have HPE := hid hpe
          clear hwE hpe
          by_cases hfk : f = k
          · subst hfk
            have hft : f < t := by omega
            have htN : t < N := by omega
            have htNi : (t : Int) < (N : Int) := by omega
            have hfNi : (f : Int) < (N : Int) := by omega
            obtain ⟨⟨sa, sn, sc⟩, hsF, hsn, a0, _⟩ := hr.toR.get hlt
            simp only at hsn a0
            obtain ⟨L, hL⟩ : ∃ L, L = st2 f := ⟨_, rfl⟩
            rw [← hL] at hsn a0
            subst hsn
            have hL9 : L.length ≤ 1000 := by rw [hL]; exact Nat.le_trans HP.out.row hm
            have hTX := hid (show ∀ r ∈ L, r.text.size ≤ f by rw [hL]; exact (HP.out.ok f).2)
            have HL := hid hL
            have HSF := hid hsF
            have ae0 := cell_alloc a0 (.cells #[.int .i64 f, .int .i64 t, .string la, .int .i64 co] 89)
            have z0 := bE.cell (j := 0) rfl
            clear hL a0 hsF
            go_wp2_with fail
            rw [← HWE.out]
            try rw [← HPE.out]
            go_loopw [49] (fun i wz => ∃ (q : Nat) (st3 : SR) (vs3 : List SV), q ≤ L.length ∧ i = .int .i64 q ∧ RowsP g N wz vs3 st3 ∧ vs3[f]? = some ⟨sa, L.length, sc⟩ ∧ Below g W wz ∧ Box wz pe #[.int .i64 f, .int .i64 t, .string la, .int .i64 co] 89 ∧ Hid (st3 = layQ (fun _ => true) st2 ⟨f, t, la, co⟩ q)) (fun i _ => L.length - (intOf i).toNat)
            case atStart => exact ⟨0, st2, vs2, Nat.zero_le _, rfl, hrE, HSF.out, hbE, bE, hid (layQ_zero _ _ _).symm⟩
            case round =>
              clear t0 t1 c0 c1 c2 c3 hr hrE hb hbE bE ae0 z0 hmE hgr0
              obtain ⟨q, st3, vs3, hq, rfl, hr, hsF, hb, bE, HS3⟩ := hrel
              have hgr0 : g < wr.heap.size := hr.toR.lt
              by_cases hql : q < L.length
              · have hqi : (q : Int) < (L.length : Int) := by omega
                obtain ⟨r, hrq⟩ : ∃ r, L[q]? = some r := ⟨_, List.getElem?_eq_getElem hql⟩
                have hAf := ArrIn.arr ((hr.toR.row f _ hsF))
                have hsf3 : st3 f = L := by rw [HS3.out, HL.out]; exact layQ_from (e := ⟨f, t, la, co⟩) (by show f < t; exact hft)
                rw [hsf3] at hAf
                obtain ⟨b2, o2, ao2, cp2, hv2, hnc2, hcm2, hao2, hcl2⟩ := hAf
                simp only [SV.val, Value.slice.injEq] at hv2
                obtain ⟨rfl, _, rfl⟩ := hv2
                obtain ⟨hae, hbl2⟩ := hao2 (by omega)
                subst hae
                unfold maxLen at hcm2
                obtain ⟨r0, r1⟩ := eReading_cells hcl2 hrq
                have hrs := hTX.out r (List.mem_of_getElem? hrq)
                have HRQ := hid hrq
                obtain ⟨tx, cr⟩ := r
                simp only at r0 r1 hrs
                have hcat : tx.size + la.size ≤ 9223372036854775807 := by omega
                have hcati : (tx.size : Int) + (la.size : Int) ≤ 9223372036854775807 := by omega
                have hcc : ¬ 9223372036854775807 < tx.size + 1 := by omega
                clear hao2 hcl2 hrq hsf3
                obtain ⟨ws, hws⟩ : ∃ ws, ws = IntKind.i64.wrap (cr + co) := ⟨_, rfl⟩
                have hws' := hws.symm
                have HNEW : Hid (setR st3 t (st3 t ++ [⟨tx ++ la, ws⟩]) = layQ (fun _ => true) st2 ⟨f, t, la, co⟩ (q + 1)) := hid (by
                  have h1 := layQ_at (beg := fun _ => true) (st := st2) (e := ⟨f, t, la, co⟩) (q := q) (r := ⟨tx, cr⟩) (by show (st2 f)[q]? = _; rw [← HL.out]; exact HRQ.out)
                  have h2 : extR ⟨tx, cr⟩ ⟨f, t, la, co⟩ = ⟨tx ++ la, ws⟩ := by rw [hws]; rfl
                  rw [h2, if_pos rfl] at h1
                  rw [h1, HS3.out]; rfl)
                have hlt3 : (st3 t).length ≤ 402000 := by
                  have h1 := (HP.out.lay (e := ⟨f, t, la, co⟩) rfl (by show f < t; exact hft) hlb q t).1
                  rw [← HS3.out] at h1
                  omega
                clear hws
                obtain ⟨w3, hw3⟩ : ∃ w3, w3 = wr.alloc (.cells #[.string tx, .int .i64 cr] 27) := ⟨_, rfl⟩
                have hm3 : Below wr.heap.size wr w3 := by rw [hw3]; exact below_alloc _ _
                obtain ⟨pr, hpr⟩ : ∃ pr, pr = wr.heap.size := ⟨_, rfl⟩
                have bR : Box w3 pr #[.string tx, .int .i64 cr] 27 := by rw [hw3, hpr]; exact Box.new _ _ _
                have bE3 := bE.later hm3
                have hgpr : g ≠ pr := by omega
                have hb3 : Below g W w3 := hb.trans (hm3.mono (Nat.le_of_lt hgr0))
                have hr3 := hr.below hm3
                have hg3 : g < w3.heap.size := hr3.toR.lt
                have z1 := bE3.cell (j := 1) rfl
                have z2 := bE3.cell (j := 2) rfl
                have z3 := bE3.cell (j := 3) rfl
                have y0 := bR.cell (j := 0) rfl
                have y1 := bR.cell (j := 1) rfl
                obtain ⟨⟨ta, tn, tc⟩, hsT, htn, a1, _⟩ := hr3.toR.get htN
                simp only at htn a1
                subst htn
                have d1 := cell_alloc a1 (.cells #[.string (tx ++ la), .int .i64 ws] 27)
                have HSF3 := hid hsF
                have HST3 := hid hsT
                have HR3 := hid hr3
                have HB3 := hid hb3
                have HBE := hid bE3
                have HBR := hid bR
                have HW3 := hid hw3
                have HPR := hid hpr
                clear hsF hsT hr hb bE bR bE3 hr3 hb3 hw3 hpr hm3
                go_wp2_with fail
                rw [← HW3.out]
                try rw [← HPR.out]
                clear r0 r1
                have hne4 := own_box_ne (HR3.out.row t _ HST3.out).1 HBE.out (by decide)
                refine wp_region_stg 20 22 (fun c w' => match c with | 0 => Below w3.heap.size w3 w' | 1 => w3.grownBy w' (SV.blk ⟨ta, (st3 t).length, tc⟩) | _ => FinP g N W pe #[.int .i64 f, .int .i64 t, .string la, .int .i64 co] f ⟨some ⟨b2, o2, none⟩, L.length, sc⟩ (setR st3 t (st3 t ++ [⟨tx ++ la, ws⟩])) w') (fun c i v w' => match i with
                      | 0 => v = .slice (some ⟨g, 0, none⟩) N N
                      | 1 => v = .pointer (some ⟨pe, 1, none⟩)
                      | 2 => v = .int .i64 t
                      | 3 => v = .slice (some ⟨g, 0, none⟩) N N
                      | 4 => v = .pointer (some ⟨pe, 1, none⟩)
                      | 5 => v = .int .i64 t
                      | 6 => v = .pointer (some ⟨g, t, none⟩)
                      | 7 => v = .slice ta (st3 t).length tc
                      | 8 => v = .pointer (some ⟨pr, 0, none⟩)
                      | 9 => v = .string tx
                      | 10 => v = .pointer (some ⟨pe, 2, none⟩)
                      | 11 => v = .string la
                      | 12 => v = .string (tx ++ la)
                      | 13 => v = .pointer (some ⟨pr, 1, none⟩)
                      | 14 => v = .int .i64 cr
                      | 15 => v = .pointer (some ⟨pe, 3, none⟩)
                      | 16 => v = .int .i64 co
                      | 17 => v = .int .i64 ws
                      | 18 => v = .agg #[.string (tx ++ la), .int .i64 ws]
                      | 19 => (match c with | 0 => Arr eReading w' v [⟨tx ++ la, ws⟩] | 1 => True | _ => True)
                      | 20 => (match c with | 0 => True | 1 => NewO (g + 1) w3.heap.size (SV.blk ⟨ta, (st3 t).length, tc⟩) w' v (st3 t ++ [⟨tx ++ la, ws⟩]) | _ => True)
                      | 21 => v = .pointer (some ⟨g, t, none⟩)
                      | 22 => (match c with | 0 => True | 1 => True | _ => True)
                      | _ => True) (by kernel_rfl) (by kernel_rfl) (by kernel_rfl) (by kernel_rfl) (by kernel_rfl) ?_ ?_ ?_ ?_ ?_ ?_ (by decide) ?_
                · exact (Below.refl _ w3).drew
                · intro c w w' h hb
                  match c, h with
                  | 0, h => exact Below.trans (B := w3.heap.size) h (hb.mono (Below.size h))
                  | 1, h => exact grownBy_ofBelow h (Nat.le_refl _) hb
                  | (k + 2), h => exact (FinP.below h hb)
                · intro c i v w w' h hb
                  match i, h with
                  | 0, h => exact h
                  | 1, h => exact h
                  | 2, h => exact h
                  | 3, h => exact h
                  | 4, h => exact h
                  | 5, h => exact h
                  | 6, h => exact h
                  | 7, h => exact h
                  | 8, h => exact h
                  | 9, h => exact h
                  | 10, h => exact h
                  | 11, h => exact h
                  | 12, h => exact h
                  | 13, h => exact h
                  | 14, h => exact h
                  | 15, h => exact h
                  | 16, h => exact h
                  | 17, h => exact h
                  | 18, h => exact h
                  | 19, h =>
                    match c, h with
                    | 0, h => exact (Arr.below h hb)
                    | 1, h => exact trivial
                    | (k + 2), h => exact trivial
                  | 20, h =>
                    match c, h with
                    | 0, h => exact trivial
                    | 1, h => exact (NewO.below h hb)
                    | (k + 2), h => exact trivial
                  | 21, h => exact h
                  | 22, h =>
                    match c, h with
                    | 0, h => exact trivial
                    | 1, h => exact trivial
                    | (k + 2), h => exact trivial
                  | (k + 23), h => exact h
                · refine ⟨?_, ?_, ?_, ?_, ?_, ?_, ?_, ?_, ?_, ?_, ?_, ?_, ?_, ?_, ?_, ?_, ?_, ?_, ?_, ?_, ?_, ?_, ?_, trivial⟩
                  · refine .inr (.inr ⟨fun _ => ?_, fun _ => ?_, can_no (by kernel_rfl)⟩)
                    · intro ρ w' hbw ht hcs hfn hgl hdep G hG
                      replace hbw : Below w3.heap.size w3 w' := hbw
                      refine ⟨fun _ => ?_, fun h => by cases h⟩
                      have s5 : ρ (.tmp 5) = .slice (some ⟨g, 0, none⟩) N N := ht 5 rfl
                      clear ht hdep hgl
                      go_simp
                      exact hG _ _ (Below.refl _ _) rfl
                    · intro ρ w' hbw ht hcs hfn hgl hdep G hG
                      replace hbw : w3.grownBy w' (SV.blk ⟨ta, (st3 t).length, tc⟩) := hbw
                      refine ⟨fun _ => ?_, fun h => by cases h⟩
                      have s5 : ρ (.tmp 5) = .slice (some ⟨g, 0, none⟩) N N := ht 5 rfl
                      clear ht hdep hgl
                      go_simp
                      exact hG _ _ (Below.refl _ _) rfl
                  · refine .inr (.inr ⟨fun _ => ?_, fun _ => ?_, can_no (by kernel_rfl)⟩)
                    · intro ρ w' hbw ht hcs hfn hgl hdep G hG
                      replace hbw : Below w3.heap.size w3 w' := hbw
                      refine ⟨fun _ => ?_, fun h => by cases h⟩
                      have s8 : ρ (.tmp 8) = .pointer (some ⟨pe, 0, none⟩) := ht 8 rfl
                      clear ht hdep hgl
                      go_simp
                      exact hG _ _ (Below.refl _ _) rfl
                    · intro ρ w' hbw ht hcs hfn hgl hdep G hG
                      replace hbw : w3.grownBy w' (SV.blk ⟨ta, (st3 t).length, tc⟩) := hbw
                      refine ⟨fun _ => ?_, fun h => by cases h⟩
                      have s8 : ρ (.tmp 8) = .pointer (some ⟨pe, 0, none⟩) := ht 8 rfl
                      clear ht hdep hgl
                      go_simp
                      exact hG _ _ (Below.refl _ _) rfl
                  · refine .inr (.inr ⟨fun _ => ?_, fun _ => ?_, can_no (by kernel_rfl)⟩)
                    · intro ρ w' hbw ht hcs hfn hgl hdep G hG
                      replace hbw : Below w3.heap.size w3 w' := hbw
                      refine ⟨fun _ => ?_, fun h => by cases h⟩
                      have s54 : ρ (.tmp 54) = .pointer (some ⟨pe, 1, none⟩) := hdep ⟨1, .data⟩ (by simp) rfl 54 rfl
                      have z1 := cell_later hbw z1
                      have z2 := cell_later hbw z2
                      have z3 := cell_later hbw z3
                      have y0 := cell_later hbw y0
                      have y1 := cell_later hbw y1
                      have a1 := cell_later hbw a1
                      clear ht hdep hgl
                      go_simp
                      exact hG _ _ (Below.refl _ _) rfl
                    · intro ρ w' hbw ht hcs hfn hgl hdep G hG
                      replace hbw : w3.grownBy w' (SV.blk ⟨ta, (st3 t).length, tc⟩) := hbw
                      refine ⟨fun _ => ?_, fun h => by cases h⟩
                      have s54 : ρ (.tmp 54) = .pointer (some ⟨pe, 1, none⟩) := hdep ⟨1, .data⟩ (by simp) rfl 54 rfl
                      have z1 := grown_cell hbw z1 hne4
                      clear ht hdep hgl
                      go_simp
                      exact hG _ _ (Below.refl _ _) rfl
                  · refine .inr (.inr ⟨fun _ => ?_, can_no (by kernel_rfl), can_no (by kernel_rfl)⟩)
                    · intro ρ w' hbw ht hcs hfn hgl hdep G hG
                      replace hbw : Below w3.heap.size w3 w' := hbw
                      refine ⟨fun _ => ?_, fun h => by cases h⟩
                      have s5 : ρ (.tmp 5) = .slice (some ⟨g, 0, none⟩) N N := ht 5 rfl
                      clear ht hdep hgl
                      go_simp
                      exact hG _ _ (Below.refl _ _) rfl
                  · refine .inr (.inr ⟨fun _ => ?_, can_no (by kernel_rfl), can_no (by kernel_rfl)⟩)
                    · intro ρ w' hbw ht hcs hfn hgl hdep G hG
                      replace hbw : Below w3.heap.size w3 w' := hbw
                      refine ⟨fun _ => ?_, fun h => by cases h⟩
                      have s8 : ρ (.tmp 8) = .pointer (some ⟨pe, 0, none⟩) := ht 8 rfl
                      clear ht hdep hgl
                      go_simp
                      exact hG _ _ (Below.refl _ _) rfl
                  · refine .inr (.inr ⟨fun _ => ?_, can_no (by kernel_rfl), can_no (by kernel_rfl)⟩)
                    · intro ρ w' hbw ht hcs hfn hgl hdep G hG
                      replace hbw : Below w3.heap.size w3 w' := hbw
                      refine ⟨fun _ => ?_, fun h => by cases h⟩
                      have s57 : ρ (.tmp 57) = .pointer (some ⟨pe, 1, none⟩) := hdep ⟨4, .data⟩ (by simp) rfl 57 rfl
                      have z1 := cell_later hbw z1
                      have z2 := cell_later hbw z2
                      have z3 := cell_later hbw z3
                      have y0 := cell_later hbw y0
                      have y1 := cell_later hbw y1
                      have a1 := cell_later hbw a1
                      clear ht hdep hgl
                      go_simp
                      exact hG _ _ (Below.refl _ _) rfl
                  · refine .inr (.inr ⟨fun _ => ?_, can_no (by kernel_rfl), can_no (by kernel_rfl)⟩)
                    · intro ρ w' hbw ht hcs hfn hgl hdep G hG
                      replace hbw : Below w3.heap.size w3 w' := hbw
                      refine ⟨fun _ => ?_, fun h => by cases h⟩
                      have s56 : ρ (.tmp 56) = .slice (some ⟨g, 0, none⟩) N N := hdep ⟨3, .data⟩ (by simp) rfl 56 rfl
                      have s58 : ρ (.tmp 58) = .int .i64 t := hdep ⟨5, .data⟩ (by simp) rfl 58 rfl
                      clear ht hdep hgl
                      go_simp
                      exact hG _ _ (Below.refl _ _) rfl
                  · refine .inr (.inr ⟨fun _ => ?_, can_no (by kernel_rfl), can_no (by kernel_rfl)⟩)
                    · intro ρ w' hbw ht hcs hfn hgl hdep G hG
                      replace hbw : Below w3.heap.size w3 w' := hbw
                      refine ⟨fun _ => ?_, fun h => by cases h⟩
                      have s59 : ρ (.tmp 59) = .pointer (some ⟨g, t, none⟩) := hdep ⟨6, .data⟩ (by simp) rfl 59 rfl
                      have z1 := cell_later hbw z1
                      have z2 := cell_later hbw z2
                      have z3 := cell_later hbw z3
                      have y0 := cell_later hbw y0
                      have y1 := cell_later hbw y1
                      have a1 := cell_later hbw a1
                      clear ht hdep hgl
                      go_simp
                      exact hG _ _ (Below.refl _ _) rfl
                  · refine .inr (.inr ⟨fun _ => ?_, can_no (by kernel_rfl), can_no (by kernel_rfl)⟩)
                    · intro ρ w' hbw ht hcs hfn hgl hdep G hG
                      replace hbw : Below w3.heap.size w3 w' := hbw
                      refine ⟨fun _ => ?_, fun h => by cases h⟩
                      have s10 : ρ (.tmp 10) = .pointer (some ⟨pr, 0, none⟩) := ht 10 rfl
                      clear ht hdep hgl
                      go_simp
                      exact hG _ _ (Below.refl _ _) rfl
                  · refine .inr (.inr ⟨fun _ => ?_, can_no (by kernel_rfl), can_no (by kernel_rfl)⟩)
                    · intro ρ w' hbw ht hcs hfn hgl hdep G hG
                      replace hbw : Below w3.heap.size w3 w' := hbw
                      refine ⟨fun _ => ?_, fun h => by cases h⟩
                      have s61 : ρ (.tmp 61) = .pointer (some ⟨pr, 0, none⟩) := hdep ⟨8, .data⟩ (by simp) rfl 61 rfl
                      have z1 := cell_later hbw z1
                      have z2 := cell_later hbw z2
                      have z3 := cell_later hbw z3
                      have y0 := cell_later hbw y0
                      have y1 := cell_later hbw y1
                      have a1 := cell_later hbw a1
                      clear ht hdep hgl
                      go_simp
                      exact hG _ _ (Below.refl _ _) rfl
                  · refine .inr (.inr ⟨fun _ => ?_, can_no (by kernel_rfl), can_no (by kernel_rfl)⟩)
                    · intro ρ w' hbw ht hcs hfn hgl hdep G hG
                      replace hbw : Below w3.heap.size w3 w' := hbw
                      refine ⟨fun _ => ?_, fun h => by cases h⟩
                      have s8 : ρ (.tmp 8) = .pointer (some ⟨pe, 0, none⟩) := ht 8 rfl
                      clear ht hdep hgl
                      go_simp
                      exact hG _ _ (Below.refl _ _) rfl
                  · refine .inr (.inr ⟨fun _ => ?_, can_no (by kernel_rfl), can_no (by kernel_rfl)⟩)
                    · intro ρ w' hbw ht hcs hfn hgl hdep G hG
                      replace hbw : Below w3.heap.size w3 w' := hbw
                      refine ⟨fun _ => ?_, fun h => by cases h⟩
                      have s63 : ρ (.tmp 63) = .pointer (some ⟨pe, 2, none⟩) := hdep ⟨10, .data⟩ (by simp) rfl 63 rfl
                      have z1 := cell_later hbw z1
                      have z2 := cell_later hbw z2
                      have z3 := cell_later hbw z3
                      have y0 := cell_later hbw y0
                      have y1 := cell_later hbw y1
                      have a1 := cell_later hbw a1
                      clear ht hdep hgl
                      go_simp
                      exact hG _ _ (Below.refl _ _) rfl
                  · refine .inr (.inr ⟨fun _ => ?_, can_no (by kernel_rfl), can_no (by kernel_rfl)⟩)
                    · intro ρ w' hbw ht hcs hfn hgl hdep G hG
                      replace hbw : Below w3.heap.size w3 w' := hbw
                      refine ⟨fun _ => ?_, fun h => by cases h⟩
                      have s62 : ρ (.tmp 62) = .string tx := hdep ⟨9, .data⟩ (by simp) rfl 62 rfl
                      have s64 : ρ (.tmp 64) = .string la := hdep ⟨11, .data⟩ (by simp) rfl 64 rfl
                      clear ht hdep hgl
                      go_simp
                      exact hG _ _ (Below.refl _ _) rfl
                  · refine .inr (.inr ⟨fun _ => ?_, can_no (by kernel_rfl), can_no (by kernel_rfl)⟩)
                    · intro ρ w' hbw ht hcs hfn hgl hdep G hG
                      replace hbw : Below w3.heap.size w3 w' := hbw
                      refine ⟨fun _ => ?_, fun h => by cases h⟩
                      have s10 : ρ (.tmp 10) = .pointer (some ⟨pr, 0, none⟩) := ht 10 rfl
                      clear ht hdep hgl
                      go_simp
                      exact hG _ _ (Below.refl _ _) rfl
                  · refine .inr (.inr ⟨fun _ => ?_, can_no (by kernel_rfl), can_no (by kernel_rfl)⟩)
                    · intro ρ w' hbw ht hcs hfn hgl hdep G hG
                      replace hbw : Below w3.heap.size w3 w' := hbw
                      refine ⟨fun _ => ?_, fun h => by cases h⟩
                      have s66 : ρ (.tmp 66) = .pointer (some ⟨pr, 1, none⟩) := hdep ⟨13, .data⟩ (by simp) rfl 66 rfl
                      have z1 := cell_later hbw z1
                      have z2 := cell_later hbw z2
                      have z3 := cell_later hbw z3
                      have y0 := cell_later hbw y0
                      have y1 := cell_later hbw y1
                      have a1 := cell_later hbw a1
                      clear ht hdep hgl
                      go_simp
                      exact hG _ _ (Below.refl _ _) rfl
                  · refine .inr (.inr ⟨fun _ => ?_, can_no (by kernel_rfl), can_no (by kernel_rfl)⟩)
                    · intro ρ w' hbw ht hcs hfn hgl hdep G hG
                      replace hbw : Below w3.heap.size w3 w' := hbw
                      refine ⟨fun _ => ?_, fun h => by cases h⟩
                      have s8 : ρ (.tmp 8) = .pointer (some ⟨pe, 0, none⟩) := ht 8 rfl
                      clear ht hdep hgl
                      go_simp
                      exact hG _ _ (Below.refl _ _) rfl
                  · refine .inr (.inr ⟨fun _ => ?_, can_no (by kernel_rfl), can_no (by kernel_rfl)⟩)
                    · intro ρ w' hbw ht hcs hfn hgl hdep G hG
                      replace hbw : Below w3.heap.size w3 w' := hbw
                      refine ⟨fun _ => ?_, fun h => by cases h⟩
                      have s68 : ρ (.tmp 68) = .pointer (some ⟨pe, 3, none⟩) := hdep ⟨15, .data⟩ (by simp) rfl 68 rfl
                      have z1 := cell_later hbw z1
                      have z2 := cell_later hbw z2
                      have z3 := cell_later hbw z3
                      have y0 := cell_later hbw y0
                      have y1 := cell_later hbw y1
                      have a1 := cell_later hbw a1
                      clear ht hdep hgl
                      go_simp
                      exact hG _ _ (Below.refl _ _) rfl
                  · refine .inr (.inr ⟨fun _ => ?_, can_no (by kernel_rfl), can_no (by kernel_rfl)⟩)
                    · intro ρ w' hbw ht hcs hfn hgl hdep G hG
                      replace hbw : Below w3.heap.size w3 w' := hbw
                      refine ⟨fun _ => ?_, fun h => by cases h⟩
                      have s67 : ρ (.tmp 67) = .int .i64 cr := hdep ⟨14, .data⟩ (by simp) rfl 67 rfl
                      have s69 : ρ (.tmp 69) = .int .i64 co := hdep ⟨16, .data⟩ (by simp) rfl 69 rfl
                      clear ht hdep hgl
                      go_simp
                      exact hG _ _ (Below.refl _ _) rfl
                  · refine .inr (.inr ⟨fun _ => ?_, can_no (by kernel_rfl), can_no (by kernel_rfl)⟩)
                    · intro ρ w' hbw ht hcs hfn hgl hdep G hG
                      replace hbw : Below w3.heap.size w3 w' := hbw
                      refine ⟨fun _ => ?_, fun h => by cases h⟩
                      have s65 : ρ (.tmp 65) = .string (tx ++ la) := hdep ⟨12, .data⟩ (by simp) rfl 65 rfl
                      have s70 : ρ (.tmp 70) = .int .i64 ws := hdep ⟨17, .data⟩ (by simp) rfl 70 rfl
                      clear ht hdep hgl
                      go_simp
                      exact hG _ _ (Below.refl _ _) rfl
                  · refine .inr (.inr ⟨fun _ => ?_, can_no (by kernel_rfl), can_no (by kernel_rfl)⟩)
                    · intro ρ w' hbw ht hcs hfn hgl hdep G hG
                      replace hbw : Below w3.heap.size w3 w' := hbw
                      refine ⟨fun _ => ?_, fun h => by cases h⟩
                      have s71 : ρ (.tmp 71) = .agg #[.string (tx ++ la), .int .i64 ws] := hdep ⟨18, .data⟩ (by simp) rfl 71 rfl
                      clear ht hdep hgl
                      go_simp
                      exact hG _ _ (below_alloc _ _) (arr_block1 (E := eReading) (n := 1) [(⟨tx ++ la, ws⟩ : DReading)] #[.string (tx ++ la), .int .i64 ws] rfl rfl (maxLen_ge (Nat.le_of_ble_eq_true rfl)) rfl)
                  · exact .inl rfl
                  · refine .inr (.inr ⟨fun _ => ?_, fun _ => ?_, can_no (by kernel_rfl)⟩)
                    · intro ρ w' hbw ht hcs hfn hgl hdep G hG
                      replace hbw : Below w3.heap.size w3 w' := hbw
                      refine ⟨fun _ => ?_, fun h => by cases h⟩
                      have s53 : ρ (.tmp 53) = .slice (some ⟨g, 0, none⟩) N N := hdep ⟨0, .data⟩ (by simp) rfl 53 rfl
                      have s55 : ρ (.tmp 55) = .int .i64 t := hdep ⟨2, .data⟩ (by simp) rfl 55 rfl
                      clear ht hdep hgl
                      go_simp
                      exact hG _ _ (Below.refl _ _) rfl
                    · intro ρ w' hbw ht hcs hfn hgl hdep G hG
                      replace hbw : w3.grownBy w' (SV.blk ⟨ta, (st3 t).length, tc⟩) := hbw
                      refine ⟨fun _ => ?_, fun h => by cases h⟩
                      have s53 : ρ (.tmp 53) = .slice (some ⟨g, 0, none⟩) N N := hdep ⟨0, .data⟩ (by simp) rfl 53 rfl
                      have s55 : ρ (.tmp 55) = .int .i64 t := hdep ⟨2, .data⟩ (by simp) rfl 55 rfl
                      clear ht hdep hgl
                      go_simp
                      exact hG _ _ (Below.refl _ _) rfl
                  · exact .inr (.inl rfl)
                · intro o ho
                  obtain rfl := Option.some.inj ho
                  intro ρ w' hbw ht hcs hfn hgl hdep G hG
                  replace hbw : Below w3.heap.size w3 w' := hbw
                  refine ⟨fun _ => ?_, fun h => by cases h⟩
                  have s60 : ρ (.tmp 60) = .slice ta (st3 t).length tc := hdep ⟨7, .data⟩ (by simp) rfl 60 rfl
                  have d72 := hdep ⟨19, .data⟩ (by simp) rfl 72 rfl
                  clear ht hdep hgl
                  have hr4 := HR3.out.below hbw
                  refine upon_appO _ _ 37 (by rfl) (g + 1) 27 _ 24 infReading Try.underlying37 rfl _ (st3 t) s60 (hr4.row t _ HST3.out).1 [⟨tx ++ la, ws⟩] d72 (by unfold maxLen; simp <;> omega) (by simp <;> omega) (Nat.le_trans hg3 hbw.size) ?_
                  intro v' wA hoA hgA hlA
                  obtain ⟨ua, uc, hu⟩ := hoA.isSlice
                  refine hG _ _ (grown_of_below hbw hgA) ⟨ua, uc, hu, hoA.in_, hlA.imp id fun e q hq => ?_⟩ ?_
                  · rw [e] at hq; cases hq; exact hbw.size
                  intro j u hj hne h
                  match j, h with
                  | 0, h => exact h
                  | 1, h => exact h
                  | 2, h => exact h
                  | 3, h => exact h
                  | 4, h => exact h
                  | 5, h => exact h
                  | 6, h => exact h
                  | 7, h => exact h
                  | 8, h => exact h
                  | 9, h => exact h
                  | 10, h => exact h
                  | 11, h => exact h
                  | 12, h => exact h
                  | 13, h => exact h
                  | 14, h => exact h
                  | 15, h => exact h
                  | 16, h => exact h
                  | 17, h => exact h
                  | 18, h => exact h
                  | 19, h => exact trivial
                  | 20, h => exact absurd rfl hne
                  | 21, h => exact h
                  | 22, h => exact trivial
                  | (k + 23), h => exact h
                · intro o ho
                  obtain rfl := Option.some.inj ho
                  intro ρ w' hbw ht hcs hfn hgl hdep G hG
                  replace hbw : w3.grownBy w' (SV.blk ⟨ta, (st3 t).length, tc⟩) := hbw
                  refine ⟨fun _ => ?_, fun h => by cases h⟩
                  have s74 : ρ (.tmp 74) = .pointer (some ⟨g, t, none⟩) := hdep ⟨21, .data⟩ (by simp) rfl 74 rfl
                  have d73 := hdep ⟨20, .data⟩ (by simp) rfl 73 rfl
                  clear ht hdep hgl
                  obtain ⟨ua, uc, s73, hoA, hlA⟩ := d73
                  have htn := (HR3.out.turn HST3.out hbw).1
                  obtain ⟨_, a2⟩ := rows_cell htn HR3.out.len htN
                  have q2 := htn.free HR3.out.len t
                  rw [show (st3 t ++ [(⟨tx ++ la, ws⟩ : DReading)]).length = (st3 t).length + 1 from by simp] at s73
                  rw [s73] at hoA hlA
                  have hp := HR3.out.put htN HST3.out hbw hoA hlA
                  have hty := own_typed (HR3.out.row t _ HST3.out).1 hbw
                  have hf4 := hid (show FinP g N W pe #[.int .i64 f, .int .i64 t, .string la, .int .i64 co] f ⟨some ⟨b2, o2, none⟩, L.length, sc⟩ (setR st3 t (st3 t ++ [⟨tx ++ la, ws⟩])) _ from ⟨_, hp.1, by rw [List.getElem?_set_ne (by omega)]; exact HSF3.out, ((HB3.out.grown hbw (Nat.le_of_lt hg3) (fun kk hh => by have := (World.ownsRow.lt (HR3.out.row t _ HST3.out).1 kk hh).1; omega)).grown hp.2 (Nat.le_of_lt (Nat.lt_of_lt_of_le hg3 hbw.size)) (by intro kk hh; cases hh; exact Nat.le_refl _)), boxOther2 (HBE.out.typed hty rfl) hgpe.symm⟩)
                  clear hp htn hoA hlA hty
                  go_simp
                  refine hG _ _ hf4.out trivial ?_
                  intro j u hj hne h
                  match j, h with
                  | 0, h => exact h
                  | 1, h => exact h
                  | 2, h => exact h
                  | 3, h => exact h
                  | 4, h => exact h
                  | 5, h => exact h
                  | 6, h => exact h
                  | 7, h => exact h
                  | 8, h => exact h
                  | 9, h => exact h
                  | 10, h => exact h
                  | 11, h => exact h
                  | 12, h => exact h
                  | 13, h => exact h
                  | 14, h => exact h
                  | 15, h => exact h
                  | 16, h => exact h
                  | 17, h => exact h
                  | 18, h => exact h
                  | 19, h => exact trivial
                  | 20, h => exact trivial
                  | 21, h => exact h
                  | 22, h => exact trivial
                  | (k + 23), h => exact h
                intro xx wF hF hx
                clear hx
                simp only [putAll, Act.put, List.setIfInBounds_toArray, List.set_cons_succ, List.set_cons_zero, Nat.zero_add, Nat.reduceAdd]
                obtain ⟨vs4, hF1, hF2, hF3, hF4⟩ := hF
                go_wp2
                go_roundw
                case rel => exact ⟨q + 1, _, vs4, by omega, by go_num, hF1, hF2, hF3, hF4, HNEW⟩
                case measure => simp [intOf]; omega
              · have hql2 : q = L.length := by omega
                have hqd : ¬ ((q : Int) < (L.length : Int)) := by omega
                have HN : Hid (PartOk (topR m) (fun _ => true) x st f (j + 1) B0 m st3) := hid (by
                  rw [HS3.out, hql2, HL.out]
                  have h1 := layQ_all (fun _ => true) st2 (⟨f, t, la, co⟩ : DEdge)
                  rw [show (st2 f).length = (st2 (fr (⟨f, t, la, co⟩ : DEdge))).length from rfl, h1]
                  exact HP.out.next HE.out rfl (by show f < t; exact hft) hlb hm)
                clear hql2
                go_wp2_with fail
                go_roundw
                case rel => exact ⟨j + 1, st3, vs3, by omega, by go_num, hr, hb, HN⟩
                case measure => simp [intOf]; omega
          · have hfd : ((f : Int) == (k : Int)) = false := by simp; omega
            have hfki : ¬ ((f : Int) = (k : Int)) := by omega
            have HN : Hid (PartOk (topR m) (fun _ => true) x st k (j + 1) B0 m st2) := hid (HP.out.skip HE.out (by simpa [fr] using hfk))
            have z0 := bE.cell (j := 0) rfl
            go_wp2_with fail
            rw [← HWE.out]
            go_roundw
            case rel => exact ⟨j + 1, st2, vs2, by omega, by go_num, hrE, hbE, HN⟩
            case measure => simp [intOf]; omega
        · have hjx : j = x.length := by omega
          have hjd : ¬ ((j : Int) < (x.length : Int)) := by omega
          have HN : Hid (st2 = rawR (topR m) (fun _ => true) I0 x (k + 1)) := hid (by
            have := HP.out
            rw [hjx] at this
            exact part_end this HST.out)
          clear hjx
          go_wp2_with fail
          go_roundw
          case rel => exact ⟨k + 1, st2, vs2, by omega, by go_num, hr, hb, HN⟩
          case measure => simp [intOf]; omega
    · have hkN : k = N := by omega
      have hkd : ¬ ((k : Int) < (N : Int)) := by omega
      obtain ⟨⟨sa, sn, sc⟩, hsv, hsn, a0, _⟩ := hr.toR.get (v := N - 1) (by omega)
      have hrow : Own eReading 27 (g + 1) w0 (.slice sa sn sc) (st (N - 1)) := (hr.row (N - 1) _ hsv).1
      simp only at hsn a0
      subst hsn
      have HFIN : Hid (st (N - 1) = statesR m (fun _ => true) I0 x (N - 1)) := hid (by rw [HST.out, hkN]; exact HWAY.out.at_ N (Nat.le_refl _) (N - 1) (by omega))
      have e1 : ((N : Int) - 1).toNat = N - 1 := by omega
      have e2 : (0 : Int) ≤ (N : Int) - 1 := by omega
      have e3 : (N : Int) - 1 < (N : Int) := by omega
      clear hkN
      go_wp2
      go_ret
      refine ⟨_, rfl, by rw [← HFIN.out]; exact hrow.mono (by omega), ?_⟩
      rw [Hg.out] at hb
      exact hbW.trans (hb.mono hbW.size)
end Go.Proofs.Ytnhmailnnggmjaa
