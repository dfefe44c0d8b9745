/- The ink of a group: which strokes it has. Plain lemmas, no program. -/
import Derived.Test.YtlnoelbeaolikaaGreatK08
import Derived.Deep.Cut
import Derived.Test.YtlnoelbeaolikaaGreatK03
import Derived.Test.YtlnoelbeaolikaaGreatK01
import Derived.Maps.AppendAt
namespace Go.Proofs.YtlnoelbeaolikaaGreat
theorem ordRow_mem {H : List Int} {k m : Nat} {e : Int} (h : e ∈ ordRow H k m) : ∃ d : Nat, e = (d : Int) ∧ d < m ∧ H[d]? = some (k : Int) := by
 unfold ordRow at h
 obtain ⟨d, hd, rfl⟩ := List.mem_map.1 h
 rw [List.mem_filter, List.mem_range] at hd
 exact ⟨d, rfl, hd.1, by simpa using hd.2⟩
theorem ordRow_nodup (H : List Int) (k m : Nat) : (ordRow H k m).Nodup := by
 unfold ordRow
 have h1 : ((List.range m).filter fun d => H[d]? == some (k : Int)).Nodup := List.nodup_range.filter _
 unfold List.Nodup
 rw [List.pairwise_map]
 exact List.Pairwise.imp (fun h e => h (Int.ofNat.inj e)) h1
theorem ordAt_mem {H : List Int} {k : Nat} {e : Int} (h : e ∈ ordAt H k) : (∃ x, H[k]? = some x ∧ x < 0) ∧ (e = (k : Int) ∨ ∃ d : Nat, e = (d : Int) ∧ H[d]? = some (k : Int)) := by
 unfold ordAt at h
 split at h
 ·rename_i x hx
  split at h
  ·cases h
  ·rename_i h0
   refine ⟨⟨x, hx, by omega⟩, ?_⟩
   rcases List.mem_cons.1 h with h1 | h1
   ·exact .inl h1
   ·obtain ⟨d, h2, _, h3⟩ := ordRow_mem h1
    exact .inr ⟨d, h2, h3⟩
 ·cases h
theorem ordAt_nodup (H : List Int) (k : Nat) : (ordAt H k).Nodup := by
 unfold ordAt
 split
 ·rename_i x hx
  split
  ·exact List.nodup_nil
  ·rename_i h0
   refine List.nodup_cons.2 ⟨fun hm => ?_, ordRow_nodup _ _ _⟩
   obtain ⟨d, h2, _, h3⟩ := ordRow_mem hm
   have e : d = k := by omega
   subst e
   rw [hx] at h3
   have := Option.some.inj h3
   omega
 ·exact List.nodup_nil
theorem ordTo_mem {H : List Int} : ∀ {n : Nat} {e : Int}, e ∈ ordTo H n → ∃ k, k < n ∧ e ∈ ordAt H k
 | 0, e, h => by simp [ordTo] at h
 | n + 1, e, h => by
  rw [ordTo_succ, List.mem_append] at h
  rcases h with h | h
  ·obtain ⟨k, h1, h2⟩ := ordTo_mem h
   exact ⟨k, by omega, h2⟩
  ·exact ⟨n, by omega, h⟩
theorem ordTo_nodup (H : List Int) : ∀ n, (ordTo H n).Nodup
 | 0 => by simp [ordTo]
 | n + 1 => by
  rw [ordTo_succ, List.nodup_append]
  refine ⟨ordTo_nodup H n, ordAt_nodup H n, fun a ha b hb hab => ?_⟩
  subst hab
  obtain ⟨k, hk, hk2⟩ := ordTo_mem ha
  obtain ⟨⟨x, hx, hx0⟩, h1⟩ := ordAt_mem hk2
  obtain ⟨⟨y, hy, hy0⟩, h2⟩ := ordAt_mem hb
  rcases h1 with h1 | ⟨d, h1, h1'⟩
  ·rcases h2 with h2 | ⟨d2, h2, h2'⟩
   ·omega
   ·have e : d2 = k := by omega
    subst e
    rw [hx] at h2'
    have := Option.some.inj h2'
    omega
  ·rcases h2 with h2 | ⟨d2, h2, h2'⟩
   ·have e : d = n := by omega
    subst e
    rw [hy] at h1'
    have := Option.some.inj h1'
    omega
   ·have e : d = d2 := by omega
    subst e
    rw [h1'] at h2'
    have := Option.some.inj h2'
    omega
theorem ordTo_bds {H : List Int} {n : Nat} {e : Int} (h : e ∈ ordTo H n) : ∃ d : Nat, e = (d : Int) ∧ d < H.length := by
 obtain ⟨k, hk, hk2⟩ := ordTo_mem h
 obtain ⟨⟨x, hx, hx0⟩, h1⟩ := ordAt_mem hk2
 rcases h1 with h1 | ⟨d, h1, h1'⟩
 ·exact ⟨k, h1, (List.getElem?_eq_some_iff.1 hx).1⟩
 ·exact ⟨d, h1, (List.getElem?_eq_some_iff.1 h1').1⟩
theorem orderI_nodup (X : XInk) : (orderI X).Nodup := ordTo_nodup _ _
theorem orderI_bds {X : XInk} {e : Int} (h : e ∈ orderI X) : ∃ d : Nat, e = (d : Int) ∧ d < X.length := by
 have := ordTo_bds h
 rw [homesTo_len] at this
 exact this
/-- the places of a group, in the strokes' own order -/
def subO (X : XInk) (f t : Nat) : List Int := ((orderI X).take t).drop f
theorem subO_nodup (X : XInk) (f t : Nat) : (subO X f t).Nodup := ((orderI_nodup X).sublist (List.take_sublist _ _)).sublist (List.drop_sublist _ _)
theorem subO_bds {X : XInk} {f t : Nat} {e : Int} (h : e ∈ subO X f t) : ∃ d : Nat, e = (d : Int) ∧ d < X.length := orderI_bds (List.mem_of_mem_take (List.mem_of_mem_drop h))
def selN (S : List Int) (n : Nat) : List Nat := (List.range n).filter fun k => decide ((k : Int) ∈ S)
def inkG (X : XInk) (f t : Nat) : XInk := (selN (subO X f t) X.length).map fun k => (X[k]?).getD []
/-- two ascending lists with the same members are one -/
theorem asc_uniq : ∀ {a b : List Int}, a.Pairwise (· < ·) → b.Pairwise (· < ·) → (∀ x, x ∈ a ↔ x ∈ b) → a = b
 | [], [], _, _, _ => rfl
 | [], y :: b, _, _, h => by have := (h y).2 List.mem_cons_self; cases this
 | x :: a, [], _, _, h => by have := (h x).1 List.mem_cons_self; cases this
 | x :: a, y :: b, ha, hb, h => by
  rw [List.pairwise_cons] at ha hb
  have e : x = y := by
   have h1 := (h x).1 List.mem_cons_self
   have h2 := (h y).2 List.mem_cons_self
   rcases List.mem_cons.1 h1 with h1 | h1
   ·exact h1
   ·rcases List.mem_cons.1 h2 with h2 | h2
    ·exact h2.symm
    ·have := ha.1 y h2
     have := hb.1 x h1
     omega
  subst e
  congr 1
  refine asc_uniq ha.2 hb.2 fun z => ⟨fun hz => ?_, fun hz => ?_⟩
  ·rcases List.mem_cons.1 ((h z).1 (List.mem_cons_of_mem _ hz)) with e | h1
   ·subst e; have := ha.1 z hz; omega
   ·exact h1
  ·rcases List.mem_cons.1 ((h z).2 (List.mem_cons_of_mem _ hz)) with e | h1
   ·subst e; have := hb.1 z hz; omega
   ·exact h1
theorem selN_asc (S : List Int) (n : Nat) : ((selN S n).map fun (k : Nat) => (k : Int)).Pairwise (· < ·) := by
 rw [List.pairwise_map]
 refine List.Pairwise.imp (fun h => Int.ofNat_lt.2 h) ?_
 exact List.Pairwise.filter _ List.pairwise_lt_range
/-- what the sort makes of the places -/
theorem sort_is {X : XInk} {f t : Nat} {d' : List Int} (hp : d'.Perm (subO X f t)) (hs : SortOn 0 d'.length d') : d' = (selN (subO X f t) X.length).map fun (k : Nat) => (k : Int) := by
 have hnd : d'.Nodup := hp.nodup_iff.2 (subO_nodup X f t)
 refine asc_uniq ?_ (selN_asc _ _) fun x => ?_
 ·rw [List.pairwise_iff_getElem]
  intro i j hi hj hij
  have h1 := hs i j (Nat.zero_le _) hij hj
  have e1 : gI d' i = d'[i] := by have := gI_some hi; rw [List.getElem?_eq_getElem hi] at this; exact (Option.some.inj this).symm
  have e2 : gI d' j = d'[j] := by have := gI_some hj; rw [List.getElem?_eq_getElem hj] at this; exact (Option.some.inj this).symm
  rw [e1, e2] at h1
  have hne : d'[i] ≠ d'[j] := fun e => by
   have h5 : d'[i]? = d'[j]? := by rw [List.getElem?_eq_getElem hi, List.getElem?_eq_getElem hj, e]
   have := (List.getElem?_inj hi hnd).1 h5
   omega
  omega
 ·rw [hp.mem_iff]
  unfold selN
  constructor
  ·intro h
   obtain ⟨k, rfl, hk⟩ := subO_bds h
   exact List.mem_map.2 ⟨k, List.mem_filter.2 ⟨List.mem_range.2 hk, by simpa using h⟩, rfl⟩
  ·intro h
   obtain ⟨k, hk, rfl⟩ := List.mem_map.1 h
   have := (List.mem_filter.1 hk).2
   simpa using this
end Go.Proofs.YtlnoelbeaolikaaGreat
namespace Go.Proofs.YtlnoelbeaolikaaGreat
open Go.RowKit
set_option maxRecDepth 100000 in
set_option maxHeartbeats 2000000 in
theorem l00Has_any (v : Value) (x : List Int) (n : Int) (w : World) (h : Arr eI w v x) : Calls Tryz.prog 117 #[v, .int .i64 n] w (Ret (.bool (decide (n ∈ x))) w) := by
 obtain ⟨b, off, ao, cap, rfl, hnc, hcm, hao, hc⟩ := h
 unfold maxLen at hcm
 go_enter Tryz.func117, Tryz.ntmps117
 go_wp2_with fail
 go_loopw [5] (fun i wr => ∃ k : Nat, k ≤ x.length ∧ i = .int .i64 k ∧ Hid (∀ j, j < k → x[j]? ≠ some n) ∧ wr = w) (fun i _ => x.length - (intOf i).toNat)
 case atStart => exact ⟨0, Nat.zero_le _, rfl, hid (fun j hj => by omega), rfl⟩
 case round =>
  obtain ⟨k, hk, rfl, HN, rfl⟩ := hrel
  by_cases hlt : k < x.length
  ·have hli : (k : Int) < (x.length : Int) := by omega
   obtain ⟨hao', hbw⟩ := hao (by omega)
   subst hao'
   obtain ⟨c, hcc⟩ : ∃ c, x[k]? = some c := ⟨_, List.getElem?_eq_getElem hlt⟩
   have c0 := eI_cell hc hcc
   have HC := hid hcc
   clear hcc
   cases hq : (c == n)
   ·go_wp2_with fail
    go_roundw
    case rel =>
     refine ⟨k + 1, by omega, by go_num, hid fun j hj e => ?_, by first | rfl | trivial⟩
     by_cases ej : j = k
     ·subst ej
      rw [HC.out] at e
      rw [Option.some.inj e] at hq
      simp at hq
     ·exact HN.out j (by omega) e
    case measure => simp [intOf]; omega
   ·have hm : n ∈ x := by rw [beq_iff_eq] at hq; rw [← hq]; exact List.mem_of_getElem? HC.out
    have HM := hid (show decide (n ∈ x) = true by simpa using hm)
    clear hm
    go_wp2_with fail
    go_ret
    exact ⟨by rw [HM.out]; rfl, Below.refl _ _⟩
  ·obtain rfl : k = x.length := by omega
   have hli : ¬ ((x.length : Int) < (x.length : Int)) := by omega
   have HM := hid (show decide (n ∈ x) = false by
    rw [decide_eq_false_iff_not]
    intro hm
    obtain ⟨j, hj⟩ := List.getElem?_of_mem hm
    exact HN.out j (List.getElem?_eq_some_iff.1 hj).1 hj)
   go_wp2_with fail
   go_ret
   exact ⟨by rw [HM.out]; rfl, Below.refl _ _⟩
theorem infPointG : (Tryz.prog.info? 114).map (fun i => (i.zero, i.size, i.bytes)) = some (some (.agg #[.int .i64 0, .int .i64 0, .int .i64 0]), ePoint.sz, 24) := by kernel_rfl
set_option maxRecDepth 100000 in
set_option maxHeartbeats 2000000 in
theorem l02OwnStroke_any (b off : Nat) (v : Value) (x : XStroke) (w : World) (c0 : w.cell? ⟨b, off, none⟩ = some v) (h : Arr ePoint w v x) (ok : x.length ≤ 1048576) :
  Calls Tryz.prog 118 #[.pointer (some ⟨b, off, none⟩)] w fun e w' => ∃ u, e = .returned (.agg #[u]) ∧ Own ePoint 114 w.heap.size w' u x ∧ Below w.heap.size w w' := by
 obtain ⟨sa, sc, hv⟩ := h.isSlice
 subst hv
 obtain ⟨W, hW⟩ : ∃ u, u = (w.alloc (.cells #[.slice none 0 0] 112)) := ⟨_, rfl⟩
 have hbW : Below w.heap.size w W := by rw [hW]; exact belowA1 _ _
 have q1 : Box W (w.heap.size) #[.slice none 0 0] 112 := by
  have hq := Box.new w #[.slice none 0 0] 112
  rw [hW]
  exact hq
 obtain ⟨p1, hp1⟩ : ∃ p, p = w.heap.size := ⟨_, rfl⟩
 rw [← hp1] at q1
 have hge1 : w.heap.size ≤ p1 := by omega
 have hlW : w.heap.size ≤ W.heap.size := hbW.size
 have hlp1 : p1 < W.heap.size := q1.lt
 have HP1 := hid hp1
 have HW := hid hW
 clear hW hp1
 have cW := cell_later hbW c0
 have cA := cell_alloc cW (.cells #[] 114)
 have hW := h.below hbW
 go_enter Tryz.func118, Tryz.ntmps118
 go_upto_region 1 with fail
 rw [← HP1.out, ← HW.out]
 go_wp2_with (at_builtin; (refine wpList_appA rfl _ _ 110 rfl W.heap.size 114 _ 24 infPointG Tryz.underlying110 rfl _ _ rfl (Own.empty (E := ePoint) 114 W (Nat.le_refl _)) _ x rfl (by exact hW.alloc _) (by unfold maxLen; simp; omega) (by simp; omega) (by simp) ?_))
 intro u w1 ho hbA htA
 obtain ⟨ua, uc, hu⟩ := ho.isSlice
 subst hu
 have bx := (q1.alloc (.cells #[] 114)).below hbA (Nat.lt_of_lt_of_le q1.lt (Nat.le_refl _))
 have b0 := bx.cell (j := 0) rfl
 have bf := bx.free
 go_wp2_with fail
 refine bodyPost_ret (v := .agg #[.slice ua x.length uc]) (by simp [results, Tryz.results118, go_sem, b0]) rfl ⟨_, rfl, (ho.setBelow (a := ⟨p1, 0, none⟩) (by show p1 < W.heap.size; exact q1.lt) _).mono hlW, ?_⟩
 exact ((hbW.trans ((below_alloc _ _).mono hlW)).trans (hbA.mono hlW)).setCell hge1 _
end Go.Proofs.YtlnoelbeaolikaaGreat
namespace Go.Proofs.YtlnoelbeaolikaaGreat
open Go.RowKit
theorem sub_get {L : List Int} {f t k : Nat} {x : Int} (h : ((L.take t).drop f)[k]? = some x) : L[f + k]? = some x := by
 rw [List.getElem?_drop] at h
 have hlt := (List.getElem?_eq_some_iff.1 h).1
 rw [List.length_take] at hlt
 rwa [List.getElem?_take_of_lt (by omega)] at h
theorem sub_len {L : List Int} {f t : Nat} (ht : t ≤ L.length) : ((L.take t).drop f).length = t - f := by
 rw [List.length_drop, List.length_take]
 omega
theorem own_sub {B : Nat} {w : World} {u : Value} {L : List Int} (h : Own eI 2 B w u L) {f t : Nat} (hft : f < t) (ht : t ≤ L.length) :
  ∃ g cap, u = .slice (some ⟨g, 0, none⟩) L.length cap ∧ B ≤ g ∧ g < w.heap.size ∧ L.length ≤ cap ∧ cap ≤ maxLen ∧ Arr eI w (.slice (some ⟨g, f, none⟩) (t - f) (cap - f)) ((L.take t).drop f) ∧ HoldI w g f ((L.take t).drop f) := by
 obtain ⟨b, off, ao, cap, hv, hnc, hcm, hao, hc⟩ := h.arr
 obtain ⟨h1, h2⟩ := h
 rcases h2 with ⟨_, h2⟩ | ⟨g, cap', cur, hv2, hB, hg, r⟩
 ·exfalso; omega
 ·rw [hv] at hv2
  simp only [Value.slice.injEq] at hv2
  obtain ⟨e1, _, rfl⟩ := hv2
  obtain ⟨e2, hbw⟩ := hao (by omega)
  rw [e2] at e1
  simp only [Option.some.injEq, Addr.mk.injEq, and_true] at e1
  obtain ⟨rfl, rfl⟩ := e1
  have hcell : ∀ k x, ((L.take t).drop f)[k]? = some x → w.cell? ⟨b, f + k, none⟩ = some (.int .i64 x) := fun k x hk => by
   have := eI_cell hc (sub_get hk)
   rwa [Nat.zero_add] at this
  refine ⟨b, cap, by rw [hv, e2], hB, hbw, hnc, hcm, ?_, cur, _, hg, fun j hj => ?_⟩
  ·refine ⟨b, f, some ⟨b, f, none⟩, cap - f, by rw [sub_len ht], by rw [sub_len ht]; omega, by omega, fun _ => ⟨rfl, hbw⟩, fun k x hk j v hj => ?_⟩
   have hj0 : j = 0 := by have := (List.getElem?_eq_some_iff.1 hj).1; have e : (eI.row x).length = 1 := eI.len x; omega
   subst hj0
   have e : some v = some (Value.int .i64 x) := hj.symm.trans rfl
   cases e
   have := hcell k x hk
   have e3 : f + k * eI.sz + 0 = f + k := by show f + k * 1 + 0 = f + k; omega
   rw [e3]; exact this
  ·have := hcell j _ (gI_some hj)
   rwa [cell_of_row w b (f + j) _ _ _ hg] at this
end Go.Proofs.YtlnoelbeaolikaaGreat
namespace Go.Proofs.YtlnoelbeaolikaaGreat
open Go.RowKit
theorem run_append_arrO {α : Type} {E : Enc α} {P : Program} {w : World} (t ty : TypeId) (B : Nat) (e : TypeId) (z : Value) (bytes : Nat) (hi : (P.info? e).map (fun i => (i.zero, i.size, i.bytes)) = some (some z, E.sz, bytes)) (ht : P.underlying t = some (.slice e)) (hzs : z.cells.size = E.sz)
  (v : Value) (xs : List α) (hown : Own E e B w v xs) (vx : Value) (ys : List α) (hx : Arr E w vx ys)
  (h63 : xs.length + ys.length ≤ maxLen) (hbytes : (xs.length + ys.length) * bytes ≤ 140737488355328) (hB : B ≤ w.heap.size) :
  ∃ v' w', (Builtin.append_ #[t, t] ty #[v, vx]).run P w = .ok v' w' ∧ Own E e B w' v' (xs ++ ys) ∧ w.grownBy w' v.ownBlock ∧ (v'.ownBlock = v.ownBlock ∨ v'.ownBlock = some w.heap.size) := by
 obtain ⟨i, hi1, hz, hsz, hby⟩ := info_parts hi
 obtain ⟨b, off, ao, cap, rfl, hnc, hcm, hao, hc⟩ := hx
 cases ao with
 | none =>
  have hy : ys = [] := by
   cases ys with
   | nil => rfl
   | cons a l => have := (hao (by simp)).1; cases this
  subst hy
  refine ⟨v, w, ?_, by simpa using hown, World.grownBy.refl _ _, .inl rfl⟩
  rcases hown.2 with ⟨rfl, h0⟩ | ⟨g, cap, cur, rfl, _, _, hn, _⟩
  ·simp [Builtin.append_, run_underlying ht, sizeOf, typeInfo, hi1, Builtin.lenOf, Builtin.firstCells]
  ·simp [Builtin.append_, run_underlying ht, sizeOf, typeInfo, hi1, Builtin.lenOf, Builtin.firstCells, hn, storeCells]
 | some ad =>
  have hcc : ∀ j u, (E.flat ys)[j]? = some u → w.cell? (ad.add j) = some u := by
   intro j u hu
   have hlen := (List.getElem?_eq_some_iff.1 hu).1
   rw [Enc.flat_len] at hlen
   have hpos : 0 < ys.length := by
    cases ys with
    | nil => simp at hlen
    | cons a t => simp
   obtain ⟨h1, _⟩ := hao hpos
   cases h1
   rw [Addr.add_lit]
   exact flat_cells hc j u hu
  obtain ⟨v', w', hr, h2, h3, _, h5⟩ := run_append_own_at (P := P) w B t ty e i z E.sz bytes ht hi1 hz hsz hby hzs E.pos v xs.length (E.flat xs) hown ad ys.length cap (E.flat ys) (E.flat_len ys) hcc (E.flat_one ys) h63 hbytes hB
  refine ⟨v', w', hr, ?_, h3, h5⟩
  unfold Own
  rw [List.length_append, E.flat_append]
  exact h2
theorem upon_appO {α : Type} {E : Enc α} {P : Program} {G : Value → World → Prop} {ρ : Operand → Value} {w : World} {o : Oper} (s x : Operand) (t : TypeId)
  (ho : o.op = .call { callee := .builtin .append, args := #[s, x], argTypes := #[t, t] })
  (B : Nat) (e : TypeId) (z : Value) (bytes : Nat) (hi : (P.info? e).map (fun i => (i.zero, i.size, i.bytes)) = some (some z, E.sz, bytes)) (ht : P.underlying t = some (.slice e)) (hzs : z.cells.size = E.sz)
  (v : Value) (xs : List α) (hs : ρ s = v) (hown : Own E e B w v xs) (ys : List α) (hy : Arr E w (ρ x) ys)
  (h63 : xs.length + ys.length ≤ maxLen) (hbytes : (xs.length + ys.length) * bytes ≤ 140737488355328) (hB : B ≤ w.heap.size)
  (h : ∀ v' w', Own E e B w' v' (xs ++ ys) → w.grownBy w' v.ownBlock → (v'.ownBlock = v.ownBlock ∨ v'.ownBlock = some w.heap.size) → G v' w') : UponG P G ((execOp ρ o).run P w) := by
 obtain ⟨v', w', hr, h1, h2, h3⟩ := run_append_arrO (P := P) t o.type B e z bytes hi ht hzs v xs hown (ρ x) ys hy h63 hbytes hB
 rw [← hs] at hr
 unfold execOp
 simp only [ho, resolve, invoke, builtin, Sem.run_bind, Sem.run_pure, Result.andThen_ok, List.map_toArray, List.map_cons, List.map_nil, hr]
 exact h v' w' h1 h2 h3
end Go.Proofs.YtlnoelbeaolikaaGreat
namespace Go.Proofs.YtlnoelbeaolikaaGreat
open Go.RowKit
def StgStepR (P : Program) (l : List Oper) (Bl : World → Prop) (φ : Nat → Value → World → Prop) (K : (Operand → Value) → World → (Value → World → Prop) → Prop) (tmps : Array Value) (o : Oper) : Prop :=
 ∀ (ρ : Operand → Value) (w : World), Bl w →
  (∀ t, (dstsOf l).contains t = false → ρ (.tmp t) = tmps.getD t undef) → (∀ c, ρ (.const c) = c) → (∀ f, ρ (.func f) = .func (.func f) #[] #[]) → (∀ g, ρ (.global g) = .pointer (some ⟨g, 0, none⟩)) →
  (∀ e ∈ o.after, Region.binds .any e = true → ∀ d, (l[e.on]?).bind (·.dst) = some d → φ e.on (ρ (.tmp d)) w) →
  ∀ G : Value → World → Prop, K ρ w G → (Region.wanted o (yieldedR l ρ) = true → UponG P G ((execOp ρ o).run P w)) ∧ (Region.wanted o (yieldedR l ρ) = false → G undef w)
def turnKx (l : List Oper) (Bl' : World → Prop) (φ φ' : Nat → Value → World → Prop) (i : Nat) (ρ : Operand → Value) (w : World) (G : Value → World → Prop) : Prop :=
 ∀ v w', Bl' w' → φ' i v w' → (∀ j u, j < l.length → j ≠ i → (∀ o d, l[j]? = some o → o.dst = some d → ρ (.tmp d) = u) → φ j u w → φ' j u w') → G v w'
theorem wp_region_stgx {P : Program} {id : Nat} {Q : Exit → Act → World → Prop} {tmps : Array Value} {df : List Deferred} {w0 : World} {l : List Oper} (s t : Nat) (Bl : Nat → World → Prop) (φ : Nat → Nat → Value → World → Prop)
  (hm : P.follows .mixedOrders = true) (hd : dstsApart l = true) (he : edgesBack 0 l = true) (hin : dstsIn tmps.size l = true) (hst : anc l t s = true)
  (hB0 : Bl 0 { w0 with drawn := w0.drawn + 1 }) (hB : ∀ c w w', Bl c w → Below w.heap.size w w' → Bl c w')
  (hφ : ∀ c i v w w', φ c i v w → Below w.heap.size w w' → φ c i v w')
  (hstep : StepsAll (fun i o => i = s ∨ i = t ∨ ((canAt l s t 0 i = true → StgStep P l (Bl 0) (φ 0) (keepK (φ 0 i)) tmps o) ∧ (canAt l s t 1 i = true → StgStep P l (Bl 1) (φ 1) (keepK (φ 1 i)) tmps o) ∧ (canAt l s t 2 i = true → StgStep P l (Bl 2) (φ 2) (keepK (φ 2 i)) tmps o))) 0 l)
  (hs : ∀ o, l[s]? = some o → StgStep P l (Bl 0) (φ 0) (turnK l (Bl 1) (φ 0) (φ 1) s) tmps o)
  (ht : ∀ o, l[t]? = some o → StgStepR P l (Bl 1) (φ 1) (fun ρ => turnKx l (Bl 2) (φ 1) (φ 2) t ρ) tmps o)
  (hlt : t < l.length)
  (hend : ∀ (x : Nat → Value) (w : World), Bl 2 w → (∀ i, i < l.length → φ 2 i (x i) w) → Q .normal (putAll ⟨tmps, df⟩ x 0 l) w) :
  (Code.region id l.toArray true).wp P Q ⟨tmps, df⟩ w0 := by
 refine wp_region_J (fun L x w => Closed l L ∧ Bl (stageOf s t L) w ∧ ∀ i, i < l.length → L i = true → φ (stageOf s t L) i (x i) w) hm hd he hin
  (fun x => ⟨(fun i o _ h => by cases h), by simpa [stageOf] using hB0, (fun i _ h => by cases h)⟩) ?stp (fun L x w hL hJ => ?fin)
 case fin =>
  have h2 : stageOf s t L = 2 := by unfold stageOf; rw [if_pos (hL t hlt)]
  rw [h2] at hJ
  exact hend x w hJ.2.1 fun i hi => hJ.2.2 i hi (hL i hi)
 intro L x w i o ho hLi hae hJ ρ htm hc hf hg hx
 obtain ⟨hcl, hBl, hfa⟩ := hJ
 have hil : i < l.length := (List.getElem?_eq_some_iff.1 ho).1
 have hcl' : Closed l (fun j => if j = i then true else L j) := by
  intro j o' ho' hj e hee hb
  by_cases e1 : e.on = i
  ·simp [e1]
  ·simp only [e1, if_false]
   by_cases e2 : j = i
   ·subst e2
    rw [ho] at ho'; cases ho'
    exact hae e hee hb
   ·simp only [e2, if_false] at hj
    exact hcl j o' ho' hj e hee hb
 have hts : L t = true → L s = true := fun h => anc_done hcl t s hst h
 have hsn : s ≠ t := by
  intro e
  subst e
  exact absurd (anc_lt hst) (Nat.lt_irrefl _)
 have hdep : ∀ e ∈ o.after, Region.binds .any e = true → ∀ d, (l[e.on]?).bind (·.dst) = some d → φ (stageOf s t L) e.on (ρ (.tmp d)) w := by
  intro e hee hb d hdd
  obtain ⟨o', ho', hod⟩ := Option.bind_eq_some_iff.1 hdd
  rw [hx e.on o' d ho' hod]
  exact hfa e.on (List.getElem?_eq_some_iff.1 ho').1 (hae e hee hb)
 have close : ∀ (G : World → Value → World → Prop), ((Region.wanted o (yieldedR l ρ) = true → UponG P (G w) ((execOp ρ o).run P w)) ∧ (Region.wanted o (yieldedR l ρ) = false → G w undef w)) →
   (∀ v w', G w v w' → Bl (stageOf s t fun j => if j = i then true else L j) w' ∧ ∀ j, j < l.length → (if j = i then true else L j) = true → φ (stageOf s t fun j => if j = i then true else L j) j (if j = i then v else x j) w') →
   if Region.wanted o (yieldedR l ρ) = true then
    (match (execOp ρ o).run P w with
     | .ok (.value v) w' => Closed l (fun j => if j = i then true else L j) ∧ Bl (stageOf s t fun j => if j = i then true else L j) w' ∧ ∀ j, j < l.length → (if j = i then true else L j) = true → φ (stageOf s t fun j => if j = i then true else L j) j (if j = i then v else x j) w'
     | .ok .skip w' => Closed l (fun j => if j = i then true else L j) ∧ Bl (stageOf s t fun j => if j = i then true else L j) w' ∧ ∀ j, j < l.length → (if j = i then true else L j) = true → φ (stageOf s t fun j => if j = i then true else L j) j (if j = i then undef else x j) w'
     | .ok (.enter f args) w' => Calls P f args w' fun e w'' => ∃ v, e = .returned v ∧ Closed l (fun j => if j = i then true else L j) ∧ Bl (stageOf s t fun j => if j = i then true else L j) w'' ∧ ∀ j, j < l.length → (if j = i then true else L j) = true → φ (stageOf s t fun j => if j = i then true else L j) j (if j = i then v else x j) w''
     | _ => False)
   else Closed l (fun j => if j = i then true else L j) ∧ Bl (stageOf s t fun j => if j = i then true else L j) w ∧ ∀ j, j < l.length → (if j = i then true else L j) = true → φ (stageOf s t fun j => if j = i then true else L j) j (if j = i then undef else x j) w := by
  intro G hR hG
  split
  ·rename_i hw
   have hU := hR.1 hw
   generalize (execOp ρ o).run P w = r at hU ⊢
   cases r with
   | ok n w' =>
    cases n with
    | value v => exact ⟨hcl', hG v w' hU⟩
    | skip => exact ⟨hcl', hG undef w' hU⟩
    | enter f args => exact Calls.mono hU fun e w'' ⟨v, hev, hg'⟩ => ⟨v, hev, hcl', hG v w'' hg'⟩
    | _ => exact hU.elim
   | halt h w' => exact hU.elim
  ·rename_i hw
   exact ⟨hcl', hG undef w (hR.2 (by simpa using hw))⟩
 have turn : ∀ c (_ : stageOf s t L = c) (_ : stageOf s t (fun j => if j = i then true else L j) = c + 1), (∀ v w', turnG l (Bl (c + 1)) (φ c) (φ (c + 1)) i w v w' → Bl (stageOf s t fun j => if j = i then true else L j) w' ∧ ∀ j, j < l.length → (if j = i then true else L j) = true → φ (stageOf s t fun j => if j = i then true else L j) j (if j = i then v else x j) w') := by
  intro c h1 h2 v w' h
  rw [h2]
  rw [h1] at hfa
  refine ⟨h.1, fun j hj hLj => ?_⟩
  by_cases e : j = i
  ·subst e; simpa using h.2.1
  ·rw [if_neg e] at hLj ⊢
   exact h.2.2 j _ hj e (hfa j hj hLj)
 have keep : ∀ c (_ : stageOf s t L = c) (_ : stageOf s t (fun j => if j = i then true else L j) = c), (∀ v w', keepG (φ c) i w v w' → Bl (stageOf s t fun j => if j = i then true else L j) w' ∧ ∀ j, j < l.length → (if j = i then true else L j) = true → φ (stageOf s t fun j => if j = i then true else L j) j (if j = i then v else x j) w') := by
  intro c h1 h2 v w' h
  rw [h2]
  rw [h1] at hfa hBl
  refine ⟨hB c w w' hBl h.1, fun j hj hLj => ?_⟩
  by_cases e : j = i
  ·subst e; simpa using h.2
  ·rw [if_neg e] at hLj ⊢
   exact hφ c j _ w w' (hfa j hj hLj) h.1
 by_cases e1 : i = s
 ·subst e1
  have h0 : stageOf i t L = 0 := by
   unfold stageOf
   rw [if_neg (fun h => by rw [hts h] at hLi; cases hLi), if_neg (by rw [hLi]; exact Bool.false_ne_true)]
  have h1 : stageOf i t (fun j => if j = i then true else L j) = 1 := by
   have htL : L t ≠ true := fun h => by rw [hts h] at hLi; cases hLi
   unfold stageOf
   simp [Ne.symm hsn, htL]
  rw [h0] at hBl hdep
  exact close (turnG l (Bl 1) (φ 0) (φ 1) i) (hs o ho ρ w hBl htm hc hf hg hdep _ (fun v w' h1 h2 h3 => ⟨h1, h2, h3⟩)) (turn 0 h0 h1)
 by_cases e2 : i = t
 ·subst e2
  have hLs : L s = true := by
   have h := anc_done hcl' i s hst (by simp)
   rwa [if_neg hsn] at h
  have h0 : stageOf s i L = 1 := by
   unfold stageOf
   rw [if_neg (by rw [hLi]; exact Bool.false_ne_true), if_pos hLs]
  have h1 : stageOf s i (fun j => if j = i then true else L j) = 2 := by
   unfold stageOf; simp
  rw [h0] at hBl hdep
  refine close (fun w v w' => Bl 2 w' ∧ φ 2 i v w' ∧ ∀ j u, j < l.length → j ≠ i → (∀ o' d, l[j]? = some o' → o'.dst = some d → ρ (.tmp d) = u) → φ 1 j u w → φ 2 j u w') (ht o ho ρ w hBl htm hc hf hg hdep _ (fun v w' h1 h2 h3 => ⟨h1, h2, h3⟩)) ?_
  intro v w' h
  rw [h1]
  rw [h0] at hfa
  refine ⟨h.1, fun j hj hLj => ?_⟩
  by_cases e : j = i
  ·subst e; simpa using h.2.1
  ·rw [if_neg e] at hLj ⊢
   exact h.2.2 j _ hj e (fun o' d ho' hd' => hx j o' d ho' hd') (hfa j hj hLj)
 have hSt := stepsAll_get l 0 hstep i o ho
 rw [Nat.zero_add] at hSt
 obtain ⟨o0, o1, o2⟩ := (hSt.resolve_left e1).resolve_left e2
 have same : stageOf s t (fun j => if j = i then true else L j) = stageOf s t L := by
  unfold stageOf
  simp [Ne.symm e1, Ne.symm e2]
 have anc_i : ∀ a, anc l i a = true → L a = true := by
  intro a h
  have h1 := anc_done hcl' i a h (by simp)
  rwa [if_neg (by have := anc_lt h; omega)] at h1
 have no : ∀ a, L a = true → anc l a i = false := by
  intro a ha
  cases h : anc l a i with
  | false => rfl
  | true => have := anc_done hcl a i h ha; rw [hLi] at this; cases this
 have noi : ∀ a, L a ≠ true → anc l i a = false := by
  intro a ha
  cases h : anc l i a with
  | false => rfl
  | true => exact absurd (anc_i a h) ha
 by_cases hLt : L t = true
 ·have h0 : stageOf s t L = 2 := by unfold stageOf; rw [if_pos hLt]
  rw [h0] at hBl hdep
  exact close (keepG (φ 2) i) (o2 (by simp [canAt, no t hLt]) ρ w hBl htm hc hf hg hdep _ (fun v w' h1 h2 => ⟨h1, h2⟩)) (keep 2 h0 (same.trans h0))
 ·by_cases hLs : L s = true
  ·have h0 : stageOf s t L = 1 := by unfold stageOf; rw [if_neg hLt, if_pos hLs]
   rw [h0] at hBl hdep
   exact close (keepG (φ 1) i) (o1 (by simp [canAt, no s hLs, noi t hLt]) ρ w hBl htm hc hf hg hdep _ (fun v w' h1 h2 => ⟨h1, h2⟩)) (keep 1 h0 (same.trans h0))
  ·have h0 : stageOf s t L = 0 := by unfold stageOf; rw [if_neg hLt, if_neg hLs]
   rw [h0] at hBl hdep
   exact close (keepG (φ 0) i) (o0 (by simp [canAt, noi s hLs]) ρ w hBl htm hc hf hg hdep _ (fun v w' h1 h2 => ⟨h1, h2⟩)) (keep 0 h0 (same.trans h0))
end Go.Proofs.YtlnoelbeaolikaaGreat
namespace Go.Proofs.YtlnoelbeaolikaaGreat
open Go.RowKit
abbrev NestG (lo hi : Nat) (u : Value) (vs : List SV) (X : XInk) (w : World) : Prop := NestSt ePoint 114 112 lo hi u vs X w
theorem nestG_emp {lo hi : Nat} (w : World) : NestG lo hi (.slice none 0 0) [] [] w :=
 ⟨⟨Own.nil _ _ _, fun g hg => by simp [Value.ownBlock] at hg⟩, rfl, fun i s x hs => by simp at hs, fun i j s t g hs => by simp at hs⟩
theorem nestG_chg {lo hi a b : Nat} {u : Value} {vs : List SV} {Y : XInk} {w w' : World} (h : NestG lo hi u vs Y w) (hc : Chg a b w w') (hd : b ≤ lo ∨ hi ≤ a) : NestG lo hi u vs Y w' :=
 ⟨h.outer.chg hc hd, h.len, fun i s x hs hx => (h.inner i s x hs hx).chg hc hd, h.apart⟩
theorem nestG_below {lo hi : Nat} {u : Value} {vs : List SV} {Y : XInk} {w w' : World} (h : NestG lo hi u vs Y w) (hb : Below w.heap.size w w') : NestG lo hi u vs Y w' :=
 nestG_chg h (Chg.of_below (a := 0) (b := 0) hb) (.inl (Nat.zero_le _))
theorem nestG_mono {lo hi lo' hi' : Nat} {u : Value} {vs : List SV} {Y : XInk} {w : World} (h : NestG lo hi u vs Y w) (hl : lo' ≤ lo) (hh : hi ≤ hi') : NestG lo' hi' u vs Y w :=
 ⟨h.outer.mono hl hh, h.len, fun i s x hs hx => (h.inner i s x hs hx).mono hl hh, h.apart⟩
theorem nestG_now {lo : Nat} {u : Value} {vs : List SV} {Y : XInk} {w w' : World} (h : NestG lo w.heap.size u vs Y w) (hb : Below w.heap.size w w') : NestG lo w'.heap.size u vs Y w' :=
 nestG_mono (nestG_below h hb) (Nat.le_refl _) hb.size
theorem nestG_outer {lo hi : Nat} {u : Value} {vs : List SV} {Y : XInk} {w w' : World} (h : NestG lo hi u vs Y w) (hb : Below w.heap.size w w') : Own eS1 112 lo w' u vs := (nestG_below h hb).outer.1
def NewG (lo : Nat) (w : World) (s : SV) (r : XStroke) : Prop := OwnIn ePoint 114 lo w.heap.size w s.val r
theorem NewG.below {lo : Nat} {w w' : World} {s : SV} {r : XStroke} (h : NewG lo w s r) (hb : Below w.heap.size w w') : NewG lo w' s r :=
 (OwnIn.chg h (Chg.of_below (a := 0) (b := 0) hb) (.inl (Nat.zero_le _))).mono (Nat.le_refl _) hb.size
theorem newG_of {lo : Nat} {w1 w2 : World} {u : Value} {r : XStroke} (ho : Own ePoint 114 w1.heap.size w2 u r) (hle : lo ≤ w1.heap.size) : ∃ s : SV, u = s.val ∧ NewG lo w2 s r := by
 obtain ⟨a, c, hu⟩ := ho.isSlice
 exact ⟨⟨a, r.length, c⟩, hu, by rw [hu] at ho; exact ho.in_.mono hle (Nat.le_refl _)⟩
theorem nestG_push {lo : Nat} {u u' : Value} {vs : List SV} {X : XInk} {w w1 w2 : World} {s : SV} {r : XStroke} (h : NestG lo w.heap.size u vs X w) (hlo : lo ≤ w.heap.size) (hb : Below w.heap.size w w1)
  (hr : NewG w.heap.size w1 s r) (ho : Own eS1 112 lo w2 u' (vs ++ [s])) (hg : w1.grownBy w2 u.ownBlock) : NestG lo w2.heap.size u' (vs ++ [s]) (X ++ [r]) w2 := by
 have hl := h.len
 have hout := (nestG_below h hb).outer
 have hty := own_typed hout.1 hg
 have hsz : w.heap.size ≤ w2.heap.size := Nat.le_trans hb.size hg.size
 refine ⟨ho.in_, by simp [hl], fun i a x ha hx => ?_, fun i j a b q ha hbb hq1 hq2 => ?_⟩
 ·by_cases hi : i < vs.length
  ·rw [List.getElem?_append_left hi] at ha
   rw [List.getElem?_append_left (by omega)] at hx
   exact (((nestG_below h hb).inner i a x ha hx).typed hty (by rfl)).mono (Nat.le_refl _) hsz
  ·have e : i = vs.length := by have := (List.getElem?_eq_some_iff.1 ha).1; simp at this; omega
   subst e
   simp at ha
   subst ha
   rw [hl] at hx
   simp at hx
   subst hx
   exact (OwnIn.typed hr hty (by rfl)).mono hlo hg.size
 ·have key : ∀ (j : Nat) (b : SV) (q : Nat), vs[j]? = some b → b.blk = some q → s.blk = some q → False := fun j b q hj h1 h2 => by
   have hj2 : j < X.length := by rw [← hl]; exact (List.getElem?_eq_some_iff.1 hj).1
   have h3 := (h.inner j b _ hj (List.getElem?_eq_getElem hj2)).2 q h1
   have h4 := (World.ownsRow.lt hr.1 q h2).1
   omega
  have split : ∀ (i : Nat) (a : SV), (vs ++ [s])[i]? = some a → (i < vs.length ∧ vs[i]? = some a) ∨ (i = vs.length ∧ a = s) := fun i a ha => by
   by_cases hi : i < vs.length
   ·rw [List.getElem?_append_left hi] at ha; exact .inl ⟨hi, ha⟩
   ·have e : i = vs.length := by have := (List.getElem?_eq_some_iff.1 ha).1; simp at this; omega
    subst e
    simp at ha
    exact .inr ⟨rfl, ha.symm⟩
  rcases split i a ha with ⟨h1, h2⟩ | ⟨h1, rfl⟩
  ·rcases split j b hbb with ⟨h3, h4⟩ | ⟨h3, rfl⟩
   ·exact h.apart i j a b q h2 h4 hq1 hq2
   ·exact (key i a q h2 hq1 hq2).elim
  ·rcases split j b hbb with ⟨h3, h4⟩ | ⟨h3, _⟩
   ·exact (key j b q h4 hq2 hq1).elim
   ·rw [h1, h3]
def FinG (q : Nat) (U : World) (X : XInk) (w : World) : Prop := ∃ uo vs, Box w q #[uo] 41 ∧ NestG (q + 1) w.heap.size uo vs X w ∧ Below q U w
theorem FinG.below {q : Nat} {U : World} {X : XInk} {w w' : World} (h : FinG q U X w) (hb : Below w.heap.size w w') : FinG q U X w' := by
 obtain ⟨uo, vs, h1, h2, h3⟩ := h
 exact ⟨uo, vs, h1.later hb, nestG_now h2 hb, h3.trans (hb.mono (Nat.le_of_lt h1.lt))⟩
theorem infStrokeG : (Tryz.prog.info? 112).map (fun i => (i.zero, i.size, i.bytes)) = some (some (.agg #[.slice none 0 0]), eS1.sz, 24) := by kernel_rfl
theorem grownBoxG {w w' : World} {q : Nat} {cs : Array Value} {T : TypeId} {r : Option Nat} (h : Box w q cs T) (hg : w.grownBy w' r) (hne : r ≠ some q) : Box w' q cs T := (hg.block q h.lt (fun e => hne e.symm)).trans h
/-- the strokes that are chosen among the first k -/
def inkTo (X : XInk) (S : List Int) (k : Nat) : XInk := (selN S k).map fun k => (X[k]?).getD []
theorem inkTo_t {X : XInk} {S : List Int} {k : Nat} {x : XStroke} (hx : X[k]? = some x) (h : (k : Int) ∈ S) : inkTo X S k ++ [x] = inkTo X S (k + 1) := by
 unfold inkTo selN
 rw [List.range_succ, List.filter_append, List.map_append]
 simp [h, hx]
theorem inkTo_f {X : XInk} {S : List Int} {k : Nat} (h : ¬ (k : Int) ∈ S) : inkTo X S k = inkTo X S (k + 1) := by
 unfold inkTo selN
 rw [List.range_succ, List.filter_append, List.map_append]
 simp [h]
theorem inkTo_len (X : XInk) (S : List Int) (k : Nat) : (inkTo X S k).length ≤ k := by
 unfold inkTo selN
 rw [List.length_map]
 exact Nat.le_trans (List.length_filter_le _ _) (by simp)
end Go.Proofs.YtlnoelbeaolikaaGreat
namespace Go.Proofs.YtlnoelbeaolikaaGreat
open Go.RowKit
def SubAt (X : XInk) (f t B : Nat) (w : World) (v : Value) : Prop := ∃ g cap, v = .slice (some ⟨g, f, none⟩) (t - f) (cap - f) ∧ B ≤ g ∧ Arr eI w v (subO X f t)
theorem SubAt.below {X : XInk} {f t B : Nat} {w w' : World} {v : Value} (h : SubAt X f t B w v) (hb : Below w.heap.size w w') : SubAt X f t B w' v := by
 obtain ⟨g, cap, h1, h2, h3⟩ := h
 exact ⟨g, cap, h1, h2, h3.below hb⟩
theorem subAt_mk {X : XInk} {f t B g cap : Nat} {w : World} (h : B ≤ g) (ha : Arr eI w (.slice (some ⟨g, f, none⟩) (t - f) (cap - f)) (subO X f t)) : SubAt X f t B w (.slice (some ⟨g, f, none⟩) (t - f) (cap - f)) := ⟨g, cap, rfl, h, ha⟩
def InkPost (X : XInk) (f t : Nat) (w : World) (e : Ending) (w' : World) : Prop := ∃ uo vs, e = .returned (.agg #[uo]) ∧ NestG w.heap.size w'.heap.size uo vs (inkG X f t) w' ∧ Below w.heap.size w w'
set_option maxRecDepth 100000 in
set_option maxHeartbeats 4000000 in
theorem l14Ink_any (p o : Nat) (v : Value) (X : XInk) (f t : Nat) (w : World) (hp : w.cell? ⟨p, o, none⟩ = some v) (h : Strokes w v X) (ok : okInk X) (hv : validInk X = true) (hft : f < t) (ht : t ≤ X.length) :
  Calls Tryz.prog 77 #[.pointer (some ⟨p, o, none⟩), .agg #[.int .i64 f, .int .i64 t]] w (InkPost X f t w) := by
 have hX16 := validInk_len hv
 have htL : t ≤ (orderI X).length := by rw [orderI_len]; exact ht
 have h0 := h
 obtain ⟨b, off, ao, cap, us, rfl, hnc, hcm, hao, hcl, hul, hin⟩ := h.slice
 unfold maxLen at hcm
 have HUL := hid hul
 have HIN := hid hin
 clear hul hin h
 obtain ⟨W, hW⟩ : ∃ u, u = ((w.alloc (.cells #[.int .i64 f, .int .i64 t] 86)).alloc (.cells #[.slice none 0 0] 41)) := ⟨_, rfl⟩
 have hbW : Below w.heap.size w W := by rw [hW]; exact belowA2 _ _ _
 have q1 : Box W (w.heap.size) #[.int .i64 f, .int .i64 t] 86 := by
  have hq := Box.new w #[.int .i64 f, .int .i64 t] 86
  rw [hW]
  exact (hq.alloc _)
 have q2 : Box W (w.heap.size + 1) #[.slice none 0 0] 41 := by
  have hq := Box.new (w.alloc (.cells #[.int .i64 f, .int .i64 t] 86)) #[.slice none 0 0] 41
  simp at hq
  rw [hW]
  exact hq
 obtain ⟨p1, hp1⟩ : ∃ p, p = w.heap.size := ⟨_, rfl⟩
 rw [← hp1] at q1
 have hge1 : w.heap.size ≤ p1 := by omega
 obtain ⟨p2, hp2⟩ : ∃ p, p = w.heap.size + 1 := ⟨_, rfl⟩
 rw [← hp2] at q2
 have hge2 : w.heap.size ≤ p2 := by omega
 have hlW : w.heap.size ≤ W.heap.size := hbW.size
 have hlp1 : p1 < W.heap.size := q1.lt
 have hlp2 : p2 < W.heap.size := q2.lt
 have hne12 : p1 ≠ p2 := by omega
 have HP1 := hid hp1
 have HP2 := hid hp2
 have HW := hid hW
 clear hW hp1 hp2
 have nW := cell_later hbW hp
 have hSW := h0.below hbW
 have m0 := q1.cell (j := 0) rfl
 have m1 := q1.cell (j := 1) rfl
 have CO := fun w' (hb : Below W.heap.size W w') => l14Order_any p o _ X w' (cell_later hb nW) (hSW.below hb) ok hv
 have HTL := hid htL
 clear htL
 go_enter Tryz.func77, Tryz.ntmps77
 go_upto_region 1 with fail
 rw [← HP2.out, ← HP1.out, ← HW.out]
 refine wp_region_rel (fun i v w' => match i with
       | 0 => v = .pointer (some ⟨p, o, none⟩)
       | 1 => (Own eI 2 W.heap.size w' v (orderI X))
       | 2 => v = .pointer (some ⟨p1, 0, none⟩)
       | 3 => v = .int .i64 f
       | 4 => v = .pointer (some ⟨p1, 1, none⟩)
       | 5 => v = .int .i64 t
       | 6 => SubAt X f t W.heap.size w' v
       | 7 => SubAt X f t W.heap.size w' v
       | _ => True) (by kernel_rfl) (by kernel_rfl) (by kernel_rfl) (by kernel_rfl) ?_ ?_ ?_
 ·intro i v w w' h hb
  match i, h with
  | 0, h => exact h
  | 1, h => exact h.below hb
  | 2, h => exact h
  | 3, h => exact h
  | 4, h => exact h
  | 5, h => exact h
  | 6, h => exact SubAt.below h hb
  | 7, h => exact SubAt.below h hb
  | (k + 8), h => exact h
 ·refine ⟨?_, ?_, ?_, ?_, ?_, ?_, ?_, ?_, trivial⟩
  ·intro ρ w' hbw ht hcs hfn hgl hdep
   refine ⟨fun _ => ?_, fun h => by cases h⟩
   have s0 : ρ (.tmp 0) = .pointer (some ⟨p, o, none⟩) := ht 0 rfl
   clear ht hdep hgl
   go_simp
   exact ⟨Below.refl _ _, rfl⟩
  ·intro ρ w' hbw ht hcs hfn hgl hdep
   refine ⟨fun _ => ?_, fun h => by cases h⟩
   have s8 : ρ (.tmp 8) = .pointer (some ⟨p, o, none⟩) := hdep ⟨0, .data⟩ (by simp) rfl 8 rfl
   clear ht hdep hgl
   go_simp
   exact (CO w' hbw).mono fun e w'' ⟨u, he, ho, hb⟩ => ⟨_, he, hb, ho.mono hbw.size⟩
  ·intro ρ w' hbw ht hcs hfn hgl hdep
   refine ⟨fun _ => ?_, fun h => by cases h⟩
   have s3 : ρ (.tmp 3) = .pointer (some ⟨p1, 0, none⟩) := ht 3 rfl
   clear ht hdep hgl
   go_simp
   exact ⟨Below.refl _ _, rfl⟩
  ·intro ρ w' hbw ht hcs hfn hgl hdep
   refine ⟨fun _ => ?_, fun h => by cases h⟩
   have s10 : ρ (.tmp 10) = .pointer (some ⟨p1, 0, none⟩) := hdep ⟨2, .data⟩ (by simp) rfl 10 rfl
   have m0 := cell_later hbw m0
   have m1 := cell_later hbw m1
   clear ht hdep hgl
   go_simp
   exact ⟨Below.refl _ _, rfl⟩
  ·intro ρ w' hbw ht hcs hfn hgl hdep
   refine ⟨fun _ => ?_, fun h => by cases h⟩
   have s3 : ρ (.tmp 3) = .pointer (some ⟨p1, 0, none⟩) := ht 3 rfl
   clear ht hdep hgl
   go_simp
   exact ⟨Below.refl _ _, rfl⟩
  ·intro ρ w' hbw ht hcs hfn hgl hdep
   refine ⟨fun _ => ?_, fun h => by cases h⟩
   have s12 : ρ (.tmp 12) = .pointer (some ⟨p1, 1, none⟩) := hdep ⟨4, .data⟩ (by simp) rfl 12 rfl
   have m0 := cell_later hbw m0
   have m1 := cell_later hbw m1
   clear ht hdep hgl
   go_simp
   exact ⟨Below.refl _ _, rfl⟩
  ·intro ρ w' hbw ht hcs hfn hgl hdep
   refine ⟨fun _ => ?_, fun h => by cases h⟩
   have d9 := hdep ⟨1, .data⟩ (by simp) rfl 9 rfl
   have s11 : ρ (.tmp 11) = .int .i64 f := hdep ⟨3, .data⟩ (by simp) rfl 11 rfl
   have s13 : ρ (.tmp 13) = .int .i64 t := hdep ⟨5, .data⟩ (by simp) rfl 13 rfl
   clear ht hdep hgl
   obtain ⟨g, cp, hu, hg, _, hn, _, ha, _⟩ := own_sub d9 hft HTL.out
   have htl := HTL.out
   have s9 : ρ (.tmp 9) = .slice (some ⟨g, 0, none⟩) (orderI X).length cp := hu
   have hfi : (f : Int) ≤ (t : Int) := by omega
   have hti : (t : Int) ≤ (cp : Int) := by omega
   have hfn : f ≤ t := by omega
   have htn : t ≤ cp := by omega
   have hne : ¬ (cp = f) := by omega
   have hne2 : ¬ (f = cp) := by omega
   clear d9 hu htl hn
   go_simp
   exact ⟨Below.refl _ _, subAt_mk hg ha⟩
  ·intro ρ w' hbw ht hcs hfn hgl hdep
   refine ⟨fun _ => ?_, fun h => by cases h⟩
   have d14 := hdep ⟨6, .data⟩ (by simp) rfl 14 rfl
   clear ht hdep hgl
   go_simp
   exact ⟨Below.refl _ _, d14⟩
 intro xx w1 hb1 hx
 have hx7 := hx 7 (by simp)
 clear hx
 simp only [putAll, Act.put, List.setIfInBounds_toArray, List.set_cons_succ, List.set_cons_zero, Nat.zero_add, Nat.reduceAdd]
 replace hx7 : SubAt X f t W.heap.size w1 (xx 7) := hx7
 obtain ⟨gs, cs, hvs, hgs, hAs⟩ := hx7
 generalize xx 1 = k1 at *
 generalize xx 6 = k6 at *
 generalize xx 7 = k7 at *
 subst hvs
 have hbE1 := hbW.trans (hb1.mono hlW)
 have hb1s := hb1.size
 have bx2 := q2.later hb1
 have n1 := cell_later hb1 nW
 go_upto_region 3 with fail
 obtain ⟨q, hqq⟩ : ∃ q, q = w1.heap.size := ⟨_, rfl⟩
 obtain ⟨w4, hw4⟩ : ∃ u, u = w1.alloc (.cells #[.slice none 0 0] 41) := ⟨_, rfl⟩
 rw [← hw4, ← hqq]
 have hb4 : Below w1.heap.size w1 w4 := by rw [hw4]; exact below_alloc _ _
 have hx4 : FinG q w4 (inkTo X (subO X f t) 0) w4 := by rw [hw4, hqq]; exact ⟨_, [], Box.new _ _ _, nestG_emp _, Below.refl _ _⟩
 have n4 := cell_later hb4 n1
 have bx4 := bx2.later hb4
 have hpq : p < q := by have := cell_lt n1; omega
 have hp2q : p2 < q := by have := bx2.lt; omega
 have hwq : w.heap.size ≤ q := by have := hbE1.size; omega
 have hbE4 := hbE1.trans (hb4.mono (by have := hbE1.size; omega))
 have hto : ∀ u, Below q w4 u → Below w1.heap.size w1 u := fun u hu => hb4.trans (by rw [← hqq]; exact hu)
 have HTO := hid hto
 clear hw4 hqq hto nW n1 m0 m1 q1 q2 bx2 CO
 go_wp2_with fail
 go_loopw [7] (fun i wr => ∃ k : Nat, k ≤ X.length ∧ i = .int .i64 k ∧ FinG q w4 (inkTo X (subO X f t) k) wr) (fun i _ => X.length - (intOf i).toNat)
 case atStart => exact ⟨0, Nat.zero_le _, rfl, hx4⟩
 case round =>
  clear hx4
  obtain ⟨k, hk, rfl, uo, vs, hbx, hst, hbl⟩ := hrel
  obtain ⟨Z, hZ⟩ : ∃ Z, Z = inkTo X (subO X f t) k := ⟨_, rfl⟩
  have hZl : Z.length ≤ 16 := by rw [hZ]; have := inkTo_len X (subO X f t) k; omega
  rw [← hZ] at hst
  have hvl : vs.length ≤ 16 := by rw [hst.len]; exact hZl
  obtain ⟨oa, oc, huo⟩ := hst.outer.1.isSlice
  subst huo
  have a1 := hbx.cell (j := 0) rfl
  have hlt' := hbx.lt
  have hbR := hbE4.trans (hbl.mono hwq)
  have c1 := below_cell hbl hpq n4
  have hAr := hAs.below (HTO.out wr hbl)
  have HZ := hid hZ
  clear hZ hZl
  by_cases hlt : k < X.length
  ·have hli : (k : Int) < (X.length : Int) := by omega
   obtain ⟨hao', hbw⟩ := hao (by omega)
   subst hao'
   obtain ⟨x, hx⟩ : ∃ x, X[k]? = some x := ⟨_, List.getElem?_eq_getElem hlt⟩
   obtain ⟨sr, hsv⟩ : ∃ s, us[k]? = some s := ⟨_, List.getElem?_eq_getElem (by rw [HUL.out]; exact hlt)⟩
   have d0 := eS1_cells (hcl.below hbR hbw) hsv
   have hA := (HIN.out k sr x hsv hx).below hbR
   have hxl : x.length ≤ 1048576 := okInk_st ok hx
   have CH := l00Has_any _ (subO X f t) (k : Int) wr hAr
   have CC := fun w' (hbw : Below wr.heap.size wr w') => l02OwnStroke_any b (off + k) _ x w' (cell_later hbw d0) (hA.below hbw) hxl
   have HXX := hid hx
   clear hx hsv d0 hA hAr
   by_cases hm : (k : Int) ∈ subO X f t
   ·have HT := hid (show Z ++ [x] = inkTo X (subO X f t) (k + 1) by rw [HZ.out]; exact inkTo_t HXX.out hm)
    rw [show decide ((k : Int) ∈ subO X f t) = true by simpa using hm] at CH
    clear hm
    go_wp2_with fail
    refine CH.mono ?_
    rintro e w5 ⟨rfl, hb5⟩
    have hbx5 := hbx.later hb5
    have hst5 := nestG_now hst hb5
    have hbl5 := hbl.trans (hb5.mono (Nat.le_of_lt hlt'))
    have a15 := hbx5.cell (j := 0) rfl
    have c15 := cell_later hb5 c1
    have hlt5 := hbx5.lt
    have hs5 := hb5.size
    have CC5 := fun w' (hbw : Below w5.heap.size w5 w') => CC w' (hb5.trans (hbw.mono hs5))
    clear hbx hst hbl CH CC a1 c1
    go_upto_region 7 with fail
    all_goals first | (exfalso; simp_all; done) | skip
    refine wp_region_stg 10 12 (fun c w' => match c with | 0 => Below w5.heap.size w5 w' | 1 => (Box w' q #[.slice oa vs.length oc] 41 ∧ Below q w5 w') | _ => FinG q w4 (Z ++ [x]) w') (fun c i v w' => match i with
          | 0 => v = .pointer (some ⟨q, 0, none⟩)
          | 1 => v = .slice oa vs.length oc
          | 2 => v = .pointer (some ⟨p, o, none⟩)
          | 3 => v = .pointer (some ⟨p, o, none⟩)
          | 4 => v = .pointer (some ⟨p, o, none⟩)
          | 5 => v = .slice (some ⟨b, off, none⟩) X.length cap
          | 6 => v = .int .i64 k
          | 7 => v = .pointer (some ⟨b, off + k, none⟩)
          | 8 => (match c with | 0 => (∃ s : SV, v = .agg #[s.val] ∧ NewG w5.heap.size w' s x) | 1 => True | _ => True)
          | 9 => (match c with | 0 => (∃ s : SV, Arr eS1 w' v [s] ∧ NewG w5.heap.size w' s x) | 1 => True | _ => True)
          | 10 => (match c with | 0 => True | 1 => (∃ s : SV, NestG (q + 1) w'.heap.size v (vs ++ [s]) (Z ++ [x]) w') | _ => True)
          | 11 => v = .pointer (some ⟨q, 0, none⟩)
          | 12 => (match c with | 0 => True | 1 => True | _ => True)
          | _ => True) (by kernel_rfl) (by kernel_rfl) (by kernel_rfl) (by kernel_rfl) (by kernel_rfl) ?_ ?_ ?_ ?_ ?_ ?_ (by decide) ?_
    ·exact (Below.refl _ w5).drew
    ·intro c w w' h hb
     match c, h with
     | 0, h => exact Below.trans (B := w5.heap.size) h (hb.mono (Below.size h))
     | 1, h => exact ⟨h.1.later hb, h.2.trans (hb.mono (Nat.le_of_lt h.1.lt))⟩
     | (k + 2), h => exact (FinG.below h hb)
    ·intro c i v w w' h hb
     match i, h with
     | 0, h => exact h
     | 1, h => exact h
     | 2, h => exact h
     | 3, h => exact h
     | 4, h => exact h
     | 5, h => exact h
     | 6, h => exact h
     | 7, h => exact h
     | 8, h =>
      match c, h with
      | 0, h => exact (h.imp fun _ h' => ⟨h'.1, h'.2.below hb⟩)
      | 1, h => exact trivial
      | (k + 2), h => exact trivial
     | 9, h =>
      match c, h with
      | 0, h => exact (h.imp fun _ h' => ⟨h'.1.below hb, h'.2.below hb⟩)
      | 1, h => exact trivial
      | (k + 2), h => exact trivial
     | 10, h =>
      match c, h with
      | 0, h => exact trivial
      | 1, h => exact (h.imp fun _ h' => nestG_now h' hb)
      | (k + 2), h => exact trivial
     | 11, h => exact h
     | 12, h =>
      match c, h with
      | 0, h => exact trivial
      | 1, h => exact trivial
      | (k + 2), h => exact trivial
     | (k + 13), h => exact h
    ·refine ⟨?_, ?_, ?_, ?_, ?_, ?_, ?_, ?_, ?_, ?_, ?_, ?_, ?_, trivial⟩
     ·refine .inr (.inr ⟨fun _ => ?_, can_no (by kernel_rfl), can_no (by kernel_rfl)⟩)
      ·intro ρ w' hbw ht hcs hfn hgl hdep G hG
       replace hbw : Below w5.heap.size w5 w' := hbw
       refine ⟨fun _ => ?_, fun h => by cases h⟩
       have s6 : ρ (.tmp 6) = .pointer (some ⟨q, 0, none⟩) := ht 6 rfl
       clear ht hdep hgl
       go_simp
       exact hG _ _ (Below.refl _ _) rfl
     ·refine .inr (.inr ⟨fun _ => ?_, can_no (by kernel_rfl), can_no (by kernel_rfl)⟩)
      ·intro ρ w' hbw ht hcs hfn hgl hdep G hG
       replace hbw : Below w5.heap.size w5 w' := hbw
       refine ⟨fun _ => ?_, fun h => by cases h⟩
       have s28 : ρ (.tmp 28) = .pointer (some ⟨q, 0, none⟩) := hdep ⟨0, .data⟩ (by simp) rfl 28 rfl
       have a15 := cell_later hbw a15
       have c15 := cell_later hbw c15
       clear ht hdep hgl
       go_simp
       exact hG _ _ (Below.refl _ _) rfl
     ·refine .inr (.inr ⟨fun _ => ?_, can_no (by kernel_rfl), can_no (by kernel_rfl)⟩)
      ·intro ρ w' hbw ht hcs hfn hgl hdep G hG
       replace hbw : Below w5.heap.size w5 w' := hbw
       refine ⟨fun _ => ?_, fun h => by cases h⟩
       have s0 : ρ (.tmp 0) = .pointer (some ⟨p, o, none⟩) := ht 0 rfl
       clear ht hdep hgl
       go_simp
       exact hG _ _ (Below.refl _ _) rfl
     ·refine .inr (.inr ⟨fun _ => ?_, can_no (by kernel_rfl), can_no (by kernel_rfl)⟩)
      ·intro ρ w' hbw ht hcs hfn hgl hdep G hG
       replace hbw : Below w5.heap.size w5 w' := hbw
       refine ⟨fun _ => ?_, fun h => by cases h⟩
       have s30 : ρ (.tmp 30) = .pointer (some ⟨p, o, none⟩) := hdep ⟨2, .data⟩ (by simp) rfl 30 rfl
       clear ht hdep hgl
       go_simp
       exact hG _ _ (Below.refl _ _) rfl
     ·refine .inr (.inr ⟨fun _ => ?_, can_no (by kernel_rfl), can_no (by kernel_rfl)⟩)
      ·intro ρ w' hbw ht hcs hfn hgl hdep G hG
       replace hbw : Below w5.heap.size w5 w' := hbw
       refine ⟨fun _ => ?_, fun h => by cases h⟩
       have s31 : ρ (.tmp 31) = .pointer (some ⟨p, o, none⟩) := hdep ⟨3, .data⟩ (by simp) rfl 31 rfl
       clear ht hdep hgl
       go_simp
       exact hG _ _ (Below.refl _ _) rfl
     ·refine .inr (.inr ⟨fun _ => ?_, can_no (by kernel_rfl), can_no (by kernel_rfl)⟩)
      ·intro ρ w' hbw ht hcs hfn hgl hdep G hG
       replace hbw : Below w5.heap.size w5 w' := hbw
       refine ⟨fun _ => ?_, fun h => by cases h⟩
       have s32 : ρ (.tmp 32) = .pointer (some ⟨p, o, none⟩) := hdep ⟨4, .data⟩ (by simp) rfl 32 rfl
       have a15 := cell_later hbw a15
       have c15 := cell_later hbw c15
       clear ht hdep hgl
       go_simp
       exact hG _ _ (Below.refl _ _) rfl
     ·refine .inr (.inr ⟨fun _ => ?_, can_no (by kernel_rfl), can_no (by kernel_rfl)⟩)
      ·intro ρ w' hbw ht hcs hfn hgl hdep G hG
       replace hbw : Below w5.heap.size w5 w' := hbw
       refine ⟨fun _ => ?_, fun h => by cases h⟩
       have s7 : ρ (.tmp 7) = .int .i64 k := ht 7 rfl
       clear ht hdep hgl
       go_simp
       exact hG _ _ (Below.refl _ _) rfl
     ·refine .inr (.inr ⟨fun _ => ?_, can_no (by kernel_rfl), can_no (by kernel_rfl)⟩)
      ·intro ρ w' hbw ht hcs hfn hgl hdep G hG
       replace hbw : Below w5.heap.size w5 w' := hbw
       refine ⟨fun _ => ?_, fun h => by cases h⟩
       have s33 : ρ (.tmp 33) = .slice (some ⟨b, off, none⟩) X.length cap := hdep ⟨5, .data⟩ (by simp) rfl 33 rfl
       have s34 : ρ (.tmp 34) = .int .i64 k := hdep ⟨6, .data⟩ (by simp) rfl 34 rfl
       clear ht hdep hgl
       go_simp
       exact hG _ _ (Below.refl _ _) rfl
     ·refine .inr (.inr ⟨fun _ => ?_, can_no (by kernel_rfl), can_no (by kernel_rfl)⟩)
      ·intro ρ w' hbw ht hcs hfn hgl hdep G hG
       replace hbw : Below w5.heap.size w5 w' := hbw
       refine ⟨fun _ => ?_, fun h => by cases h⟩
       have s35 : ρ (.tmp 35) = .pointer (some ⟨b, off + k, none⟩) := hdep ⟨7, .data⟩ (by simp) rfl 35 rfl
       clear ht hdep hgl
       go_simp
       exact (CC5 w' hbw).mono fun e w'' ⟨u, he, ho, hb⟩ => ⟨_, he, hG _ _ hb (by obtain ⟨s, h1, h2⟩ := newG_of ho hbw.size; exact ⟨s, by rw [h1], h2⟩)⟩
     ·refine .inr (.inr ⟨fun _ => ?_, can_no (by kernel_rfl), can_no (by kernel_rfl)⟩)
      ·intro ρ w' hbw ht hcs hfn hgl hdep G hG
       replace hbw : Below w5.heap.size w5 w' := hbw
       refine ⟨fun _ => ?_, fun h => by cases h⟩
       have d36 := hdep ⟨8, .data⟩ (by simp) rfl 36 rfl
       clear ht hdep hgl
       obtain ⟨s, s36, r36⟩ := d36
       have s36 : ρ (.tmp 36) = .agg #[.slice s.a s.n s.c] := s36
       go_simp
       exact hG _ _ (below_alloc _ _) ⟨s, arr_block1 (E := eS1) (n := 1) [s] #[.slice s.a s.n s.c] rfl rfl (by decide) (by simp), r36.below (below_alloc _ _)⟩
     ·exact .inl rfl
     ·refine .inr (.inr ⟨fun _ => ?_, fun _ => ?_, can_no (by kernel_rfl)⟩)
      ·intro ρ w' hbw ht hcs hfn hgl hdep G hG
       replace hbw : Below w5.heap.size w5 w' := hbw
       refine ⟨fun _ => ?_, fun h => by cases h⟩
       have s6 : ρ (.tmp 6) = .pointer (some ⟨q, 0, none⟩) := ht 6 rfl
       clear ht hdep hgl
       go_simp
       exact hG _ _ (Below.refl _ _) rfl
      ·intro ρ w' hbw ht hcs hfn hgl hdep G hG
       replace hbw : (Box w' q #[.slice oa vs.length oc] 41 ∧ Below q w5 w') := hbw
       refine ⟨fun _ => ?_, fun h => by cases h⟩
       have s6 : ρ (.tmp 6) = .pointer (some ⟨q, 0, none⟩) := ht 6 rfl
       clear ht hdep hgl
       go_simp
       exact hG _ _ (Below.refl _ _) rfl
     ·exact .inr (.inl rfl)
    ·intro o ho
     obtain rfl := Option.some.inj ho
     intro ρ w' hbw ht hcs hfn hgl hdep G hG
     replace hbw : Below w5.heap.size w5 w' := hbw
     refine ⟨fun _ => ?_, fun h => by cases h⟩
     have s29 : ρ (.tmp 29) = .slice oa vs.length oc := hdep ⟨1, .data⟩ (by simp) rfl 29 rfl
     have d37 := hdep ⟨9, .data⟩ (by simp) rfl 37 rfl
     clear ht hdep hgl
     obtain ⟨s, a37, r37⟩ := d37
     refine upon_appO _ _ 39 (by rfl) (q + 1) 112 _ 24 infStrokeG Tryz.underlying39 rfl _ vs s29 (nestG_outer hst5 hbw) [s] a37 (by unfold maxLen; simp <;> omega) (by simp <;> omega) (by have := hbw.size; omega) ?_
     intro v' wA hoA hgA hlA
     refine hG _ _ ⟨grownBoxG (hbx5.later hbw) hgA (by intro hh; have := (World.ownsRow.lt (nestG_outer hst5 hbw) q hh).1; omega), (hbw.mono (Nat.le_of_lt hlt5)).grown hgA (by have := hbw.size; omega) (fun kk hh => by have := (World.ownsRow.lt (nestG_outer hst5 hbw) kk hh).1; omega)⟩ ⟨s, nestG_push hst5 (by omega) hbw r37 hoA hgA⟩ ?_
     intro j u hj hne h
     match j, h with
     | 0, h => exact h
     | 1, h => exact h
     | 2, h => exact h
     | 3, h => exact h
     | 4, h => exact h
     | 5, h => exact h
     | 6, h => exact h
     | 7, h => exact h
     | 8, h => exact trivial
     | 9, h => exact trivial
     | 10, h => exact absurd rfl hne
     | 11, h => exact h
     | 12, h => exact trivial
     | (k + 13), h => exact h
    ·intro o ho
     obtain rfl := Option.some.inj ho
     intro ρ w' hbw ht hcs hfn hgl hdep G hG
     replace hbw : (Box w' q #[.slice oa vs.length oc] 41 ∧ Below q w5 w') := hbw
     refine ⟨fun _ => ?_, fun h => by cases h⟩
     have s39 : ρ (.tmp 39) = .pointer (some ⟨q, 0, none⟩) := hdep ⟨11, .data⟩ (by simp) rfl 39 rfl
     have d38 := hdep ⟨10, .data⟩ (by simp) rfl 38 rfl
     clear ht hdep hgl
     obtain ⟨s, h38⟩ := d38
     obtain ⟨ua, uc, hu⟩ := h38.outer.1.isSlice
     rw [show (vs ++ [s]).length = vs.length + 1 from by simp] at hu
     rw [hu] at h38
     have f0 := hbw.1.cell (j := 0) rfl
     have ff := hbw.1.free
     have hx := hid (show FinG q w4 (Z ++ [x]) (w'.setCell ⟨q, 0, none⟩ (.slice ua (vs.length + 1) uc)) from ⟨_, _, hbw.1.set 0 _, by simpa using nestG_chg h38 (chg_set w' q 0 (.slice ua (vs.length + 1) uc)) (.inl (Nat.le_refl _)), (hbl5.trans hbw.2).setCell (Nat.le_refl _) _⟩)
     clear h38
     go_simp
     refine hG _ _ hx.out trivial ?_
     intro j u hj hne h
     match j, h with
     | 0, h => exact h
     | 1, h => exact h
     | 2, h => exact h
     | 3, h => exact h
     | 4, h => exact h
     | 5, h => exact h
     | 6, h => exact h
     | 7, h => exact h
     | 8, h => exact trivial
     | 9, h => exact trivial
     | 10, h => exact trivial
     | 11, h => exact h
     | 12, h => exact trivial
     | (k + 13), h => exact h
    intro xx w6 hF hx
    clear hx
    simp only [putAll, Act.put, List.setIfInBounds_toArray, List.set_cons_succ, List.set_cons_zero, Nat.zero_add, Nat.reduceAdd]
    go_wp2_with fail
    go_roundw
    case rel => exact ⟨k + 1, by omega, by go_num, by rw [← HT.out]; exact hF⟩
    case measure => simp [intOf]; omega
   ·have HT := hid (show Z = inkTo X (subO X f t) (k + 1) by rw [HZ.out]; exact inkTo_f hm)
    rw [show decide ((k : Int) ∈ subO X f t) = false by simpa using hm] at CH
    clear hm
    go_wp2_with fail
    refine CH.mono ?_
    rintro e w5 ⟨rfl, hb5⟩
    have HF := hid (show FinG q w4 (inkTo X (subO X f t) (k + 1)) w5 by rw [← HT.out]; exact FinG.below ⟨_, vs, hbx, hst, hbl⟩ hb5)
    clear hbx hst hbl CH CC a1
    go_wp2_with fail
    go_roundw
    case rel => exact ⟨k + 1, by omega, by go_num, HF.out⟩
    case measure => simp [intOf]; omega
  ·obtain rfl : k = X.length := by omega
   have hli : ¬ ((X.length : Int) < (X.length : Int)) := by omega
   have bxr := bx4.below hbl hp2q
   have b0 := bxr.cell (j := 0) rfl
   have bf := bxr.free
   have HG := hid (show Z = inkG X f t from HZ.out)
   clear hAr
   go_wp2_with fail
   refine bodyPost_ret (v := .agg #[.slice oa vs.length oc]) (by simp [results, Tryz.results77, go_sem, b0]) rfl ⟨_, vs, rfl, ?_, ?_⟩
   ·rw [← HG.out]
    have h1 := nestG_chg hst (chg_set wr p2 0 (.slice oa vs.length oc)) (.inl (by omega))
    exact nestG_mono h1 (by omega) (by simp)
   ·exact hbR.setCell hge2 _
end Go.Proofs.YtlnoelbeaolikaaGreat
namespace Go.Proofs.YtlnoelbeaolikaaGreat
open Go.RowKit
end Go.Proofs.YtlnoelbeaolikaaGreat
