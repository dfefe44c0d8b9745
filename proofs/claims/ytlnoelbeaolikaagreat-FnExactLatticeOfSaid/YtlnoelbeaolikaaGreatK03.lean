/- Templates: how their values lie in memory, and what the laws' functions over them do, for every argument that can be read. -/
import Derived.Test.YtlnoelbeaolikaaGreatK02
import Derived.Deep.AppendSrc
import Derived.Deep.Cut
import Derived.Test.YtlnoelbeaolikaaGreatRows
import Derived.Test.YtlnoelbeaolikaaGreatK01
namespace Go.Proofs.YtlnoelbeaolikaaGreat
open Go.ChangeShapes Go.WideShapes Go.ChangeAt Go.RowKit Go.Deep
abbrev XTemplate := ByteArray × XFeatS
def rTemplate : Rep XTemplate := Rep.aggP (fun s => Value.string s) rFeatS
def goodTemplate (x : XTemplate) : Prop := x.1.size ≤ maxLen ∧ goodFeatS x.2
def sizeTemplate (x : XTemplate) : Nat := x.1.size + sizeFeatS x.2
def okTemplate (x : XTemplate) : Prop := okFeatS x.2
theorem szFeat_len (x : XFeatS) : sizeFeatS x = x.length := by
 unfold sizeFeatS
 have : sumOf szFeat x = 0 := by
  unfold sumOf
  induction x with
  | nil => rfl
  | cons a t ih => simp [szFeat] at *; exact ih
 omega
/-- an element: a label and a slice header -/
def eTmp : Enc (ByteArray × SV) := eSV eStr
theorem eTmp_cells {w : World} {b off : Nat} {es : List (ByteArray × SV)} (h : Cells eTmp w b off es) {k : Nat} {x : ByteArray × SV} (hx : es[k]? = some x) :
  w.cell? ⟨b, off + k * 2, none⟩ = some (.string x.1) ∧ w.cell? ⟨b, off + k * 2 + 1, none⟩ = some (.slice x.2.a x.2.n x.2.c) :=
 ⟨h k x hx 0 _ rfl, h k x hx 1 _ rfl⟩
abbrev XTemplateS := List XTemplate
def TmpIn (lo hi : Nat) (w : World) (u : Value) (X : XTemplateS) : Prop :=
 ∃ es : List (ByteArray × SV), ArrIn eTmp lo hi w u es ∧ es.length = X.length ∧ ∀ (i : Nat) (e : ByteArray × SV) (x : XTemplate), es[i]? = some e → X[i]? = some x → e.1 = x.1 ∧ ArrIn eFeat lo hi w e.2.val x.2
def TmpOwn (lo hi : Nat) (w : World) (u : Value) (X : XTemplateS) : Prop :=
 ∃ es : List (ByteArray × SV), OwnIn eTmp 106 lo hi w u es ∧ es.length = X.length ∧ (∀ (i : Nat) (e : ByteArray × SV) (x : XTemplate), es[i]? = some e → X[i]? = some x → e.1 = x.1 ∧ OwnIn eFeat 176 lo hi w e.2.val x.2) ∧
  (∀ (i j : Nat) (s t : ByteArray × SV) (g : Nat), es[i]? = some s → es[j]? = some t → s.2.blk = some g → t.2.blk = some g → i = j)
def rTemplateS : Rep XTemplateS where
 at_ := TmpIn
 own := TmpOwn
 own_at := fun ⟨es, h1, h2, h3, _⟩ => ⟨es, h1.arrIn, h2, fun i e x he hx => ⟨(h3 i e x he hx).1, (h3 i e x he hx).2.arrIn⟩⟩
 at_chg := fun ⟨es, h1, h2, h3⟩ hc hd => ⟨es, h1.chg hc hd, h2, fun i e x he hx => ⟨(h3 i e x he hx).1, (h3 i e x he hx).2.chg hc hd⟩⟩
 own_chg := fun ⟨es, h1, h2, h3, h4⟩ hc hd => ⟨es, h1.chg hc hd, h2, fun i e x he hx => ⟨(h3 i e x he hx).1, (h3 i e x he hx).2.chg hc hd⟩, h4⟩
 at_mono := fun ⟨es, h1, h2, h3⟩ hl hh => ⟨es, h1.mono hl hh, h2, fun i e x he hx => ⟨(h3 i e x he hx).1, (h3 i e x he hx).2.mono hl hh⟩⟩
 own_mono := fun ⟨es, h1, h2, h3, h4⟩ hl hh => ⟨es, h1.mono hl hh, h2, fun i e x he hx => ⟨(h3 i e x he hx).1, (h3 i e x he hx).2.mono hl hh⟩, h4⟩
 ty := fun T => T == 176 || T == 106
 own_set := fun ⟨es, h1, h2, h3, h4⟩ hp hT => by
  simp at hT
  exact ⟨es, h1.set_other hp hT.2, h2, fun i e x he hx => ⟨(h3 i e x he hx).1, (h3 i e x he hx).2.set_other hp hT.1⟩, h4⟩
def goodTemplateS (x : XTemplateS) : Prop := ∀ s ∈ x, goodTemplate s
def totTmp (x : XTemplateS) : Nat := sumOf (fun s : XTemplate => s.2.length) x
def sizeTemplateS (x : XTemplateS) : Nat := x.length + sumOf sizeTemplate x
def okTemplateS (x : XTemplateS) : Prop := x.length + totTmp x ≤ 1048576
theorem tot_le (x : XTemplateS) : totTmp x ≤ sumOf sizeTemplate x := by
 unfold totTmp sumOf
 induction x with
 | nil => simp
 | cons a t ih =>
  simp only [List.map_cons, List.sum_cons]
  have : a.2.length ≤ sizeTemplate a := by unfold sizeTemplate; rw [szFeat_len]; omega
  omega
theorem okTemplateS_of {x : XTemplateS} (h : sizeTemplateS x ≤ 1048576) : okTemplateS x := by
 unfold sizeTemplateS at h
 have := tot_le x
 unfold okTemplateS; omega
theorem okTemplateS_st {x : XTemplateS} (h : okTemplateS x) {k : Nat} {s : XTemplate} (hs : x[k]? = some s) : okTemplate s := by
 have := sumOf_mem (fun s : XTemplate => s.2.length) hs
 unfold okTemplateS totTmp at h; unfold okTemplate okFeatS; omega
def cntTemplateS (x : XTemplateS) : Int := (x.length : Int) + 3 * (totTmp x : Int)
def offTmp (k : Int) (x : XTemplateS) (i : Nat) : Int := k + (i : Int) + 3 * (totTmp (x.take i) : Int)
def mkXTemplateS (k : Int) (x : XTemplateS) : XTemplateS := (List.range x.length).map fun i => (mt (offTmp k x i), mkFeat (offTmp k x i + 1) (((x[i]?).map fun s : XTemplate => s.2.length).getD 0))
theorem shapeTemplateS {lo hi : Nat} {w : World} {v : Value} {x : XTemplateS} (h : rTemplateS.at_ lo hi w v x) : ∃ sa sc, v = .slice sa x.length sc := by
 obtain ⟨es, h1, h2, _⟩ := h
 obtain ⟨sa, sc, rfl⟩ := (ArrIn.arr h1).isSlice
 exact ⟨sa, sc, by rw [h2]⟩
/-- templates that can be read -/
def Tmps (w : World) (u : Value) (X : XTemplateS) : Prop := ∃ es : List (ByteArray × SV), Arr eTmp w u es ∧ es.length = X.length ∧ ∀ (i : Nat) (e : ByteArray × SV) (x : XTemplate), es[i]? = some e → X[i]? = some x → e.1 = x.1 ∧ Arr eFeat w e.2.val x.2
theorem Tmps.below {w w' : World} {u : Value} {X : XTemplateS} (h : Tmps w u X) (hb : Below w.heap.size w w') : Tmps w' u X := by
 obtain ⟨es, h1, h2, h3⟩ := h
 exact ⟨es, h1.below hb, h2, fun i s x hs hx => ⟨(h3 i s x hs hx).1, (h3 i s x hs hx).2.below hb⟩⟩
theorem Tmps.alloc {w : World} {u : Value} {X : XTemplateS} (h : Tmps w u X) (o : Obj) : Tmps (w.alloc o) u X := h.below (below_alloc _ _)
theorem tmps_at {lo hi : Nat} {w : World} {u : Value} {x : XTemplateS} (h : rTemplateS.at_ lo hi w u x) : Tmps w u x := by
 obtain ⟨es, h1, h2, h3⟩ := h
 exact ⟨es, h1.arr, h2, fun i e x he hx => ⟨(h3 i e x he hx).1, (h3 i e x he hx).2.arr⟩⟩
theorem Tmps.at_ {w : World} {u : Value} {x : XTemplateS} (h : Tmps w u x) : rTemplateS.at_ 0 w.heap.size w u x := by
 obtain ⟨es, h1, h2, h3⟩ := h
 exact ⟨es, h1.in_, h2, fun i e y he hy => ⟨(h3 i e y he hy).1, (h3 i e y he hy).2.in_⟩⟩
theorem Tmps.slice {w : World} {u : Value} {X : XTemplateS} (h : Tmps w u X) : ∃ b off ao cap es, u = .slice ao X.length cap ∧ X.length ≤ cap ∧ cap ≤ maxLen ∧ (0 < X.length → ao = some ⟨b, off, none⟩ ∧ b < w.heap.size) ∧ Cells eTmp w b off es ∧ es.length = X.length ∧
  ∀ (i : Nat) (e : ByteArray × SV) (x : XTemplate), es[i]? = some e → X[i]? = some x → e.1 = x.1 ∧ Arr eFeat w e.2.val x.2 := by
 obtain ⟨es, ⟨b, off, ao, cap, hv, h1, h2, h3, h4⟩, hl, h5⟩ := h
 rw [hl] at hv h1 h3
 exact ⟨b, off, ao, cap, es, hv, h1, h2, h3, h4, hl, h5⟩
theorem Tmps.get {w : World} {u : Value} {X : XTemplateS} (h : Tmps w u X) {k : Nat} {x : XTemplate} (hx : X[k]? = some x) : ∃ b off cap sa sc, u = .slice (some ⟨b, off, none⟩) X.length cap ∧ cap ≤ maxLen ∧ b < w.heap.size ∧ w.cell? ⟨b, off + k * 2, none⟩ = some (.string x.1) ∧
  w.cell? ⟨b, off + k * 2 + 1, none⟩ = some (.slice sa x.2.length sc) ∧ Arr eFeat w (.slice sa x.2.length sc) x.2 := by
 obtain ⟨b, off, ao, cap, es, hv, h1, h2, h3, h4, hl, h5⟩ := h.slice
 have hk := (List.getElem?_eq_some_iff.1 hx).1
 obtain ⟨e, he⟩ : ∃ e, es[k]? = some e := ⟨_, List.getElem?_eq_getElem (by omega)⟩
 obtain ⟨e1, e2⟩ := h5 k e x he hx
 obtain ⟨c0, c1⟩ := eTmp_cells h4 he
 obtain ⟨hao, hb⟩ := h3 (by omega)
 obtain ⟨sa, sc, hs⟩ := e2.isSlice
 have hs' : Value.slice e.2.a e.2.n e.2.c = .slice sa x.2.length sc := hs
 rw [e1] at c0
 rw [hs'] at c1
 rw [hs] at e2
 subst hao
 exact ⟨b, off, cap, sa, sc, hv, h2, hb, c0, c1, e2⟩
end Go.Proofs.YtlnoelbeaolikaaGreat
namespace Go.Proofs.YtlnoelbeaolikaaGreat
open Go.RowKit
theorem below_grown {B : Nat} {w w' : World} {r : Option Nat} (h : w.grownBy w' r) (hr : ∀ k, r = some k → B ≤ k) (hB : B ≤ w.heap.size) : Below B w w' :=
 (Below.refl B w).grown h hB hr
theorem flat_cells {α : Type} {E : Enc α} {w : World} {b off : Nat} {xs : List α} (h : Cells E w b off xs) : ∀ j u, (E.flat xs)[j]? = some u → w.cell? ⟨b, off + j, none⟩ = some u := by
 intro j u hu
 rw [E.flat_get'] at hu
 have hi : j / E.sz * E.sz + j % E.sz = j := by rw [Nat.mul_comm]; exact Nat.div_add_mod j E.sz
 cases hx : xs[j / E.sz]? with
 | none => rw [hx] at hu; cases hu
 | some x =>
  rw [hx] at hu
  have := h _ x hx _ u hu
  rwa [Nat.add_assoc, hi] at this
theorem wpList_appE {α : Type} {E : Enc α} {P : Program} {w : World} {ops : Array Oper} {rest : List Oper} {o : Oper} {a : Act} {Q : Exit → Act → World → Prop} (hgd : o.guard = none) (s x : Operand) (t : TypeId)
  (ho : o.op = .call { callee := .builtin .append, args := #[s, x], argTypes := #[t, t] })
  (B : Nat) (e : TypeId) (z : Value) (bytes : Nat) (hi : (P.info? e).map (fun i => (i.zero, i.size, i.bytes)) = some (some z, E.sz, bytes)) (ht : P.underlying t = some (.slice e)) (hzs : z.cells.size = E.sz)
  (v : Value) (xs : List α) (hs : a.eval s = v) (hown : Own E e B w v xs)
  (ad : Addr) (m c : Nat) (ys : List α) (hx : a.eval x = .slice (some ad) m c) (hm : m = ys.length) (hc : ∀ j u, (E.flat ys)[j]? = some u → w.cell? (ad.add j) = some u)
  (h63 : xs.length + ys.length ≤ maxLen) (hbytes : (xs.length + ys.length) * bytes ≤ 140737488355328) (hB : B ≤ w.heap.size)
  (h : ∀ v' w', Own E e B w' v' (xs ++ ys) → Below B w w' → wpList P ops Q rest (a.put o.dst v') w') : wpList P ops Q (o :: rest) a w := by
 obtain ⟨i, hi1, hz, hsz, hby⟩ := info_parts hi
 subst hm
 refine wpList_append_own w hgd s x t ho B e i z E.sz bytes ht hi1 hz hsz hby hzs E.pos v xs.length (E.flat xs) hs hown ad ys.length c (E.flat ys) hx (E.flat_len ys) hc (E.flat_one ys) h63 hbytes hB fun v' w' h2 h3 _ => h v' w' ?_ ?_
 ·unfold Own
  rw [List.length_append, E.flat_append]
  exact h2
 ·exact below_grown h3 (fun k hk => (World.ownsRow.lt hown k hk).1) hB
theorem Own.empty {α : Type} {E : Enc α} (e : TypeId) (w : World) {B : Nat} (hB : B ≤ w.heap.size) : Own E e B (w.alloc (.cells #[] e)) (.slice (some ⟨w.heap.size, 0, none⟩) 0 0) [] :=
 World.ownsRow_made w #[] 0 hB (by simp [maxLen]) (by simp)
theorem Own.nil {α : Type} {E : Enc α} (e : TypeId) (w : World) (B : Nat) : Own E e B w (.slice none 0 0) [] := ⟨by simp [Enc.flat_nil], .inl ⟨rfl, rfl⟩⟩
end Go.Proofs.YtlnoelbeaolikaaGreat
namespace Go.Proofs.YtlnoelbeaolikaaGreat
open Go.RowKit
theorem own_typed {α : Type} {E : Enc α} {e : TypeId} {B : Nat} {w w' : World} {v : Value} {xs : List α} (h : Own E e B w v xs) (hg : w.grownBy w' v.ownBlock) : Typed (fun T => T == e) w w' := by
 intro k c T f hk hT
 refine (hg.block k (Array.getElem?_eq_some_iff.1 hk).1 ?_).trans hk
 intro hkg
 rcases h.2 with ⟨hv, _⟩ | ⟨g, cap, cur, hv, _, hgg, _⟩
 ·subst hv; simp [Value.ownBlock] at hkg
 ·subst hv
  simp [Value.ownBlock] at hkg
  subst hkg
  rw [hgg] at hk
  simp at hk
  simp [hk.2.1] at hT
theorem typed_trans {ty : TypeId → Bool} {x y z : World} (h : Typed ty x y) (k : Typed ty y z) : Typed ty x z := fun i c T f h1 h2 => k i c T f (h i c T f h1 h2) h2
theorem typed_below {ty : TypeId → Bool} {w w' : World} (h : Below w.heap.size w w') : Typed ty w w' := (Mk.of_below (a := 0) (b := 0) h).2
/-- a struct variable of a call: the whole block -/
def Box (w : World) (q : Nat) (cs : Array Value) (T : TypeId) : Prop := w.heap[q]? = some (.cells cs T)
theorem Box.cell {w : World} {q : Nat} {cs : Array Value} {T : TypeId} (h : Box w q cs T) {j : Nat} {u : Value} (hu : cs[j]? = some u) : w.cell? ⟨q, j, none⟩ = some u := by
 rw [cell_of_row w q j _ _ _ h, hu]
theorem Box.free {w : World} {q : Nat} {cs : Array Value} {T : TypeId} (h : Box w q cs T) (j : Nat) : w.frozen? ⟨q, j, none⟩ = false := frozen_of_row w q j _ _ h
theorem Box.typed {ty : TypeId → Bool} {w w' : World} {q : Nat} {cs : Array Value} {T : TypeId} (h : Box w q cs T) (ht : Typed ty w w') (hT : ty T = false) : Box w' q cs T := ht q _ _ _ h hT
theorem Box.below {B : Nat} {w w' : World} {q : Nat} {cs : Array Value} {T : TypeId} (h : Box w q cs T) (hb : Below B w w') (hq : q < B) : Box w' q cs T := (hb.block q hq).trans h
theorem Box.later {w w' : World} {q : Nat} {cs : Array Value} {T : TypeId} (h : Box w q cs T) (hb : Below w.heap.size w w') : Box w' q cs T := h.below hb (Array.getElem?_eq_some_iff.1 h).1
theorem Box.lt {w : World} {q : Nat} {cs : Array Value} {T : TypeId} (h : Box w q cs T) : q < w.heap.size := (Array.getElem?_eq_some_iff.1 h).1
theorem Box.set {w : World} {q : Nat} {cs : Array Value} {T : TypeId} (h : Box w q cs T) (j : Nat) (u : Value) : Box (w.setCell ⟨q, j, none⟩ u) q (cs.setIfInBounds j u) T := by
 unfold Box at *
 simp [World.setCell, Array.getElem?_modify, h]
theorem Box.new (w : World) (cs : Array Value) (T : TypeId) : Box (w.alloc (.cells cs T)) w.heap.size cs T := heap_alloc_new _ _
/-- append of whatever slice that can be read (nil, too) onto a slice that the call owns -/
theorem run_append_arr {α : Type} {E : Enc α} {P : Program} {w : World} (t ty : TypeId) (B : Nat) (e : TypeId) (z : Value) (bytes : Nat) (hi : (P.info? e).map (fun i => (i.zero, i.size, i.bytes)) = some (some z, E.sz, bytes)) (ht : P.underlying t = some (.slice e)) (hzs : z.cells.size = E.sz)
  (v : Value) (xs : List α) (hown : Own E e B w v xs) (vx : Value) (ys : List α) (hx : Arr E w vx ys)
  (h63 : xs.length + ys.length ≤ maxLen) (hbytes : (xs.length + ys.length) * bytes ≤ 140737488355328) (hB : B ≤ w.heap.size) :
  ∃ v' w', (Builtin.append_ #[t, t] ty #[v, vx]).run P w = .ok v' w' ∧ Own E e B w' v' (xs ++ ys) ∧ Below B w w' ∧ Typed (fun T => T == e) w w' := by
 obtain ⟨i, hi1, hz, hsz, hby⟩ := info_parts hi
 obtain ⟨b, off, ao, cap, rfl, hnc, hcm, hao, hc⟩ := hx
 cases ao with
 | none =>
  have hy : ys = [] := by
   cases ys with
   | nil => rfl
   | cons a l => have := (hao (by simp)).1; cases this
  subst hy
  refine ⟨v, w, ?_, by simpa using hown, Below.refl _ _, fun _ _ _ _ h _ => h⟩
  rcases hown.2 with ⟨rfl, h0⟩ | ⟨g, cap, cur, rfl, _, _, hn, _⟩
  ·simp [Builtin.append_, run_underlying ht, sizeOf, typeInfo, hi1, Builtin.lenOf, Builtin.firstCells]
  ·simp [Builtin.append_, run_underlying ht, sizeOf, typeInfo, hi1, Builtin.lenOf, Builtin.firstCells, hn, storeCells]
 | some ad =>
  have hcc : ∀ j u, (E.flat ys)[j]? = some u → w.cell? (ad.add j) = some u := by
   intro j u hu
   have hlen := (List.getElem?_eq_some_iff.1 hu).1
   rw [Enc.flat_len] at hlen
   have hpos : 0 < ys.length := by
    cases ys with
    | nil => simp at hlen
    | cons a t => simp
   obtain ⟨h1, _⟩ := hao hpos
   cases h1
   rw [Addr.add_lit]
   exact flat_cells hc j u hu
  obtain ⟨v', w', hr, h2, h3, _⟩ := run_append_own (P := P) w B t ty e i z E.sz bytes ht hi1 hz hsz hby hzs E.pos v xs.length (E.flat xs) hown ad ys.length cap (E.flat ys) (E.flat_len ys) hcc (E.flat_one ys) h63 hbytes hB
  refine ⟨v', w', hr, ?_, below_grown h3 (fun k hk => (World.ownsRow.lt hown k hk).1) hB, own_typed hown h3⟩
  unfold Own
  rw [List.length_append, E.flat_append]
  exact h2
theorem wpList_appA {α : Type} {E : Enc α} {P : Program} {w : World} {ops : Array Oper} {rest : List Oper} {o : Oper} {a : Act} {Q : Exit → Act → World → Prop} (hgd : o.guard = none) (s x : Operand) (t : TypeId)
  (ho : o.op = .call { callee := .builtin .append, args := #[s, x], argTypes := #[t, t] })
  (B : Nat) (e : TypeId) (z : Value) (bytes : Nat) (hi : (P.info? e).map (fun i => (i.zero, i.size, i.bytes)) = some (some z, E.sz, bytes)) (ht : P.underlying t = some (.slice e)) (hzs : z.cells.size = E.sz)
  (v : Value) (xs : List α) (hs : a.eval s = v) (hown : Own E e B w v xs) (vx : Value) (ys : List α) (hx : a.eval x = vx) (hy : Arr E w vx ys)
  (h63 : xs.length + ys.length ≤ maxLen) (hbytes : (xs.length + ys.length) * bytes ≤ 140737488355328) (hB : B ≤ w.heap.size)
  (h : ∀ v' w', Own E e B w' v' (xs ++ ys) → Below B w w' → Typed (fun T => T == e) w w' → wpList P ops Q rest (a.put o.dst v') w') : wpList P ops Q (o :: rest) a w := by
 refine wpList_plain hgd fun K hK => ?_
 obtain ⟨v', w', hr, h1, h2, h3⟩ := run_append_arr (P := P) t o.type B e z bytes hi ht hzs v xs hown vx ys hy h63 hbytes hB
 unfold Oper.wp execOp
 simp only [ho, resolve, invoke, builtin, Sem.run_bind, Sem.run_pure, Result.andThen_ok, List.map_toArray, List.map_cons, List.map_nil, hs, hx, hr]
 exact hK _ _ (h v' w' h1 h2 h3)
theorem Own.drew {α : Type} {E : Enc α} {e : TypeId} {B : Nat} {w : World} {v : Value} {xs : List α} (h : Own E e B w v xs) : Own E e B w.drew v xs := h
theorem Box.drew {w : World} {q : Nat} {cs : Array Value} {T : TypeId} (h : Box w q cs T) : Box w.drew q cs T := h
theorem Box.alloc {w : World} {q : Nat} {cs : Array Value} {T : TypeId} (h : Box w q cs T) (o : Obj) : Box (w.alloc o) q cs T := h.later (below_alloc _ _)
theorem below_cell {B : Nat} {w w' : World} {p o : Nat} {u : Value} (hb : Below B w w') (hp : p < B) (h : w.cell? ⟨p, o, none⟩ = some u) : w'.cell? ⟨p, o, none⟩ = some u := (hb.cell (p := ⟨p, o, none⟩) hp).trans h
theorem arr_block {α : Type} {E : Enc α} {w : World} {T : TypeId} {n : Nat} (ys : List α) (l : Array Value) (hl : l = (E.flat ys).toArray) (hn : n = ys.length) (hm : n ≤ maxLen) : Arr E (w.alloc (.cells l T)) (.slice (some ⟨w.heap.size, 0, none⟩) n n) ys := by
 subst hn hl
 refine ⟨w.heap.size, 0, some ⟨w.heap.size, 0, none⟩, ys.length, rfl, Nat.le_refl _, hm, fun _ => ⟨rfl, by simp⟩, fun k x hx j u hu => ?_⟩
 have hj : j < E.sz := by rw [← E.len x]; exact (List.getElem?_eq_some_iff.1 hu).1
 have h0 := heap_alloc_new w (.cells (E.flat ys).toArray T)
 rw [Nat.zero_add, cell_of_row _ _ _ _ _ _ h0]
 have := E.flat_get ys k x j hx hj
 simp [this, hu]
theorem arr_block1 {α : Type} {E : Enc α} {w : World} {T : TypeId} {n g : Nat} (ys : List α) (l : Array Value) (hl : l = (E.flat ys).toArray) (hn : n = ys.length) (hm : n ≤ maxLen) (hg : g = w.heap.size) : Arr E (w.alloc (.cells l T)) (.slice (some ⟨g, 0, none⟩) n n) ys := by
 subst hg; exact arr_block ys l hl hn hm
end Go.Proofs.YtlnoelbeaolikaaGreat
namespace Go.Proofs.YtlnoelbeaolikaaGreat
open Go.ChangeShapes Go.WideShapes Go.ChangeAt Go.RowKit Go.Deep
set_option maxRecDepth 100000 in
set_option maxHeartbeats 1000000 in
theorem toTemplate_any (v : Value) (x : XTemplate) (w : World) {lo hi : Nat} (h : rTemplate.at_ lo hi w v x) (hn : okTemplate x) :
  Calls Tryz.prog 60 #[v] w (RetR rTemplate x w) := by
 obtain ⟨u2, rfl, h2⟩ := h
 obtain ⟨x1, x2⟩ := x
 unfold okTemplate at hn
 simp only at h2 hn
 obtain ⟨sb, sd, hu2⟩ := shapeFeatS h2
 subst hu2
 obtain ⟨W, hW⟩ : ∃ u, u = (((w.alloc (.cells #[.string x1, .slice sb x2.length sd] 97)).alloc (.cells #[.string ⟨#[]⟩, .slice none 0 0] 106)).alloc (.cells #[.string ⟨#[]⟩, .slice none 0 0] 106)) := ⟨_, rfl⟩
 have hbW : Below w.heap.size w W := by rw [hW]; exact belowA3 _ _ _ _
 have q1 : Box W (w.heap.size) #[.string x1, .slice sb x2.length sd] 97 := by
  have hq := Box.new w #[.string x1, .slice sb x2.length sd] 97
  rw [hW]
  exact ((hq.alloc _).alloc _)
 have q2 : Box W (w.heap.size + 1) #[.string ⟨#[]⟩, .slice none 0 0] 106 := by
  have hq := Box.new (w.alloc (.cells #[.string x1, .slice sb x2.length sd] 97)) #[.string ⟨#[]⟩, .slice none 0 0] 106
  simp at hq
  rw [hW]
  exact (hq.alloc _)
 have q3 : Box W (w.heap.size + 1 + 1) #[.string ⟨#[]⟩, .slice none 0 0] 106 := by
  have hq := Box.new ((w.alloc (.cells #[.string x1, .slice sb x2.length sd] 97)).alloc (.cells #[.string ⟨#[]⟩, .slice none 0 0] 106)) #[.string ⟨#[]⟩, .slice none 0 0] 106
  simp at hq
  rw [hW]
  exact hq
 obtain ⟨p1, hp1⟩ : ∃ p, p = w.heap.size := ⟨_, rfl⟩
 rw [← hp1] at q1
 have hge1 : w.heap.size ≤ p1 := by omega
 obtain ⟨p2, hp2⟩ : ∃ p, p = w.heap.size + 1 := ⟨_, rfl⟩
 rw [← hp2] at q2
 have hge2 : w.heap.size ≤ p2 := by omega
 obtain ⟨p3, hp3⟩ : ∃ p, p = w.heap.size + 1 + 1 := ⟨_, rfl⟩
 rw [← hp3] at q3
 have hge3 : w.heap.size ≤ p3 := by omega
 have hlW : w.heap.size ≤ W.heap.size := hbW.size
 have hlp1 : p1 < W.heap.size := q1.lt
 have hlp2 : p2 < W.heap.size := q2.lt
 have hlp3 : p3 < W.heap.size := q3.lt
 have hne12 : p1 ≠ p2 := by omega
 have hne13 : p1 ≠ p3 := by omega
 have hne23 : p2 ≠ p3 := by omega
 have HP1 := hid hp1
 have HP2 := hid hp2
 have HP3 := hid hp3
 have HW := hid hW
 clear hW hp1 hp2 hp3
 have hB := rFeatS.at_below h2 hbW
 have m10 := q1.cell (j := 0) rfl
 have m11 := q1.cell (j := 1) rfl
 have n30 := q3.cell (j := 0) rfl
 have n3f := q3.free
 go_enter Tryz.func60, Tryz.ntmps60
 go_upto_region 2 with fail
 rw [← HP3.out, ← HP2.out, ← HP1.out, ← HW.out]
 have r3 := q3.set 0 (.string x1)
 have r2 : Box (W.setCell ⟨p3, 0, none⟩ (.string x1)) p2 #[.string ⟨#[]⟩, .slice none 0 0] 106 := by
  unfold Box at *
  rw [Below.heap_setCell _ _ _ _ hne23]; exact q2
 have hb2 : Below w.heap.size w (W.setCell ⟨p3, 0, none⟩ (.string x1)) := hbW.setCell hge3 _
 have hB2 : rFeatS.at_ 0 (W.setCell ⟨p3, 0, none⟩ (.string x1)).heap.size (W.setCell ⟨p3, 0, none⟩ (.string x1)) (.slice sb x2.length sd) x2 := Arr.in_ ((rFeatS_arr h2).below hb2)
 have hl2 : W.heap.size ≤ (W.setCell ⟨p3, 0, none⟩ (.string x1)).heap.size := by simp
 clear h2 hB
 go_wp2_with fail
 obtain ⟨w3, hw3⟩ : ∃ w3, w3 = W.setCell ⟨p3, 0, none⟩ (.string x1) := ⟨_, rfl⟩
 rw [← hw3] at hB2 r3 r2 hb2 hl2 ⊢
 clear hw3
 refine (toFeatSR_any _ x2 _ hB2 hn).mono ?_
 rintro e w4 ⟨u2, rfl, ho2, hb4⟩
 obtain ⟨sb', sd', hu2⟩ := shapeFeatS (rFeatS.own_at ho2)
 subst hu2
 have c30 := (r3.later hb4).cell (j := 0) rfl
 have c31 := (r3.later hb4).cell (j := 1) rfl
 have c3f := (r3.later hb4).free
 have c20 := (r2.later hb4).cell (j := 0) rfl
 have c21 := (r2.later hb4).cell (j := 1) rfl
 have c2f := (r2.later hb4).free
 have hb5 := hb2.trans (hb4.mono hb2.size)
 have hz : w3.heap.size ≤ w4.heap.size := hb4.size
 clear m10 m11 r3 r2 hb4 n30 n3f q1 q2 q3
 go_wp2_with fail
 refine bodyPost_ret (v := .agg #[.string x1, .slice sb' x2.length sd']) (by simp [results, Tryz.results60, go_sem, c20, c21]) rfl ⟨_, rfl, ⟨_, rfl, ?_⟩, ?_⟩
 ·refine rFeatS.own_mono (rFeatS.own_chg (rFeatS.own_chg (rFeatS.own_chg ho2 (chg_set _ p3 1 _) (.inl (by omega))) (chg_set _ p2 0 _) (.inl (by omega))) (chg_set _ p2 1 _) (.inl (by omega))) (by omega) ?_
  simp
 ·exact ((hb5.setCell hge3 _).setCell hge2 _).setCell hge2 _
set_option maxRecDepth 100000 in
set_option maxHeartbeats 1000000 in
theorem szTemplate_any (v : Value) (x : XTemplate) (left : Int) (w : World) {lo hi : Nat} (h : rTemplate.at_ lo hi w v x) (hs : goodTemplate x) (hl : 0 ≤ left) (hu : left ≤ 1048576) :
  Calls Tryz.prog 50 #[v, .int .i64 left] w (Ret (.int .i64 (szOf (sizeTemplate x) left)) w) := by
 obtain ⟨u2, rfl, h2⟩ := h
 obtain ⟨x1, x2⟩ := x
 obtain ⟨g1, g2⟩ := hs
 simp only at h2 g1 g2
 unfold maxLen at g1
 obtain ⟨sb, sd, hu2⟩ := shapeFeatS h2
 subst hu2
 obtain ⟨W, hW⟩ : ∃ u, u = (w.alloc (.cells #[.string x1, .slice sb x2.length sd] 97)) := ⟨_, rfl⟩
 have hbW : Below w.heap.size w W := by rw [hW]; exact belowA1 _ _
 have q1 : Box W (w.heap.size) #[.string x1, .slice sb x2.length sd] 97 := by
  have hq := Box.new w #[.string x1, .slice sb x2.length sd] 97
  rw [hW]
  exact hq
 obtain ⟨p1, hp1⟩ : ∃ p, p = w.heap.size := ⟨_, rfl⟩
 rw [← hp1] at q1
 have hge1 : w.heap.size ≤ p1 := by omega
 have hlW : w.heap.size ≤ W.heap.size := hbW.size
 have hlp1 : p1 < W.heap.size := q1.lt
 have HP1 := hid hp1
 have HW := hid hW
 clear hW hp1
 have hB := rFeatS.at_below h2 hbW
 have m10 := q1.cell (j := 0) rfl
 have m11 := q1.cell (j := 1) rfl
 have HSZ : Hid (sizeTemplate (x1, x2) = x1.size + sizeFeatS x2) := hid rfl
 clear h2
 by_cases hf1 : left < (x1.size : Nat)
 ·have p0 : decide (left - (x1.size : Int) < 0) = true := by rw [decide_eq_true_eq]; omega
  go_enter Tryz.func50, Tryz.ntmps50
  go_upto_region 1 with fail
  rw [← HP1.out, ← HW.out]
  go_wp2_with fail
  go_ret
  exact ret_int (by rw [szOf_neg (by rw [HSZ.out]; omega)]) hbW
 ·obtain ⟨l2, hl2⟩ : ∃ l2, l2 = left - (x1.size : Nat) := ⟨_, rfl⟩
  have p0 : 0 ≤ l2 := by omega
  have p1' : l2 ≤ 1048576 := by omega
  have p2' : decide (left - (x1.size : Int) < 0) = false := by rw [decide_eq_false_iff_not]; omega
  have HL := hid hl2
  have CF := fun w' (hb : Below W.heap.size W w') => szFeatSR_any _ x2 (left - (x1.size : Nat)) w' (rFeatS.at_below hB hb) g2 (by omega) (by omega)
  rw [← hl2] at CF
  by_cases hf2 : l2 < (sizeFeatS x2 : Nat)
  ·rw [szOf_neg hf2] at CF
   go_enter Tryz.func50, Tryz.ntmps50
   go_upto_region 1 with fail
   rw [← HP1.out, ← HW.out]
   go_wp2_with fail
   rw [← hl2]
   refine (CF _ (Below.refl _ _)).mono ?_
   rintro e w3 ⟨rfl, hb3⟩
   go_wp2_with fail
   go_ret
   exact ret_int (by rw [szOf_neg (by rw [HSZ.out]; have := HL.out; omega)]) (hbW.trans (hb3.mono hlW))
  ·rw [szOf_pos (by omega)] at CF
   obtain ⟨l3, hl3⟩ : ∃ l3, l3 = l2 - (sizeFeatS x2 : Nat) := ⟨_, rfl⟩
   rw [← hl3] at CF
   have p3 : decide (l3 < 0) = false := by rw [decide_eq_false_iff_not]; omega
   have HL3 := hid hl3
   go_enter Tryz.func50, Tryz.ntmps50
   go_upto_region 1 with fail
   rw [← HP1.out, ← HW.out]
   go_wp2_with fail
   rw [← hl2]
   refine (CF _ (Below.refl _ _)).mono ?_
   rintro e w3 ⟨rfl, hb3⟩
   clear hl3 hl2
   go_wp2_with fail
   go_ret
   exact ret_int (by rw [szOf_pos (by rw [HSZ.out]; have := HL.out; omega), HSZ.out, HL3.out, HL.out]; omega) (hbW.trans (hb3.mono hlW))
set_option maxRecDepth 100000 in
set_option maxHeartbeats 1000000 in
theorem eqTemplate_any (v1 v2 : Value) (x : XTemplate) (w : World) {lo1 hi1 lo2 hi2 : Nat} (h1 : rTemplate.at_ lo1 hi1 w v1 x) (h2 : rTemplate.at_ lo2 hi2 w v2 x) :
  Calls Tryz.prog 72 #[v1, v2] w (Ret (.bool true) w) := by
 obtain ⟨u1, rfl, a2⟩ := h1
 obtain ⟨u2, rfl, b2⟩ := h2
 obtain ⟨x1, x2⟩ := x
 simp only at a2 b2
 obtain ⟨W, hW⟩ : ∃ u, u = ((w.alloc (.cells #[.string x1, u1] 106)).alloc (.cells #[.string x1, u2] 106)) := ⟨_, rfl⟩
 have hbW : Below w.heap.size w W := by rw [hW]; exact belowA2 _ _ _
 have q1 : Box W (w.heap.size) #[.string x1, u1] 106 := by
  have hq := Box.new w #[.string x1, u1] 106
  rw [hW]
  exact (hq.alloc _)
 have q2 : Box W (w.heap.size + 1) #[.string x1, u2] 106 := by
  have hq := Box.new (w.alloc (.cells #[.string x1, u1] 106)) #[.string x1, u2] 106
  simp at hq
  rw [hW]
  exact hq
 obtain ⟨p1, hp1⟩ : ∃ p, p = w.heap.size := ⟨_, rfl⟩
 rw [← hp1] at q1
 have hge1 : w.heap.size ≤ p1 := by omega
 obtain ⟨p2, hp2⟩ : ∃ p, p = w.heap.size + 1 := ⟨_, rfl⟩
 rw [← hp2] at q2
 have hge2 : w.heap.size ≤ p2 := by omega
 have hlW : w.heap.size ≤ W.heap.size := hbW.size
 have hlp1 : p1 < W.heap.size := q1.lt
 have hlp2 : p2 < W.heap.size := q2.lt
 have hne12 : p1 ≠ p2 := by omega
 have HP1 := hid hp1
 have HP2 := hid hp2
 have HW := hid hW
 clear hW hp1 hp2
 have A2 := rFeatS.at_below (rFeatS.at_mono a2 (Nat.zero_le _) (Nat.le_refl _)) (Below.refl _ _)
 have CE := fun w' (hb : Below w.heap.size w w') => eqFeatSR_any u1 u2 x2 w' (Arr.in_ ((rFeatS_arr a2).below hb)) (Arr.in_ ((rFeatS_arr b2).below hb))
 have m10 := q1.cell (j := 0) rfl
 have m11 := q1.cell (j := 1) rfl
 have m20 := q2.cell (j := 0) rfl
 have m21 := q2.cell (j := 1) rfl
 clear A2
 go_enter Tryz.func72, Tryz.ntmps72
 go_upto_region 1 with fail
 rw [← HP2.out, ← HP1.out, ← HW.out]
 go_wp2_with fail
 refine (CE W hbW).mono ?_
 rintro e w3 ⟨rfl, hb3⟩
 go_wp2_with fail
 go_ret
 exact ret_bool rfl (hbW.trans (hb3.mono hlW))
end Go.Proofs.YtlnoelbeaolikaaGreat
namespace Go.Proofs.YtlnoelbeaolikaaGreat
open Go.RowKit
structure DEntry where
 word : ByteArray
 cost : Int
end Go.Proofs.YtlnoelbeaolikaaGreat
namespace Go.Proofs.YtlnoelbeaolikaaGreat
open Go.RowKit
structure DEdge where
 frm : Int
 to_ : Int
 label : ByteArray
 cost : Int
def eEdge : Enc DEdge := ⟨fun x => [.int .i64 x.frm, .int .i64 x.to_, .string x.label, .int .i64 x.cost], 4, fun _ => rfl, by decide, fun x u hu => by simp at hu; rcases hu with rfl | rfl | rfl | rfl <;> rfl⟩
theorem eEdge_cells {w : World} {b off : Nat} {es : List DEdge} (h : Cells eEdge w b off es) {k : Nat} {x : DEdge} (hx : es[k]? = some x) :
  w.cell? ⟨b, off + k * 4, none⟩ = some (.int .i64 x.frm) ∧ w.cell? ⟨b, off + k * 4 + 1, none⟩ = some (.int .i64 x.to_) ∧ w.cell? ⟨b, off + k * 4 + 2, none⟩ = some (.string x.label) ∧ w.cell? ⟨b, off + k * 4 + 3, none⟩ = some (.int .i64 x.cost) :=
 ⟨h k x hx 0 _ rfl, h k x hx 1 _ rfl, h k x hx 2 _ rfl, h k x hx 3 _ rfl⟩
set_option maxRecDepth 100000 in
set_option maxHeartbeats 400000 in
theorem eqEdge_any (x : DEdge) (w : World) :
  Calls Tryz.prog 87 #[.agg #[.int .i64 x.frm, .int .i64 x.to_, .string x.label, .int .i64 x.cost], .agg #[.int .i64 x.frm, .int .i64 x.to_, .string x.label, .int .i64 x.cost]] w (Ret (.bool true) w) := by
 go_enter Tryz.func87, Tryz.ntmps87
 go_wp2
 go_ret
 exact ret_bool rfl (((Below.refl _ _).alloc (Nat.le_refl _) _).alloc (by simp) _)
set_option maxRecDepth 100000 in
set_option maxHeartbeats 400000 in
theorem eqEdgeS_any (v1 v2 : Value) (es : List DEdge) (w : World) (h1 : Arr eEdge w v1 es) (h2 : Arr eEdge w v2 es) :
  Calls Tryz.prog 47 #[v1, v2] w (Ret (.bool true) w) := by
 obtain ⟨b, off, ao, cap, rfl, hnc, hcm, hao, hc⟩ := h1
 obtain ⟨b2, off2, ao2, cap2, rfl, hnc2, hcm2, hao2, hc2⟩ := h2
 unfold maxLen at hcm
 go_enter Tryz.func47, Tryz.ntmps47
 go_wp2
 go_loopw [5] (fun i wr => ∃ k : Nat, k ≤ es.length ∧ i = .int .i64 k ∧ Below w.heap.size w wr) (fun i _ => es.length - (intOf i).toNat)
 case atStart => exact ⟨0, Nat.zero_le _, rfl, Below.refl _ _⟩
 case round =>
  obtain ⟨k, hk, rfl, hb⟩ := hrel
  by_cases hlt : k < es.length
  ·obtain ⟨hao', hbw⟩ := hao (by omega)
   obtain ⟨hao2', hbw2⟩ := hao2 (by omega)
   subst hao' hao2'
   obtain ⟨x, hx⟩ : ∃ x, es[k]? = some x := ⟨_, List.getElem?_eq_getElem hlt⟩
   obtain ⟨c0, c1, c2, c3⟩ := eEdge_cells (hc.below hb hbw) hx
   obtain ⟨d0, d1, d2, d3⟩ := eEdge_cells (hc2.below hb hbw2) hx
   have c0 := ext_cell c0
   have c1 := ext_cell c1
   have c2 := ext_cell c2
   have c3 := ext_cell c3
   have d0 := ext_cell d0
   have d1 := ext_cell d1
   have d2 := ext_cell d2
   have d3 := ext_cell d3
   clear hao hao2
   have hli : (k : Int) < (es.length : Int) := by omega
   go_wp2
   refine wp_region_ext (by kernel_rfl) (by kernel_rfl) ?_
   repeat (go_big_quiet_step (((go_at_call 87; exact ret_ext (eqEdge_any _ _)))))
   refine wpQuiet_nil ?_
   intro _ hw'
   obtain ⟨nq, hw''⟩ := hw'
   subst hw''
   go_wp2
   go_roundw
   case rel => exact ⟨k + 1, by omega, by go_num, hb.trans ((ext_below _ _).mono hb.size)⟩
   case measure => simp [intOf]; omega
  ·go_wp2
   go_ret
   exact ret_bool rfl hb
/-- what markTS leaves -/
def mkEdge (k : Int) (n : Nat) : List DEdge := (List.range n).map fun (i : Nat) => ⟨k + 4 * (i : Int), k + 4 * (i : Int) + 1, mt (k + 4 * (i : Int) + 1 + 1), k + 4 * (i : Int) + 1 + 1 + 1⟩
theorem mkEdge_len (k : Int) (n : Nat) : (mkEdge k n).length = n := by simp [mkEdge]
theorem mkEdge_get (k : Int) (n i : Nat) (h : i < n) : (mkEdge k n)[i]? = some ⟨k + 4 * (i : Int), k + 4 * (i : Int) + 1, mt (k + 4 * (i : Int) + 1 + 1), k + 4 * (i : Int) + 1 + 1 + 1⟩ := by simp [mkEdge, h]
set_option maxHeartbeats 1000000 in
theorem markEdgeS_any (v : Value) (es : List DEdge) (lo hi : Nat) (k : Int) (w : World) (h : OwnIn eEdge 89 lo hi w v es) (hn : es.length ≤ 1048576) (hk0 : 0 ≤ k) (hk1 : k ≤ 20000000) :
  Calls Tryz.prog 48 #[v, .int .i64 k] w (RetMark (Rep.flat eEdge 89) (mkEdge k es.length) (k + 4 * (es.length : Int)) lo hi v w) := by
 have hsl : ∃ (ao : Option Addr) (cap g : Nat), v = .slice ao es.length cap ∧ (0 < es.length → ao = some ⟨g, 0, none⟩) := by
  rcases h.1.shape with ⟨rfl, rfl⟩ | ⟨g, cap, rfl, _, _⟩
  ·exact ⟨none, 0, 0, rfl, by simp⟩
  ·exact ⟨_, cap, g, rfl, fun _ => rfl⟩
 obtain ⟨ao, cap, g, rfl, hao⟩ := hsl
 go_enter Tryz.func48, Tryz.ntmps48
 go_wp2
 go_loopw [1, 5] (fun kv iv wr => ∃ (i : Nat) (ys : List DEdge), i ≤ es.length ∧ iv = .int .i64 i ∧ kv = .int .i64 (k + 4 * (i : Int)) ∧ ys.length = es.length ∧ (∀ j, j < i → ys[j]? = (mkEdge k es.length)[j]?) ∧
   OwnIn eEdge 89 lo hi wr (.slice ao es.length cap) ys ∧ Mk (fun T => T == 89) lo hi w wr) (fun _ i _ => es.length - (intOf i).toNat)
 case atStart => exact ⟨0, es, Nat.zero_le _, rfl, by simp, rfl, by simp, h, Mk.refl _ _ _ _⟩
 case round =>
  clear h
  obtain ⟨i, ys, hk, rfl, rfl, hyl, hys, ho, hch⟩ := hrel
  have HY := hid hyl
  have HYS := hid hys
  clear hyl hys
  by_cases hlt : i < es.length
  ·have hao' := hao (by omega)
   subst hao'
   clear hao
   obtain ⟨y, hy⟩ : ∃ y, ys[i]? = some y := ⟨_, List.getElem?_eq_getElem (by rw [HY.out]; exact hlt)⟩
   have Y0 := hid hy
   clear hy
   have O0 := ho
   clear ho
   obtain ⟨u0, hu0⟩ := O0.1.slot (by simp [HY.out]) i hlt 0 (by decide)
   obtain ⟨u1, hu1⟩ := O0.1.slot (by simp [HY.out]) i hlt 1 (by decide)
   obtain ⟨u2, hu2⟩ := O0.1.slot (by simp [HY.out]) i hlt 2 (by decide)
   obtain ⟨u3, hu3⟩ := O0.1.slot (by simp [HY.out]) i hlt 3 (by decide)
   have hv0 : wr.cell? ⟨g, i * 4, none⟩ = some u0 := hu0
   have hv1 : wr.cell? ⟨g, i * 4 + 1, none⟩ = some u1 := hu1
   have hv2 : wr.cell? ⟨g, i * 4 + 2, none⟩ = some u2 := hu2
   have hv3 : wr.cell? ⟨g, i * 4 + 3, none⟩ = some u3 := hu3
   have hf := O0.1.free (by simp [HY.out])
   clear hu0 hu1 hu2 hu3
   have S0 := O0.set1 (by simp [HY.out]) Y0.out (j := 0) (x' := (⟨k + 4 * (i : Int), y.to_, y.label, y.cost⟩ : DEdge)) (u := .int .i64 (k + 4 * (i : Int))) (by decide) rfl
   have O1 := S0.1
   have Y1 := hid (set_same (y := (⟨k + 4 * (i : Int), y.to_, y.label, y.cost⟩ : DEdge)) Y0.out)
   have S1 := O1.set1 (by simp [HY.out]) Y1.out (j := 1) (x' := (⟨k + 4 * (i : Int), k + 4 * (i : Int) + 1, y.label, y.cost⟩ : DEdge)) (u := .int .i64 (k + 4 * (i : Int) + 1)) (by decide) rfl
   have O2 := S1.1
   rw [set_set] at O2
   have Y2 := hid (set_same (y := (⟨k + 4 * (i : Int), k + 4 * (i : Int) + 1, y.label, y.cost⟩ : DEdge)) Y0.out)
   go_wp2_with fail
   refine (markText_any _ _ (by omega)).mono ?_
   rintro e w2 ⟨rfl, hb2⟩
   clear hf hv0 hv1 hv2 hv3
   have P2 := O2
   have O2b := (Rep.flat eEdge 89).own_below O2 hb2
   obtain ⟨u2, hu2⟩ := O2b.1.slot (by simp [HY.out]) i hlt 2 (by decide)
   obtain ⟨u3, hu3⟩ := O2b.1.slot (by simp [HY.out]) i hlt 3 (by decide)
   have hv2 : w2.cell? ⟨g, i * 4 + 2, none⟩ = some u2 := hu2
   have hv3 : w2.cell? ⟨g, i * 4 + 3, none⟩ = some u3 := hu3
   have hf := O2b.1.free (by simp [HY.out])
   clear hu2 hu3
   have S2 := O2b.set1 (by simp [HY.out]) Y2.out (j := 2) (x' := (⟨k + 4 * (i : Int), k + 4 * (i : Int) + 1, mt (k + 4 * (i : Int) + 1 + 1), y.cost⟩ : DEdge)) (u := .string (mt (k + 4 * (i : Int) + 1 + 1))) (by decide) rfl
   have O3 := S2.1
   rw [set_set] at O3
   have Y3 := hid (set_same (y := (⟨k + 4 * (i : Int), k + 4 * (i : Int) + 1, mt (k + 4 * (i : Int) + 1 + 1), y.cost⟩ : DEdge)) Y0.out)
   have S3 := O3.set1 (by simp [HY.out]) Y3.out (j := 3) (x' := (⟨k + 4 * (i : Int), k + 4 * (i : Int) + 1, mt (k + 4 * (i : Int) + 1 + 1), k + 4 * (i : Int) + 1 + 1 + 1⟩ : DEdge)) (u := .int .i64 (k + 4 * (i : Int) + 1 + 1 + 1)) (by decide) rfl
   have O4 := S3.1
   rw [set_set] at O4
   have Y4 := hid (set_same (y := (⟨k + 4 * (i : Int), k + 4 * (i : Int) + 1, mt (k + 4 * (i : Int) + 1 + 1), k + 4 * (i : Int) + 1 + 1 + 1⟩ : DEdge)) Y0.out)
   go_wp2
   go_roundw
   case rel =>
    have h1 := fill_step (xs := mkEdge k es.length) (by rw [mkEdge_len]; exact HY.out) HYS.out (mkEdge_get k es.length i hlt)
    exact ⟨i + 1, ys.set i ⟨k + 4 * (i : Int), k + 4 * (i : Int) + 1, mt (k + 4 * (i : Int) + 1 + 1), k + 4 * (i : Int) + 1 + 1 + 1⟩, by omega, by go_num, by go_num, by rw [h1.1, mkEdge_len], h1.2, O4, (((((hch).trans S0.2).trans S1.2).trans (Mk.of_below hb2)).trans S2.2).trans S3.2⟩
   case measure => simp [intOf]; omega
  ·obtain rfl : i = es.length := by omega
   have := fill_done (xs := mkEdge k es.length) (by rw [mkEdge_len]; exact HY.out) HYS.out (by rw [mkEdge_len]; exact Nat.le_refl _)
   subst this
   clear HYS
   go_wp2
   go_ret
   exact ⟨rfl, ho, hch⟩
set_option maxHeartbeats 1000000 in
theorem heldEdgeS_any (v : Value) (n : Nat) (k : Int) (w : World) (h : Arr eEdge w v (mkEdge k n)) (hn : n ≤ 1048576) (hk0 : 0 ≤ k) (hk1 : k ≤ 20000000) :
  Calls Tryz.prog 49 #[v, .int .i64 k] w (Ret (.int .i64 (k + 4 * (n : Int))) w) := by
 obtain ⟨b, off, ao, cap, rfl, hnc, hcm, hao, hc⟩ := h
 simp only [mkEdge_len] at *
 unfold maxLen at hcm
 go_enter Tryz.func49, Tryz.ntmps49
 go_wp2
 go_loopw [1, 5] (fun kv iv wr => ∃ (i : Nat), i ≤ n ∧ iv = .int .i64 i ∧ kv = .int .i64 (k + 4 * (i : Int)) ∧ Below w.heap.size w wr) (fun _ i _ => n - (intOf i).toNat)
 case atStart => exact ⟨0, Nat.zero_le _, rfl, by simp, Below.refl _ _⟩
 case round =>
  obtain ⟨i, hk, rfl, rfl, hb⟩ := hrel
  by_cases hlt : i < n
  ·obtain ⟨hao', hbw⟩ := hao (by omega)
   subst hao'
   clear hao
   obtain ⟨c0, c1, c2, c3⟩ := eEdge_cells (hc.below hb hbw) (mkEdge_get k n i hlt)
   have hli : (i : Int) < (n : Int) := by omega
   have x0 := ext_cell c0
   have x1 := ext_cell c1
   have x2 := ext_cell c2
   have x3 := ext_cell c3
   go_wp2
   refine wp_region_ext (by kernel_rfl) (by kernel_rfl) ?_
   repeat (go_big_quiet_step (((go_at_call 41; exact ret_ext (markText_any _ _ (by omega))))))
   refine wpQuiet_nil ?_
   intro _ hw'
   obtain ⟨nq0, hw''⟩ := hw'
   subst hw''
   replace c0 := x0 nq0
   replace c1 := x1 nq0
   replace c2 := x2 nq0
   replace c3 := x3 nq0
   clear x0 x1 x2 x3
   go_wp2
   go_roundw
   case rel => exact ⟨i + 1, by omega, by go_num, by go_num, (hb).trans ((ext_below _ nq0).mono (hb).size)⟩
   case measure => simp [intOf]; omega
  ·obtain rfl : i = n := by omega
   go_wp2
   go_ret
   exact ret_int rfl hb
end Go.Proofs.YtlnoelbeaolikaaGreat
namespace Go.Proofs.YtlnoelbeaolikaaGreat
open Go.RowKit
structure DGroup where
 frm : Int
 to_ : Int
def eGroup : Enc DGroup := ⟨fun x => [.int .i64 x.frm, .int .i64 x.to_], 2, fun _ => rfl, by decide, fun x u hu => by simp at hu; rcases hu with rfl | rfl <;> rfl⟩
theorem eGroup_cells {w : World} {b off : Nat} {es : List DGroup} (h : Cells eGroup w b off es) {k : Nat} {x : DGroup} (hx : es[k]? = some x) :
  w.cell? ⟨b, off + k * 2, none⟩ = some (.int .i64 x.frm) ∧ w.cell? ⟨b, off + k * 2 + 1, none⟩ = some (.int .i64 x.to_) :=
 ⟨h k x hx 0 _ rfl, h k x hx 1 _ rfl⟩
end Go.Proofs.YtlnoelbeaolikaaGreat
namespace Go.Proofs.YtlnoelbeaolikaaGreat
open Go.ChangeShapes Go.WideShapes Go.ChangeAt Go.RowKit Go.Deep
open Go.ChangeMaps (open_string)
set_option maxRecDepth 100000 in
theorem Tryz.own : ownKnob Tryz.prog.godebug = none := by kernel_rfl
set_option maxRecDepth 100000 in
theorem Tryz.laidOut : laidOutB Tryz.prog = true := by kernel_rfl
end Go.Proofs.YtlnoelbeaolikaaGreat
