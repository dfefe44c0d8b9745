/- Templates: how their values lie in memory, and what the laws' functions over them do, for every argument that can be read. -/
import Derived.Test.YtlnoelbeaolikaaGreatWrFeatS
import Derived.Test.YtlnoelbeaolikaaGreatNest
namespace Go.Proofs.YtlnoelbeaolikaaGreat
open Go.ChangeShapes Go.WideShapes Go.ChangeAt Go.RowKit Go.Deep

abbrev XTemplate := ByteArray × XFeatS
def rTemplate : Rep XTemplate := Rep.aggP (fun s => Value.string s) rFeatS
def goodTemplate (x : XTemplate) : Prop := x.1.size ≤ maxLen ∧ goodFeatS x.2
def sizeTemplate (x : XTemplate) : Nat := x.1.size + sizeFeatS x.2
def okTemplate (x : XTemplate) : Prop := okFeatS x.2
theorem okTemplate_of {x : XTemplate} (h : sizeTemplate x ≤ 1048576) : okTemplate x := by unfold sizeTemplate at h; exact okFeatS_of (by omega)
def cntTemplate (x : XTemplate) : Int := cntFeatS x.2
theorem cntTemplate_bd {x : XTemplate} (h : okTemplate x) : 0 ≤ cntTemplate x ∧ cntTemplate x ≤ 10000000 := cntFeatS_bd h
def mkXTemplate (k : Int) (x : XTemplate) : XTemplate := (x.1, mkXFeatS k x.2)
theorem shapeTemplate {lo hi : Nat} {w : World} {v : Value} {x : XTemplate} (h : rTemplate.at_ lo hi w v x) : ∃ sa sc, v = .agg #[.string x.1, .slice sa x.2.length sc] := by
  obtain ⟨u, rfl, h⟩ := h
  obtain ⟨sa, sc, rfl⟩ := shapeFeatS h
  exact ⟨sa, sc, rfl⟩
theorem szFeat_len (x : XFeatS) : sizeFeatS x = x.length := by
  unfold sizeFeatS
  have : sumOf szFeat x = 0 := by
    unfold sumOf
    induction x with
    | nil => rfl
    | cons a t ih => simp [szFeat] at *; exact ih
  omega

/-- an element: a label and a slice header -/
def eTmp : Enc (ByteArray × SV) := eSV eStr
theorem eTmp_cells {w : World} {b off : Nat} {es : List (ByteArray × SV)} (h : Cells eTmp w b off es) {k : Nat} {x : ByteArray × SV} (hx : es[k]? = some x) :
    w.cell? ⟨b, off + k * 2, none⟩ = some (.string x.1) ∧ w.cell? ⟨b, off + k * 2 + 1, none⟩ = some (.slice x.2.a x.2.n x.2.c) :=
  ⟨h k x hx 0 _ rfl, h k x hx 1 _ rfl⟩
abbrev XTemplateS := List XTemplate
def TmpIn (lo hi : Nat) (w : World) (u : Value) (X : XTemplateS) : Prop :=
  ∃ es : List (ByteArray × SV), ArrIn eTmp lo hi w u es ∧ es.length = X.length ∧ ∀ (i : Nat) (e : ByteArray × SV) (x : XTemplate), es[i]? = some e → X[i]? = some x → e.1 = x.1 ∧ ArrIn eFeat lo hi w e.2.val x.2
def TmpOwn (lo hi : Nat) (w : World) (u : Value) (X : XTemplateS) : Prop :=
  ∃ es : List (ByteArray × SV), OwnIn eTmp 106 lo hi w u es ∧ es.length = X.length ∧ (∀ (i : Nat) (e : ByteArray × SV) (x : XTemplate), es[i]? = some e → X[i]? = some x → e.1 = x.1 ∧ OwnIn eFeat 176 lo hi w e.2.val x.2) ∧
    (∀ (i j : Nat) (s t : ByteArray × SV) (g : Nat), es[i]? = some s → es[j]? = some t → s.2.blk = some g → t.2.blk = some g → i = j)
def rTemplateS : Rep XTemplateS where
  at_ := TmpIn
  own := TmpOwn
  own_at := fun ⟨es, h1, h2, h3, _⟩ => ⟨es, h1.arrIn, h2, fun i e x he hx => ⟨(h3 i e x he hx).1, (h3 i e x he hx).2.arrIn⟩⟩
  at_chg := fun ⟨es, h1, h2, h3⟩ hc hd => ⟨es, h1.chg hc hd, h2, fun i e x he hx => ⟨(h3 i e x he hx).1, (h3 i e x he hx).2.chg hc hd⟩⟩
  own_chg := fun ⟨es, h1, h2, h3, h4⟩ hc hd => ⟨es, h1.chg hc hd, h2, fun i e x he hx => ⟨(h3 i e x he hx).1, (h3 i e x he hx).2.chg hc hd⟩, h4⟩
  at_mono := fun ⟨es, h1, h2, h3⟩ hl hh => ⟨es, h1.mono hl hh, h2, fun i e x he hx => ⟨(h3 i e x he hx).1, (h3 i e x he hx).2.mono hl hh⟩⟩
  own_mono := fun ⟨es, h1, h2, h3, h4⟩ hl hh => ⟨es, h1.mono hl hh, h2, fun i e x he hx => ⟨(h3 i e x he hx).1, (h3 i e x he hx).2.mono hl hh⟩, h4⟩
  ty := fun T => T == 176 || T == 106
  own_set := fun ⟨es, h1, h2, h3, h4⟩ hp hT => by
    simp at hT
    exact ⟨es, h1.set_other hp hT.2, h2, fun i e x he hx => ⟨(h3 i e x he hx).1, (h3 i e x he hx).2.set_other hp hT.1⟩, h4⟩
def goodTemplateS (x : XTemplateS) : Prop := ∀ s ∈ x, goodTemplate s
def totTmp (x : XTemplateS) : Nat := sumOf (fun s : XTemplate => s.2.length) x
def sizeTemplateS (x : XTemplateS) : Nat := x.length + sumOf sizeTemplate x
def okTemplateS (x : XTemplateS) : Prop := x.length + totTmp x ≤ 1048576
theorem tot_le (x : XTemplateS) : totTmp x ≤ sumOf sizeTemplate x := by
  unfold totTmp sumOf
  induction x with
  | nil => simp
  | cons a t ih =>
    simp only [List.map_cons, List.sum_cons]
    have : a.2.length ≤ sizeTemplate a := by unfold sizeTemplate; rw [szFeat_len]; omega
    omega
theorem okTemplateS_of {x : XTemplateS} (h : sizeTemplateS x ≤ 1048576) : okTemplateS x := by
  unfold sizeTemplateS at h
  have := tot_le x
  unfold okTemplateS; omega
theorem okTemplateS_st {x : XTemplateS} (h : okTemplateS x) {k : Nat} {s : XTemplate} (hs : x[k]? = some s) : okTemplate s := by
  have := sumOf_mem (fun s : XTemplate => s.2.length) hs
  unfold okTemplateS totTmp at h; unfold okTemplate okFeatS; omega
def cntTemplateS (x : XTemplateS) : Int := (x.length : Int) + 3 * (totTmp x : Int)
theorem cntTemplateS_bd {x : XTemplateS} (h : okTemplateS x) : 0 ≤ cntTemplateS x ∧ cntTemplateS x ≤ 10000000 := by unfold okTemplateS at h; unfold cntTemplateS; omega
def offTmp (k : Int) (x : XTemplateS) (i : Nat) : Int := k + (i : Int) + 3 * (totTmp (x.take i) : Int)
def mkXTemplateS (k : Int) (x : XTemplateS) : XTemplateS := (List.range x.length).map fun i => (mt (offTmp k x i), mkFeat (offTmp k x i + 1) (((x[i]?).map fun s : XTemplate => s.2.length).getD 0))
theorem shapeTemplateS {lo hi : Nat} {w : World} {v : Value} {x : XTemplateS} (h : rTemplateS.at_ lo hi w v x) : ∃ sa sc, v = .slice sa x.length sc := by
  obtain ⟨es, h1, h2, _⟩ := h
  obtain ⟨sa, sc, rfl⟩ := (ArrIn.arr h1).isSlice
  exact ⟨sa, sc, by rw [h2]⟩
/-- templates that can be read -/
def Tmps (w : World) (u : Value) (X : XTemplateS) : Prop := ∃ es : List (ByteArray × SV), Arr eTmp w u es ∧ es.length = X.length ∧ ∀ (i : Nat) (e : ByteArray × SV) (x : XTemplate), es[i]? = some e → X[i]? = some x → e.1 = x.1 ∧ Arr eFeat w e.2.val x.2
theorem Tmps.below {w w' : World} {u : Value} {X : XTemplateS} (h : Tmps w u X) (hb : Below w.heap.size w w') : Tmps w' u X := by
  obtain ⟨es, h1, h2, h3⟩ := h
  exact ⟨es, h1.below hb, h2, fun i s x hs hx => ⟨(h3 i s x hs hx).1, (h3 i s x hs hx).2.below hb⟩⟩
theorem Tmps.alloc {w : World} {u : Value} {X : XTemplateS} (h : Tmps w u X) (o : Obj) : Tmps (w.alloc o) u X := h.below (below_alloc _ _)
theorem tmps_at {lo hi : Nat} {w : World} {u : Value} {x : XTemplateS} (h : rTemplateS.at_ lo hi w u x) : Tmps w u x := by
  obtain ⟨es, h1, h2, h3⟩ := h
  exact ⟨es, h1.arr, h2, fun i e x he hx => ⟨(h3 i e x he hx).1, (h3 i e x he hx).2.arr⟩⟩
theorem Tmps.at_ {w : World} {u : Value} {x : XTemplateS} (h : Tmps w u x) : rTemplateS.at_ 0 w.heap.size w u x := by
  obtain ⟨es, h1, h2, h3⟩ := h
  exact ⟨es, h1.in_, h2, fun i e y he hy => ⟨(h3 i e y he hy).1, (h3 i e y he hy).2.in_⟩⟩
theorem Tmps.slice {w : World} {u : Value} {X : XTemplateS} (h : Tmps w u X) : ∃ b off ao cap es, u = .slice ao X.length cap ∧ X.length ≤ cap ∧ cap ≤ maxLen ∧ (0 < X.length → ao = some ⟨b, off, none⟩ ∧ b < w.heap.size) ∧ Cells eTmp w b off es ∧ es.length = X.length ∧
    ∀ (i : Nat) (e : ByteArray × SV) (x : XTemplate), es[i]? = some e → X[i]? = some x → e.1 = x.1 ∧ Arr eFeat w e.2.val x.2 := by
  obtain ⟨es, ⟨b, off, ao, cap, hv, h1, h2, h3, h4⟩, hl, h5⟩ := h
  rw [hl] at hv h1 h3
  exact ⟨b, off, ao, cap, es, hv, h1, h2, h3, h4, hl, h5⟩
theorem Tmps.get {w : World} {u : Value} {X : XTemplateS} (h : Tmps w u X) {k : Nat} {x : XTemplate} (hx : X[k]? = some x) : ∃ b off cap sa sc, u = .slice (some ⟨b, off, none⟩) X.length cap ∧ cap ≤ maxLen ∧ b < w.heap.size ∧ w.cell? ⟨b, off + k * 2, none⟩ = some (.string x.1) ∧
    w.cell? ⟨b, off + k * 2 + 1, none⟩ = some (.slice sa x.2.length sc) ∧ Arr eFeat w (.slice sa x.2.length sc) x.2 := by
  obtain ⟨b, off, ao, cap, es, hv, h1, h2, h3, h4, hl, h5⟩ := h.slice
  have hk := (List.getElem?_eq_some_iff.1 hx).1
  obtain ⟨e, he⟩ : ∃ e, es[k]? = some e := ⟨_, List.getElem?_eq_getElem (by omega)⟩
  obtain ⟨e1, e2⟩ := h5 k e x he hx
  obtain ⟨c0, c1⟩ := eTmp_cells h4 he
  obtain ⟨hao, hb⟩ := h3 (by omega)
  obtain ⟨sa, sc, hs⟩ := e2.isSlice
  have hs' : Value.slice e.2.a e.2.n e.2.c = .slice sa x.2.length sc := hs
  rw [e1] at c0
  rw [hs'] at c1
  rw [hs] at e2
  subst hao
  exact ⟨b, off, cap, sa, sc, hv, h2, hb, c0, c1, e2⟩
end Go.Proofs.YtlnoelbeaolikaaGreat
