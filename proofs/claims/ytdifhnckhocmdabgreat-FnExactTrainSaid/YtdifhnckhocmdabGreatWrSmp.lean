/- Samples: how their values lie in memory, and what the laws' functions over them do, for every argument that can be read. -/
import Derived.Test.YtdifhnckhocmdabGreatWrStringS
import Derived.Test.YtdifhnckhocmdabGreatWrFeatS
import Derived.Test.YtdifhnckhocmdabGreatNest
namespace Go.Proofs.YtdifhnckhocmdabGreat
open Go.ChangeShapes Go.WideShapes Go.ChangeAt Go.RowKit Go.Deep

abbrev XSample := ByteArray × XFeatS
def rSample : Rep XSample := Rep.aggP (fun s => Value.string s) rFeatS
def goodSample (x : XSample) : Prop := x.1.size ≤ maxLen ∧ goodFeatS x.2
def sizeSample (x : XSample) : Nat := x.1.size + sizeFeatS x.2
def okSample (x : XSample) : Prop := okFeatS x.2
theorem okSample_of {x : XSample} (h : sizeSample x ≤ 1048576) : okSample x := by unfold sizeSample at h; exact okFeatS_of (by omega)
def cntSample (x : XSample) : Int := cntFeatS x.2
theorem cntSample_bd {x : XSample} (h : okSample x) : 0 ≤ cntSample x ∧ cntSample x ≤ 10000000 := cntFeatS_bd h
def mkXSample (k : Int) (x : XSample) : XSample := (x.1, mkXFeatS k x.2)
theorem shapeSample {lo hi : Nat} {w : World} {v : Value} {x : XSample} (h : rSample.at_ lo hi w v x) : ∃ sa sc, v = .agg #[.string x.1, .slice sa x.2.length sc] := by
  obtain ⟨u, rfl, h⟩ := h
  obtain ⟨sa, sc, rfl⟩ := shapeFeatS h
  exact ⟨sa, sc, rfl⟩
theorem szFeat_len (x : XFeatS) : sizeFeatS x = x.length := by
  unfold sizeFeatS
  have : sumOf szFeat x = 0 := by
    unfold sumOf
    induction x with
    | nil => rfl
    | cons a t ih => simp [szFeat] at *; exact ih
  omega

/-- an element: a label and a slice header -/
def eSmp : Enc (ByteArray × SV) := eSV eStr
theorem eSmp_cells {w : World} {b off : Nat} {es : List (ByteArray × SV)} (h : Cells eSmp w b off es) {k : Nat} {x : ByteArray × SV} (hx : es[k]? = some x) :
    w.cell? ⟨b, off + k * 2, none⟩ = some (.string x.1) ∧ w.cell? ⟨b, off + k * 2 + 1, none⟩ = some (.slice x.2.a x.2.n x.2.c) :=
  ⟨h k x hx 0 _ rfl, h k x hx 1 _ rfl⟩
abbrev XSampleS := List XSample
def SmpIn (lo hi : Nat) (w : World) (u : Value) (X : XSampleS) : Prop :=
  ∃ es : List (ByteArray × SV), ArrIn eSmp lo hi w u es ∧ es.length = X.length ∧ ∀ (i : Nat) (e : ByteArray × SV) (x : XSample), es[i]? = some e → X[i]? = some x → e.1 = x.1 ∧ ArrIn eFeat lo hi w e.2.val x.2
def SmpOwn (lo hi : Nat) (w : World) (u : Value) (X : XSampleS) : Prop :=
  ∃ es : List (ByteArray × SV), OwnIn eSmp 58 lo hi w u es ∧ es.length = X.length ∧ (∀ (i : Nat) (e : ByteArray × SV) (x : XSample), es[i]? = some e → X[i]? = some x → e.1 = x.1 ∧ OwnIn eFeat 88 lo hi w e.2.val x.2) ∧
    (∀ (i j : Nat) (s t : ByteArray × SV) (g : Nat), es[i]? = some s → es[j]? = some t → s.2.blk = some g → t.2.blk = some g → i = j)
def rSampleS : Rep XSampleS where
  at_ := SmpIn
  own := SmpOwn
  own_at := fun ⟨es, h1, h2, h3, _⟩ => ⟨es, h1.arrIn, h2, fun i e x he hx => ⟨(h3 i e x he hx).1, (h3 i e x he hx).2.arrIn⟩⟩
  at_chg := fun ⟨es, h1, h2, h3⟩ hc hd => ⟨es, h1.chg hc hd, h2, fun i e x he hx => ⟨(h3 i e x he hx).1, (h3 i e x he hx).2.chg hc hd⟩⟩
  own_chg := fun ⟨es, h1, h2, h3, h4⟩ hc hd => ⟨es, h1.chg hc hd, h2, fun i e x he hx => ⟨(h3 i e x he hx).1, (h3 i e x he hx).2.chg hc hd⟩, h4⟩
  at_mono := fun ⟨es, h1, h2, h3⟩ hl hh => ⟨es, h1.mono hl hh, h2, fun i e x he hx => ⟨(h3 i e x he hx).1, (h3 i e x he hx).2.mono hl hh⟩⟩
  own_mono := fun ⟨es, h1, h2, h3, h4⟩ hl hh => ⟨es, h1.mono hl hh, h2, fun i e x he hx => ⟨(h3 i e x he hx).1, (h3 i e x he hx).2.mono hl hh⟩, h4⟩
  ty := fun T => T == 88 || T == 58
  own_set := fun ⟨es, h1, h2, h3, h4⟩ hp hT => by
    simp at hT
    exact ⟨es, h1.set_other hp hT.2, h2, fun i e x he hx => ⟨(h3 i e x he hx).1, (h3 i e x he hx).2.set_other hp hT.1⟩, h4⟩
def goodSampleS (x : XSampleS) : Prop := ∀ s ∈ x, goodSample s
def totSmp (x : XSampleS) : Nat := sumOf (fun s : XSample => s.2.length) x
def sizeSampleS (x : XSampleS) : Nat := x.length + sumOf sizeSample x
def okSampleS (x : XSampleS) : Prop := x.length + totSmp x ≤ 1048576
theorem tot_le (x : XSampleS) : totSmp x ≤ sumOf sizeSample x := by
  unfold totSmp sumOf
  induction x with
  | nil => simp
  | cons a t ih =>
    simp only [List.map_cons, List.sum_cons]
    have : a.2.length ≤ sizeSample a := by unfold sizeSample; rw [szFeat_len]; omega
    omega
theorem okSampleS_of {x : XSampleS} (h : sizeSampleS x ≤ 1048576) : okSampleS x := by
  unfold sizeSampleS at h
  have := tot_le x
  unfold okSampleS; omega
theorem okSampleS_st {x : XSampleS} (h : okSampleS x) {k : Nat} {s : XSample} (hs : x[k]? = some s) : okSample s := by
  have := sumOf_mem (fun s : XSample => s.2.length) hs
  unfold okSampleS totSmp at h; unfold okSample okFeatS; omega
def cntSampleS (x : XSampleS) : Int := (x.length : Int) + 3 * (totSmp x : Int)
theorem cntSampleS_bd {x : XSampleS} (h : okSampleS x) : 0 ≤ cntSampleS x ∧ cntSampleS x ≤ 10000000 := by unfold okSampleS at h; unfold cntSampleS; omega
def offSmp (k : Int) (x : XSampleS) (i : Nat) : Int := k + (i : Int) + 3 * (totSmp (x.take i) : Int)
def mkXSampleS (k : Int) (x : XSampleS) : XSampleS := (List.range x.length).map fun i => (mt (offSmp k x i), mkFeat (offSmp k x i + 1) (((x[i]?).map fun s : XSample => s.2.length).getD 0))
theorem shapeSampleS {lo hi : Nat} {w : World} {v : Value} {x : XSampleS} (h : rSampleS.at_ lo hi w v x) : ∃ sa sc, v = .slice sa x.length sc := by
  obtain ⟨es, h1, h2, _⟩ := h
  obtain ⟨sa, sc, rfl⟩ := (ArrIn.arr h1).isSlice
  exact ⟨sa, sc, by rw [h2]⟩
/-- samples that can be read -/
def Smps (w : World) (u : Value) (X : XSampleS) : Prop := ∃ es : List (ByteArray × SV), Arr eSmp w u es ∧ es.length = X.length ∧ ∀ (i : Nat) (e : ByteArray × SV) (x : XSample), es[i]? = some e → X[i]? = some x → e.1 = x.1 ∧ Arr eFeat w e.2.val x.2
theorem Smps.below {w w' : World} {u : Value} {X : XSampleS} (h : Smps w u X) (hb : Below w.heap.size w w') : Smps w' u X := by
  obtain ⟨es, h1, h2, h3⟩ := h
  exact ⟨es, h1.below hb, h2, fun i s x hs hx => ⟨(h3 i s x hs hx).1, (h3 i s x hs hx).2.below hb⟩⟩
theorem Smps.alloc {w : World} {u : Value} {X : XSampleS} (h : Smps w u X) (o : Obj) : Smps (w.alloc o) u X := h.below (below_alloc _ _)
theorem smps_at {lo hi : Nat} {w : World} {u : Value} {x : XSampleS} (h : rSampleS.at_ lo hi w u x) : Smps w u x := by
  obtain ⟨es, h1, h2, h3⟩ := h
  exact ⟨es, h1.arr, h2, fun i e x he hx => ⟨(h3 i e x he hx).1, (h3 i e x he hx).2.arr⟩⟩
theorem Smps.at_ {w : World} {u : Value} {x : XSampleS} (h : Smps w u x) : rSampleS.at_ 0 w.heap.size w u x := by
  obtain ⟨es, h1, h2, h3⟩ := h
  exact ⟨es, h1.in_, h2, fun i e y he hy => ⟨(h3 i e y he hy).1, (h3 i e y he hy).2.in_⟩⟩
theorem Smps.slice {w : World} {u : Value} {X : XSampleS} (h : Smps w u X) : ∃ b off ao cap es, u = .slice ao X.length cap ∧ X.length ≤ cap ∧ cap ≤ maxLen ∧ (0 < X.length → ao = some ⟨b, off, none⟩ ∧ b < w.heap.size) ∧ Cells eSmp w b off es ∧ es.length = X.length ∧
    ∀ (i : Nat) (e : ByteArray × SV) (x : XSample), es[i]? = some e → X[i]? = some x → e.1 = x.1 ∧ Arr eFeat w e.2.val x.2 := by
  obtain ⟨es, ⟨b, off, ao, cap, hv, h1, h2, h3, h4⟩, hl, h5⟩ := h
  rw [hl] at hv h1 h3
  exact ⟨b, off, ao, cap, es, hv, h1, h2, h3, h4, hl, h5⟩
theorem Smps.get {w : World} {u : Value} {X : XSampleS} (h : Smps w u X) {k : Nat} {x : XSample} (hx : X[k]? = some x) : ∃ b off cap sa sc, u = .slice (some ⟨b, off, none⟩) X.length cap ∧ cap ≤ maxLen ∧ b < w.heap.size ∧ w.cell? ⟨b, off + k * 2, none⟩ = some (.string x.1) ∧
    w.cell? ⟨b, off + k * 2 + 1, none⟩ = some (.slice sa x.2.length sc) ∧ Arr eFeat w (.slice sa x.2.length sc) x.2 := by
  obtain ⟨b, off, ao, cap, es, hv, h1, h2, h3, h4, hl, h5⟩ := h.slice
  have hk := (List.getElem?_eq_some_iff.1 hx).1
  obtain ⟨e, he⟩ : ∃ e, es[k]? = some e := ⟨_, List.getElem?_eq_getElem (by omega)⟩
  obtain ⟨e1, e2⟩ := h5 k e x he hx
  obtain ⟨c0, c1⟩ := eSmp_cells h4 he
  obtain ⟨hao, hb⟩ := h3 (by omega)
  obtain ⟨sa, sc, hs⟩ := e2.isSlice
  have hs' : Value.slice e.2.a e.2.n e.2.c = .slice sa x.2.length sc := hs
  rw [e1] at c0
  rw [hs'] at c1
  rw [hs] at e2
  subst hao
  exact ⟨b, off, cap, sa, sc, hv, h2, hb, c0, c1, e2⟩
end Go.Proofs.YtdifhnckhocmdabGreat
