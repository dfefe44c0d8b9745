/- Slices of int64: how their values lie in memory, and what the laws' functions over them do. -/
import Derived.Test.YtlnoelbeaolikaaGreatRows
import Derived.Test.YtlnoelbeaolikaaGreatMark
import Derived.Test.YtlnoelbeaolikaaGreatRep
import Derived.Test.YtlnoelbeaolikaaGreatReg
import Derived.Test.YtlnoelbeaolikaaGreatOpen
namespace Go.Proofs.YtlnoelbeaolikaaGreat
open Go.ChangeShapes Go.WideShapes Go.ChangeAt Go.RowKit Go.Deep

def eI : Enc Int := ⟨fun x => [.int .i64 x], 1, fun _ => rfl, by decide, fun x u hu => by simp at hu; subst hu; rfl⟩
abbrev XInt64S := List Int
def rInt64S : Rep XInt64S := Rep.flat eI 2
def okInt64S (x : XInt64S) : Prop := x.length ≤ 1048576
def cntInt64S (x : XInt64S) : Int := (x.length : Int)
theorem cntInt64S_bd {x : XInt64S} (h : okInt64S x) : 0 ≤ cntInt64S x ∧ cntInt64S x ≤ 10000000 := by unfold okInt64S at h; unfold cntInt64S; omega
def mkInt (k : Int) (n : Nat) : List Int := (List.range n).map fun (i : Nat) => k + (i : Int)
theorem mkInt_len (k : Int) (n : Nat) : (mkInt k n).length = n := by simp [mkInt]
theorem mkInt_get (k : Int) (n i : Nat) (h : i < n) : (mkInt k n)[i]? = some (k + (i : Int)) := by simp [mkInt, h]
def mkXInt64S (k : Int) (x : XInt64S) : XInt64S := mkInt k x.length
theorem shapeInt64S {lo hi : Nat} {w : World} {v : Value} {x : XInt64S} (h : rInt64S.at_ lo hi w v x) : ∃ sa sc, v = .slice sa x.length sc := (ArrIn.arr h).isSlice
theorem rInt64S_arr {lo hi : Nat} {w : World} {v : Value} {x : XInt64S} (h : rInt64S.at_ lo hi w v x) : Arr eI w v x := ArrIn.arr h
theorem rInt64S_own {w w' : World} {B : Nat} {u : Value} {x : XInt64S} (h : Own eI 2 B w' u x) (hB : w.heap.size ≤ B) : rInt64S.own w.heap.size w'.heap.size w' u x := (h.mono hB).in_
theorem eI_cell {w : World} {b off : Nat} {es : List Int} (h : Cells eI w b off es) {k : Nat} {x : Int} (hx : es[k]? = some x) : w.cell? ⟨b, off + k, none⟩ = some (.int .i64 x) := by
  have := h k x hx 0 _ rfl
  have e : off + k * eI.sz + 0 = off + k := by show off + k * 1 + 0 = off + k; omega
  rw [e] at this
  exact this
theorem infoI : (Tryz.prog.info? 2).map (fun i => (i.zero, i.size, i.bytes)) = some (some (.int .i64 0), 1, 8) := by kernel_rfl
theorem ownN_slot {α : Type} {E : Enc α} {e : TypeId} {B g cap n : Nat} {w : World} {xs : List α} (h : Own E e B w (.slice (some ⟨g, 0, none⟩) n cap) xs) (hn : n = xs.length) (h1 : E.sz = 1) {k : Nat} (hk : k < n) : ∃ u, w.cell? ⟨g, k, none⟩ = some u := by
  obtain ⟨u, hu⟩ := h.slot hn k hk 0 (by omega)
  rw [h1] at hu
  exact ⟨u, by simpa using hu⟩

end Go.Proofs.YtlnoelbeaolikaaGreat
