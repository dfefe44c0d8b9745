/- Words sorted by the library: slices.Sort at []string, by the shelf's contract. -/
import Derived.Test.YthooeaappnkjgaaCcPlain
import Derived.Test.YthooeaappnkjgaaWrStringS
import Derived.Test.YthooeaappnkjgaaShelf
import Derived.Sort.OwnSorted
namespace Go.Proofs.Ythooeaappnkjgaa
open Go.RowKit Go.Sort

theorem flat_eStr (x : List ByteArray) : eStr.flat x = x.map Value.string := by
  unfold Enc.flat
  induction x with
  | nil => rfl
  | cons a t ih => rw [List.flatMap_cons, ih]; rfl
def lstS (x : List ByteArray) : List (List UInt8) := x.map (·.data.toList)
def ofLS (l : List (List UInt8)) : List ByteArray := l.map fun b => ⟨b.toArray⟩
theorem lst_enc (x : List ByteArray) : (lstS x).map encStr = eStr.flat x := by
  rw [flat_eStr]
  unfold lstS
  rw [List.map_map]
  exact List.map_congr_left fun a _ => by simp [encStr]
theorem of_enc (l : List (List UInt8)) : l.map encStr = eStr.flat (ofLS l) := by
  rw [flat_eStr]
  unfold ofLS
  rw [List.map_map]
  rfl
theorem of_lst (x : List ByteArray) : ofLS (lstS x) = x := by
  unfold ofLS lstS
  rw [List.map_map]
  conv => rhs; rw [← List.map_id x]
  exact List.map_congr_left fun a _ => by simp
def srtS (x : List ByteArray) : List ByteArray := ofLS ((lstS x).mergeSort fun a b => decide (a ≤ b))
theorem srt_perm (x : List ByteArray) : (srtS x).Perm x := by
  have h := ((lstS x).mergeSort_perm fun a b => decide (a ≤ b)).map (fun b : List UInt8 => (⟨b.toArray⟩ : ByteArray))
  have h2 : ((lstS x).map fun b : List UInt8 => (⟨b.toArray⟩ : ByteArray)) = x := of_lst x
  rw [h2] at h
  exact h
theorem srt_sorted (x : List ByteArray) : SortedS (srtS x) := by
  unfold SortedS srtS ofLS
  rw [List.pairwise_map]
  refine (List.pairwise_mergeSort (le := fun a b : List UInt8 => decide (a ≤ b)) (fun a b c h1 h2 => ?_) (fun a b => ?_) (lstS x)).imp fun {a b} h => ?_
  · simp only [decide_eq_true_eq] at *; exact List.le_trans h1 h2
  · simp only [Bool.or_eq_true, decide_eq_true_eq]; exact List.le_total a b
  · unfold ltB
    rw [bless_eq]
    simp only [decide_eq_true_eq] at h
    rw [decide_eq_false_iff_not, ByteArray.toList_eq, ByteArray.toList_eq]
    simpa using h
theorem sortStrNil_any (w : World) : Calls Try.prog 50 #[.slice none 0 0] w fun e w' => e = .returned (.tuple #[]) ∧ Below w.heap.size w w' :=
  (Try.slices_Sort_string_none none 0 w).mono fun _ _ h => ⟨h.1, h.2 ▸ Below.refl _ _⟩
theorem sortStr_any (v : Value) (B : Nat) (X : List ByteArray) (w : World) (h : Own eStr 9 B w v X) (hs : X.length ≤ 1048576) (hB : B ≤ w.heap.size) :
    Calls Try.prog 50 #[v] w fun e w' => e = .returned (.tuple #[]) ∧ Own eStr 9 B w' v (srtS X) ∧ Below B w w' := by
  rcases h.2 with ⟨hv, hl⟩ | ⟨g, cap, cur, hv, hbase, hb, h1, h2, h3, h4⟩
  · subst hv
    have hx : X = [] := List.length_eq_zero_iff.1 hl
    subst hx
    refine (sortStrNil_any w).mono ?_
    rintro e w' ⟨rfl, hb⟩
    refine ⟨rfl, ?_, hb.mono hB⟩
    have : srtS [] = [] := by simp [srtS, lstS, ofLS]
    rw [this]
    exact Own.nil _ _ _
  · subst hv
    have hlen : (lstS X).length = X.length := by simp [lstS]
    have h4' : cur.toList.take (lstS X).length = (lstS X).map encStr := by
      rw [lst_enc, hlen]
      have : X.length * eStr.sz = X.length := Nat.mul_one _
      rw [this] at h4
      exact h4
    have hcon := Try.slices_Sort_string g 0 cap (lstS X) w (holds_of_block hb h4') (Array.getElem?_eq_some_iff.1 hb).1 (by rw [hlen]; omega)
    rw [hlen] at hcon
    refine hcon.mono ?_
    rintro e w' ⟨rfl, n, os, rfl⟩
    have hml : ((lstS X).mergeSort fun x y => decide (x ≤ y)).length = (lstS X).length := by simp
    have hr := ownsRow_sorted (n := n) (os := os) (base := B) hml hbase hb (by rw [hlen]; exact h1) h2 h3
    have hsl : (srtS X).length = X.length := (srt_perm X).length_eq
    refine ⟨rfl, ?_, (Below.refl B w).grown (grownBy_sorted _) hB (by intro k hk; cases hk; exact hbase)⟩
    unfold Own
    rw [hsl]
    rw [hlen, of_enc] at hr
    exact hr
end Go.Proofs.Ythooeaappnkjgaa
