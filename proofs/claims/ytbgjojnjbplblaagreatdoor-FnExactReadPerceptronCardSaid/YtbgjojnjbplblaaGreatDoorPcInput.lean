/- The input of features: both calls. -/
import Derived.Test.YtbgjojnjbplblaaGreatDoorPcFeats
import Derived.Test.YtbgjojnjbplblaaGreatDoorPcNear
import Derived.Test.YtbgjojnjbplblaaGreatDoorWrInt64S
import Derived.Deep.Cut
namespace Go.Proofs.YtbgjojnjbplblaaGreatDoor
open Go.RowKit

theorem featsOk_len {x : List DFeat} (h : featsOk x = true) : 1 ≤ x.length ∧ x.length ≤ 384 := by
  unfold featsOk at h
  rw [Bool.and_eq_true, inB_true] at h
  omega
theorem featsOk_mem {x : List DFeat} (h : featsOk x = true) {k : Nat} {f : DFeat} (hf : x[k]? = some f) : featOk f = true := by
  unfold featsOk at h
  rw [Bool.and_eq_true, List.all_eq_true] at h
  exact h.1 f (List.mem_of_getElem? hf)
theorem ownE_get {B g n cap : Nat} {w : World} {xs : List Int} (h : Own eI 2 B w (.slice (some ⟨g, 0, none⟩) n cap) xs) {k : Nat} {c : Int} (hx : xs[k]? = some c) : w.cell? ⟨g, k, none⟩ = some (.int .i64 c) := by
  obtain ⟨b, off, ao, cap', hv, _, _, hao, hc⟩ := h.arr
  simp only [Value.slice.injEq] at hv
  have h0 := (hao (by have := (List.getElem?_eq_some_iff.1 hx).1; omega)).1
  rw [← hv.1] at h0
  simp at h0
  have := eI_cell hc hx
  rw [← h0.1, ← h0.2] at this
  simpa using this
theorem ownE_set {B g n cap : Nat} {w : World} {xs : List Int} (h : Own eI 2 B w (.slice (some ⟨g, 0, none⟩) n cap) xs) (hn : n = xs.length) {k : Nat} (hk : k < xs.length) (c : Int) :
    Own eI 2 B (w.setCell ⟨g, k, none⟩ (.int .i64 c)) (.slice (some ⟨g, 0, none⟩) n cap) (xs.set k c) := by
  have h2 := (h.set hn k hk c).1
  have e2 : storesAt w g (k * eI.sz) (eI.row c) = w.setCell ⟨g, k, none⟩ (.int .i64 c) := by
    show w.setCell ⟨g, k * 1, none⟩ _ = _
    rw [Nat.mul_one]
  rwa [e2] at h2

/-- the numbers, of which the first t have been turned -/
def nearTo (n : Nat) (A : List Int) (t : Nat) : List Int := (A.take t).map (fun c => nearQ (c * 256) n) ++ A.drop t
theorem nearTo_zero (n : Nat) (A : List Int) : nearTo n A 0 = A := by simp [nearTo]
theorem nearTo_len (n : Nat) (A : List Int) (t : Nat) : (nearTo n A t).length = A.length := by simp [nearTo]; omega
theorem nearTo_get (n : Nat) {A : List Int} {t : Nat} {c : Int} (h : A[t]? = some c) : (nearTo n A t)[t]? = some c := by
  have := (List.getElem?_eq_some_iff.1 h).1
  unfold nearTo
  rw [List.getElem?_append_right (by simp; omega), List.getElem?_drop]
  simp
  rw [show t + (t - min t A.length) = t by omega]; exact h
theorem nearTo_step (n : Nat) {A : List Int} {t : Nat} {c : Int} (h : A[t]? = some c) : (nearTo n A t).set t (nearQ (c * 256) n) = nearTo n A (t + 1) := by
  have hl := (List.getElem?_eq_some_iff.1 h).1
  have e : A.drop t = c :: A.drop (t + 1) := by
    rw [List.drop_eq_getElem_cons hl]
    rw [List.getElem?_eq_getElem hl] at h
    rw [Option.some.inj h]
  unfold nearTo
  rw [List.take_add_one, h, e, List.set_append_right _ _ (by simp; omega)]
  simp [Nat.min_eq_left (Nat.le_of_lt hl)]
theorem nearTo_all (n : Nat) (A : List Int) (t : Nat) (h : A.length ≤ t) : nearTo n A t = A.map (fun c => nearQ (c * 256) n) := by
  unfold nearTo; rw [List.take_of_length_le h, List.drop_eq_nil_of_le h, List.append_nil]
theorem nearTo_24 (n : Nat) (A : List Int) (h : A.length = 25) : (nearTo n A 24).set 24 256 = (A.map (fun c => nearQ (c * 256) n)).set 24 256 := by
  obtain ⟨c, hc⟩ : ∃ c, A[24]? = some c := ⟨_, List.getElem?_eq_getElem (by omega)⟩
  rw [← nearTo_all n A 25 (by omega), ← nearTo_step n hc, List.set_set]
theorem rInt64S_own2 {w' : World} {lo g : Nat} {u : Value} {x : XInt64S} (h : Own eI 2 g w' u x) (hB : lo ≤ g) : rInt64S.own lo w'.heap.size w' u x := (h.mono hB).in_
end Go.Proofs.YtbgjojnjbplblaaGreatDoor
