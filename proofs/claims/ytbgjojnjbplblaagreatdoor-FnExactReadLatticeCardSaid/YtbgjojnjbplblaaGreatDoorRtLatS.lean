/- A lattice read from its text: the reference's calls. -/
import Derived.Test.YtbgjojnjbplblaaGreatDoorRtLat
import Derived.Test.YtbgjojnjbplblaaGreatDoorRtNum
import Derived.Test.YtbgjojnjbplblaaGreatDoorRtBox
import Derived.Test.YtbgjojnjbplblaaGreatDoorWrInt64S
import Derived.Deep.Cut
namespace Go.Proofs.YtbgjojnjbplblaaGreatDoor
open Go.RowKit

theorem infI2 : (Tryz.prog.info? 2).map (fun i => (i.zero, i.size, i.bytes)) = some (some (.int .i64 0), eI.sz, 8) := by kernel_rfl
theorem infEdgR : (Tryz.prog.info? 46).map (fun i => (i.zero, i.size, i.bytes)) = some (some (.agg #[.int .i64 0, .int .i64 0, .string ByteArray.empty, .int .i64 0]), eEdge.sz, 40) := by kernel_rfl
def allN (P : List ByteArray) : Bool := P.all fun b => rdNb b.data.toList
def valsN (P : List ByteArray) : List Int := P.map fun b => rdNv b.data.toList
theorem allN_next {P : List ByteArray} {k : Nat} {b : ByteArray} (h : P[k]? = some b) : allN (P.take (k + 1)) = (allN (P.take k) && rdNb b.data.toList) := by
  unfold allN
  rw [List.take_add_one, h, Option.toList_some, List.all_append]
  simp
theorem valsN_next {P : List ByteArray} {k : Nat} {b : ByteArray} (h : P[k]? = some b) : valsN (P.take k) ++ [rdNv b.data.toList] = valsN (P.take (k + 1)) := by
  unfold valsN
  rw [List.take_add_one, h, Option.toList_some, List.map_append]
  rfl
theorem valsN_len (P : List ByteArray) (k : Nat) : (valsN (P.take k)).length ≤ k := by unfold valsN; rw [List.length_map, List.length_take]; omega
theorem own_i64 {B : Nat} {w : World} {u : Value} {x : List Int} (h : Own eI 2 B w u x) {k : Nat} {a : Int} (hk : x[k]? = some a) : ∃ g cap, u = .slice (some ⟨g, 0, none⟩) x.length cap ∧ g < w.heap.size ∧ w.cell? ⟨g, k, none⟩ = some (.int .i64 a) := by
  have hl := (List.getElem?_eq_some_iff.1 hk).1
  rcases h.shape with ⟨_, h0⟩ | ⟨g, cap, hv, _, hg⟩
  · subst h0; simp at hl
  · subst hv
    obtain ⟨b, off, ao, c, hv', _, _, hao, hc⟩ := h.arr
    simp only [Value.slice.injEq] at hv'
    obtain ⟨rfl, _, rfl⟩ := hv'
    obtain ⟨h1, _⟩ := hao (by omega)
    cases h1
    have := eI_cell hc hk
    rw [Nat.zero_add] at this
    exact ⟨g, cap, rfl, hg, this⟩
set_option maxRecDepth 100000 in
set_option maxHeartbeats 4000000 in
theorem l03Numbers_any (v : Value) (P : List ByteArray) (w : World) (h : Arr eStr w v P) (ok : P.length ≤ 1000000) : Calls Tryz.prog 35 #[v] w fun e w' => ∃ u, e = .returned (.tuple #[u, .bool (allN P)]) ∧ Own eI 2 w.heap.size w' u (valsN P) ∧ Below w.heap.size w w' := by
  obtain ⟨b, off, ao, cap, rfl, hnc, hcm, hao, hc⟩ := h
  unfold maxLen at hcm
  go_enter Tryz.func35, Tryz.ntmps35
  go_wp2_with fail
  go_loopw [4, 5, 6] (fun u o i wr => ∃ (k : Nat) (c : Bool), k ≤ P.length ∧ i = .int .i64 k ∧ o = .bool c ∧ Hid (c = allN (P.take k)) ∧ Own eI 2 w.heap.size wr u (valsN (P.take k)) ∧ Below w.heap.size w wr) (fun _ _ i _ => P.length - (intOf i).toNat)
  case atStart => exact ⟨0, true, Nat.zero_le _, rfl, rfl, hid rfl, Own.empty _ _ (Nat.le_refl _), below_alloc _ _⟩
  case round =>
    obtain ⟨k, c, hk, rfl, rfl, HC, hown, hbl⟩ := hrel
    obtain ⟨oa, oc, hu⟩ := hown.isSlice
    subst hu
    have hs := hbl.size
    by_cases hlt : k < P.length
    · have hli : (k : Int) < (P.length : Int) := by omega
      obtain ⟨hao', hbw⟩ := hao (by omega)
      subst hao'
      obtain ⟨p, hp⟩ : ∃ p, P[k]? = some p := ⟨_, List.getElem?_eq_getElem hlt⟩
      have c0 := eStr_cell (hc.below hbl hbw) hp
      have CN := fun w' => l01Number_any p w'
      obtain ⟨n, hn⟩ : ∃ n, n = rdNv p.data.toList := ⟨_, rfl⟩
      obtain ⟨f, hf⟩ : ∃ f, f = rdNb p.data.toList := ⟨_, rfl⟩
      rw [← hn, ← hf] at CN
      have HV := hid (show valsN (P.take k) ++ [n] = valsN (P.take (k + 1)) by rw [hn]; exact valsN_next hp)
      have HA := hid (show allN (P.take (k + 1)) = (allN (P.take k) && f) by rw [hf]; exact allN_next hp)
      have hvl := valsN_len P k
      clear hp hn hf hao
      cases c
      all_goals
        go_wp2_with fail
        refine (CN wr).mono ?_
        rintro en w2 ⟨rfl, hb2⟩
        have ho2 := hown.below hb2
        have hbl2 := hbl.trans (hb2.mono hs)
        have hs2 := hbl2.size
        go_wp2_with (at_builtin; refine wpList_appA rfl _ _ 51 rfl w.heap.size 2 _ 8 infI2 Tryz.underlying51 rfl _ (valsN (P.take k)) (by rfl) (ho2.alloc _) _ [n] (by rfl) (arr_block (E := eI) (n := 1) [n] #[.int .i64 n] rfl rfl (by decide)) (by unfold maxLen; simp <;> omega) (by simp <;> omega) (by simp <;> omega) ?_)
        intro u6 w6 ho6 hb6 _
        rw [HV.out] at ho6
        go_wp2_with fail
        go_roundw
        case rel => exact ⟨k + 1, _, by omega, by go_num, rfl, hid (by rw [HA.out, ← HC.out]; simp), ho6, (hbl2.alloc hs2 _).trans hb6⟩
        case measure => simp [intOf]; omega
    · obtain rfl : k = P.length := by omega
      have hli : ¬ ((P.length : Int) < (P.length : Int)) := by omega
      have hC := HC.out
      rw [List.take_length] at hown hC
      subst hC
      go_wp2_with fail
      go_ret2
      exact ⟨_, rfl, hown, hbl⟩
end Go.Proofs.YtbgjojnjbplblaaGreatDoor
