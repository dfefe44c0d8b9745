/- Texts that are read: the implementation's calls that part a text. -/
import Derived.Test.YtbgjojnjbplblaaGreatDoorRtNum
import Derived.Test.YtbgjojnjbplblaaGreatDoorRtBox
import Derived.Test.YtbgjojnjbplblaaGreatDoorRtMap
namespace Go.Proofs.YtbgjojnjbplblaaGreatDoor
open Go.RowKit

theorem ofS_inj {X : List ByteArray} {L : List (List UInt8)} (h : X.map (·.data.toList) = L) : X = ofS L := by
  subst h
  unfold ofS
  rw [List.map_map]
  conv => lhs; rw [← List.map_id X]
  exact List.map_congr_left fun a _ => by simp
theorem splitB_is (b : UInt8) (s : ByteArray) : Lib.splitB ⟨#[b]⟩ 0 (Lib.countB s ⟨#[b]⟩) s = splB b s := by
  unfold splB
  refine ofS_inj ?_
  rw [Lib.splitB_data]
  exact splitK_one b _ _ (Nat.le_refl _)
theorem countB_is (b : UInt8) (s : ByteArray) : Lib.countB s ⟨#[b]⟩ + 1 = (splB b s).length := by
  unfold splB
  rw [ofS_len, splL_count b _ _ (Nat.le_refl _)]
  try rfl
theorem flat_eStrR (x : List ByteArray) : eStr.flat x = x.map Value.string := by
  unfold Enc.flat
  induction x with
  | nil => rfl
  | cons a t ih => rw [List.flatMap_cons, ih]; rfl
theorem splitOwn (b : UInt8) (s : ByteArray) (w : World) (hs : s.size ≤ 1048576) (hm : MaxL w) : Calls Tryz.prog 38 #[.string s, .string ⟨#[b]⟩] w (RetOwn eStr 9 (splB b s) w) := by
  obtain ⟨m, hm⟩ := hm
  have h := Tryz.strings_Split s ⟨#[b]⟩ m w (by omega) hm (Nat.le_refl _)
  rw [splitB_is, countB_is] at h
  refine h.mono ?_
  rintro e w' ⟨rfl, rfl⟩
  refine ⟨_, rfl, ?_, below_alloc _ _⟩
  have h1 := World.ownsRow_lit (base := w.heap.size) (e := 9) (size := 1) w ((splB b s).map Value.string).toArray (splB b s).length (Nat.le_refl _) (by have := (splB_len b s).2; unfold maxLen; omega) (by simp)
  unfold Own
  rw [flat_eStrR]
  exact h1
set_option maxRecDepth 100000 in
set_option maxHeartbeats 1000000 in
theorem linesOf_any (s : ByteArray) (w : World) (hs : s.size ≤ 1048576) (hm : MaxL w) : Calls Tryz.prog 17 #[.string s] w fun en w' => (match linesL s.data.toList with
    | some P => ∃ u, en = .returned (.tuple #[u, .bool true]) ∧ Own eStr 9 w.heap.size w' u (ofS P)
    | none => en = .returned (.tuple #[.slice none 0 0, .bool false])) ∧ Below w.heap.size w w' := by
  cases he : s.toList.isEmpty with
  | true =>
    have hl : s.data.toList = [] := by rw [← ByteArray.toList_eq]; exact List.isEmpty_iff.1 he
    have HN := hid (show linesL s.data.toList = some [] by rw [hl]; rfl)
    have hl2 : s.toList = [] := List.isEmpty_iff.1 he
    rw [HN.out]
    go_enter Tryz.func17, Tryz.ntmps17
    go_wp2_with fail
    go_ret2
    exact ⟨⟨_, rfl, Own.nil _ _ _⟩, Below.refl _ _⟩
  | false =>
    have hl : s.data.toList ≠ [] := fun h => by
      rw [← ByteArray.toList_eq] at h
      rw [h] at he; cases he
    have hl2 : ¬ s.toList = [] := fun h => by rw [h] at he; cases he
    have CH := Tryz.strings_HasSuffix s ⟨#[10]⟩ w (by omega)
    rw [show (⟨#[10]⟩ : ByteArray).data.toList = [10] from rfl] at CH
    cases hsf : Lib.hasSuffix s.data.toList [10] with
    | false =>
      rw [hsf] at CH
      have HN := hid (linesL_no hl hsf)
      rw [HN.out]
      clear hsf hl
      go_enter Tryz.func17, Tryz.ntmps17
      go_wp2_with (go_at_call 37; refine CH.mono ?_; rintro e w' ⟨rfl, hw⟩; obtain rfl := hw)
      go_ret2
      exact ⟨rfl, Below.refl _ _⟩
    | true =>
      rw [hsf] at CH
      obtain ⟨t, ht⟩ := (hasSuf_one _ _).1 hsf
      obtain ⟨T, hT⟩ : ∃ T : ByteArray, T = ⟨t.toArray⟩ := ⟨_, rfl⟩
      have hTl : T.data.toList = t := by rw [hT]
      have CT := Tryz.strings_TrimSuffix s ⟨#[10]⟩ w (by omega)
      rw [show (⟨#[10]⟩ : ByteArray).data.toList = [10] from rfl, ht, trimSuf_one, ← hT] at CT
      have hTs : T.size ≤ 1048576 := by
        have h1 := congrArg List.length ht
        have h2 : s.data.toList.length = s.size := by rw [Array.length_toList]; rfl
        have h3 : T.data.toList.length = T.size := by rw [Array.length_toList]; rfl
        rw [h2, ← hTl] at h1
        simp at h1
        have h4 : T.data.size = T.size := rfl
        omega
      have HN := hid (show linesL s.data.toList = some (splL 10 T.data.toList) by rw [ht, linesL_suf, hTl])
      have CS := splitOwn 10 T w hTs hm
      rw [HN.out]
      clear hsf hl ht hT hTl
      go_enter Tryz.func17, Tryz.ntmps17
      go_wp2_with (go_at_call 37; refine CH.mono ?_; rintro e w' ⟨rfl, hw⟩; obtain rfl := hw)
      refine CT.mono ?_
      rintro e w' ⟨rfl, hw⟩
      obtain rfl := hw
      go_wp2_with fail
      refine CS.mono ?_
      rintro e w2 ⟨u, rfl, ho, hb⟩
      go_wp2_with fail
      go_ret2
      exact ⟨⟨u, rfl, ho⟩, hb⟩
theorem wordsOf_any (s : ByteArray) (w : World) (hs : s.size ≤ 1048576) (hm : MaxL w) : Calls Tryz.prog 18 #[.string s] w (RetOwn eStr 9 (splB 32 s) w) := by
  go_enter Tryz.func18, Tryz.ntmps18
  go_wp2_with fail
  refine (splitOwn 32 s w hs hm).mono ?_
  rintro e w2 ⟨u, rfl, ho, hb⟩
  go_wp2_with fail
  go_ret
  exact ⟨u, rfl, ho, hb⟩
end Go.Proofs.YtbgjojnjbplblaaGreatDoor
