/- Texts that are read: the reference's calls that part a text and read a number. -/
import Derived.Test.YtbgjojnjbplblaaGreatDoorRtPl
import Derived.Test.YtbgjojnjbplblaaGreatDoorWrStringS
import Derived.Test.YtbgjojnjbplblaaGreatDoorStr
import Derived.Test.YtbgjojnjbplblaaGreatDoorCmp
import Derived.Test.YtbgjojnjbplblaaGreatDoorApp
namespace Go.Proofs.YtbgjojnjbplblaaGreatDoor
open Go.RowKit

def ofS (P : List (List UInt8)) : List ByteArray := P.map fun l => ⟨l.toArray⟩
/-- the parts of a text -/
def splB (b : UInt8) (s : ByteArray) : List ByteArray := ofS (splL b s.data.toList)
theorem ofS_len (P : List (List UInt8)) : (ofS P).length = P.length := List.length_map _
theorem ofS_app (P Q : List (List UInt8)) : ofS (P ++ Q) = ofS P ++ ofS Q := List.map_append
theorem ofS_one (s : ByteArray) : ofS [s.data.toList] = [s] := by simp [ofS]
theorem splB_len (b : UInt8) (s : ByteArray) : 1 ≤ (splB b s).length ∧ (splB b s).length ≤ s.size + 1 := by
  have h1 := splL_len b s.data.toList
  have h2 := splL_ne b s.data.toList
  unfold splB
  rw [ofS_len]
  have h3 : s.data.toList.length = s.size := by rw [Array.length_toList]; rfl
  have h4 : 0 < (splL b s.data.toList).length := List.length_pos_iff.2 h2
  omega
theorem splB_size {b : UInt8} {s p : ByteArray} (h : p ∈ splB b s) : p.size ≤ s.size := by
  unfold splB ofS at h
  obtain ⟨l, hl, rfl⟩ := List.mem_map.1 h
  have := splL_plen hl
  show l.toArray.size ≤ s.size
  have h3 : s.data.toList.length = s.size := by rw [Array.length_toList]; rfl
  simp
  omega
theorem infoStr2 : (Tryz.prog.info? 9).map (fun i => (i.zero, i.size, i.bytes)) = some (some (.string ByteArray.empty), eStr.sz, 16) := by kernel_rfl

set_option maxRecDepth 100000 in
set_option maxHeartbeats 2000000 in
theorem l01Split_any (s : ByteArray) (b : UInt8) (w : World) (hs : s.size ≤ 1048576) : Calls Tryz.prog 15 #[.string s, .int .u8 (b.toNat : Int)] w (RetOwn eStr 9 (splB b s) w) := by
  have hL : s.data.toList.length = s.size := by rw [Array.length_toList]; rfl
  have HL := hid hL
  clear hL
  go_enter Tryz.func15, Tryz.ntmps15
  go_wp2_with fail
  go_loopw [5, 6, 7] (fun u fr i wr => ∃ (f k : Nat) (P : List (List UInt8)), f ≤ k ∧ k ≤ s.size ∧ fr = .int .i64 f ∧ i = .int .i64 k ∧ Own eStr 9 w.heap.size wr u (ofS P) ∧ P.length ≤ k ∧ Hid (splL b s.data.toList = P ++ splL b (s.data.toList.drop f)) ∧ Hid (∀ j, f ≤ j → j < k → s.data.toList[j]? ≠ some b) ∧ Below w.heap.size w wr) (fun _ _ i _ => s.size - (intOf i).toNat)
  case atStart => exact ⟨0, 0, [], Nat.le_refl _, Nat.zero_le _, rfl, rfl, Own.empty _ _ (Nat.le_refl _), Nat.le_refl _, hid (by simp), hid (fun j h1 h2 => by omega), below_alloc _ _⟩
  case round =>
    obtain ⟨f, k, P, hfk, hk, rfl, rfl, hown, hP, HS, HN, hb⟩ := hrel
    have hPl : (ofS P).length = P.length := ofS_len P
    have hbs := hb.size
    have hf0 : (0 : Int) ≤ (f : Int) := by omega
    have hfki : (f : Int) ≤ (k : Int) := by omega
    have hks : (k : Int) ≤ (s.size : Int) := by omega
    have hfs : (f : Int) ≤ (s.size : Int) := by omega
    by_cases hlt : k < s.size
    · have hli : (k : Int) < (s.size : Int) := by omega
      have HB := hid (byte_at s k hlt)
      by_cases hq : s[k] = b
      · have hqi : (((s[k]).toNat : Int) == (b.toNat : Int)) = true := by rw [hq]; simp
        obtain ⟨p, hp⟩ : ∃ p, p = s.extract f k := ⟨_, rfl⟩
        have HPN : Hid (splL b s.data.toList = (P ++ [p.data.toList]) ++ splL b (s.data.toList.drop (k + 1))) := hid (by
          rw [HS.out, hp, Lib.extract_data]
          have e1 : s.data.toList.drop f = (s.data.toList.drop f).take (k - f) ++ b :: s.data.toList.drop (k + 1) := by
            have h1 : (s.data.toList.drop f)[k - f]? = some b := by
              rw [List.getElem?_drop, show f + (k - f) = k by omega, HB.out, hq]
            have h2 := split_at h1
            rw [List.drop_drop, show f + (k - f + 1) = k + 1 by omega] at h2
            exact h2
          have e2 : b ∉ (s.data.toList.drop f).take (k - f) := take_no fun j hj h => by
            rw [List.getElem?_drop] at h
            exact HN.out (f + j) (by omega) (by omega) h
          conv => lhs; rw [e1]
          rw [splL_hit e2, List.append_assoc]
          rfl)
        have HPO : Hid (ofS P ++ [p] = ofS (P ++ [p.data.toList])) := hid (by rw [ofS_app, ofS_one])
        have HPP := hid hp
        clear hq
        go_wp2_with (at_builtin; refine wpList_appA rfl _ _ 30 rfl w.heap.size 9 _ 16 infoStr2 Tryz.underlying30 rfl _ (ofS P) (by rfl) (hown.alloc _) _ [s.extract f k] (by rfl) (arr_block (E := eStr) (n := 1) [s.extract f k] #[.string (s.extract f k)] rfl rfl (by decide)) (by unfold maxLen; simp <;> omega) (by simp <;> omega) (by simp <;> omega) ?_)
        rw [← HPP.out]
        intro u1 w1 ho1 hb1 _
        go_wp2_with fail
        go_roundw
        case rel => exact ⟨k + 1, k + 1, P ++ [p.data.toList], Nat.le_refl _, by omega, by go_num, by go_num, by rw [← HPO.out]; exact ho1, by simp; omega, HPN, hid (fun j h1 h2 => by omega), (hb.alloc hbs _).trans hb1⟩
        case measure => simp [intOf]; omega
      · have hqi : (((s[k]).toNat : Int) == (b.toNat : Int)) = false := by
          rw [beq_eq_false_iff_ne]
          intro h
          apply hq
          exact UInt8.toNat_inj.1 (by omega)
        have HQ := hid hq
        clear hq
        go_wp2_with fail
        go_roundw
        case rel =>
          refine ⟨f, k + 1, P, by omega, by omega, rfl, by go_num, hown, by omega, HS, hid (fun j h1 h2 h3 => ?_), hb⟩
          by_cases e : j = k
          · subst e
            rw [HB.out] at h3
            exact HQ.out (Option.some.inj h3)
          · exact HN.out j h1 (by omega) h3
        case measure => simp [intOf]; omega
    · obtain rfl : k = s.size := by omega
      have hli : ¬ ((s.size : Int) < (s.size : Int)) := by omega
      obtain ⟨p, hp⟩ : ∃ p, p = s.extract f s.size := ⟨_, rfl⟩
      have HPN : Hid (ofS P ++ [p] = splB b s) := hid (by
        have e1 : s.data.toList.drop f = p.data.toList := by
          rw [hp, Lib.extract_data, List.take_of_length_le (by rw [List.length_drop, HL.out]; exact Nat.le_refl _)]
        have e2 : b ∉ s.data.toList.drop f := fun h => by
          obtain ⟨j, hj⟩ := List.mem_iff_getElem?.1 h
          rw [List.getElem?_drop] at hj
          exact HN.out (f + j) (by omega) (by have := (List.getElem?_eq_some_iff.1 hj).1; have := HL.out; omega) hj
        unfold splB
        rw [HS.out, splL_none e2, e1, ofS_app, ofS_one])
      have HPP := hid hp
      go_wp2_with (at_builtin; refine wpList_appA rfl _ _ 30 rfl w.heap.size 9 _ 16 infoStr2 Tryz.underlying30 rfl _ (ofS P) (by rfl) (hown.alloc _) _ [s.extract f s.size] (by rfl) (arr_block (E := eStr) (n := 1) [s.extract f s.size] #[.string (s.extract f s.size)] rfl rfl (by decide)) (by unfold maxLen; simp <;> omega) (by simp <;> omega) (by simp <;> omega) ?_)
      rw [← HPP.out]
      intro u1 w1 ho1 hb1 _
      go_wp2_with fail
      go_ret
      exact ⟨_, rfl, by rw [← HPN.out]; exact ho1, (hb.alloc hbs _).trans hb1⟩
end Go.Proofs.YtbgjojnjbplblaaGreatDoor
