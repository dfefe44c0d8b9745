/- slices.IndexFunc, slices.ContainsFunc over whatever closure. Written by clogen.py. -/
import Derived.Test.YtbgjojnjbplblaaGreatDoorWrPcp
import Derived.Test.YtbgjojnjbplblaaGreatDoorWrSmp
import Derived.Test.YtbgjojnjbplblaaGreatDoorClo
namespace Go.Proofs.YtbgjojnjbplblaaGreatDoor
open Go.RowKit

set_option maxHeartbeats 1000000 in
theorem indexI_any (c : FuncId) (cs : Array Value) (q : Int → Bool) (v : Value) (x : XInt64S) (w : World) (h : Arr eI w v x) (ok : x.length ≤ 1048576) (hen : Enters c)
    (hf : ∀ (k : Nat) (e : Int) (w' : World), x[k]? = some e → Below w.heap.size w w' → Calls Tryz.prog c (#[.int .i64 e] ++ cs) w' (Ret (.bool (q e)) w')) :
    Calls Tryz.prog 97 #[v, .func (.func c) #[] cs] w (Ret (.int .i64 (posOf (x.findIdx? q))) w) := by
  obtain ⟨b, off, ao, cap, rfl, hnc, hcm, hao, hc⟩ := h
  unfold maxLen at hcm
  go_enter Tryz.func97, Tryz.ntmps97
  go_wp2
  go_loopw [5, 8] (fun _ i wr => ∃ k : Nat, k ≤ x.length ∧ i = .int .i64 k ∧ Below w.heap.size w wr ∧ Hid (∀ j a, j < k → x[j]? = some a → q a = false)) (fun _ i _ => x.length - (intOf i).toNat)
  case atStart => exact ⟨0, Nat.zero_le _, rfl, Below.refl _ _, hid (fun j e h => by omega)⟩
  case round =>
    obtain ⟨k, hk, rfl, hb, HA⟩ := hrel
    by_cases hlt : k < x.length
    · obtain ⟨hao', hbw⟩ := hao (by omega)
      subst hao'
      obtain ⟨e, he⟩ : ∃ e, x[k]? = some e := ⟨_, List.getElem?_eq_getElem hlt⟩
      have c0 := eI_cell (hc.below hb hbw) he
      have hli : (k : Int) < (x.length : Int) := by omega
      have HE := hid he
      have HF := hid (hf k e wr he hb)
      clear he hao hf
      have hcf : ∀ (args : Array Value) (w : World), (callFunc c args).run Tryz.prog w = .ok (.enter c args) w := hen
      cases hq : q e
      · rw [hq] at HF
        go_wp2_with fail
        refine HF.out.mono ?_
        rintro e2 w2 ⟨rfl, hb2⟩
        go_wp2
        go_roundw
        case rel =>
          refine ⟨k + 1, by omega, by go_num, hb.trans (hb2.mono hb.size), hid (fun j a hj ha => ?_)⟩
          by_cases ej : j = k
          · subst ej; rw [HE.out] at ha; obtain rfl := Option.some.inj ha; exact hq
          · exact HA.out j a (by omega) ha
        case measure => simp [intOf]; omega
      · rw [hq] at HF
        go_wp2_with fail
        refine HF.out.mono ?_
        rintro e2 w2 ⟨rfl, hb2⟩
        go_wp2
        go_ret
        exact ret_int (by rw [find_some HE.out hq HA.out]; rfl) (hb.trans (hb2.mono hb.size))
    · have HV := hid (find_none (x := x) (q := q) fun j a hj => HA.out j a (by omega))
      clear hao hf
      go_wp2
      go_ret
      exact ret_int (by rw [HV.out]; rfl) hb
set_option maxHeartbeats 400000 in
theorem containsI_any (c : FuncId) (cs : Array Value) (q : Int → Bool) (v : Value) (x : XInt64S) (w : World) (h : Arr eI w v x) (ok : x.length ≤ 1048576) (hen : Enters c)
    (hf : ∀ (k : Nat) (e : Int) (w' : World), x[k]? = some e → Below w.heap.size w w' → Calls Tryz.prog c (#[.int .i64 e] ++ cs) w' (Ret (.bool (q e)) w')) :
    Calls Tryz.prog 80 #[v, .func (.func c) #[] cs] w (Ret (.bool (x.any q)) w) := by
  have HF := hid hf
  have HN := hid hen
  clear hf hen
  rw [← pos_any]
  go_enter Tryz.func80, Tryz.ntmps80
  go_wp2_with (go_at_call 97; refine (indexI_any _ _ _ _ _ _ h ok HN.out HF.out).mono ?_; rintro e w' ⟨rfl, hb⟩)
  go_ret
  exact ret_bool rfl hb
set_option maxHeartbeats 1000000 in
theorem indexR_any (c : FuncId) (cs : Array Value) (q : XInt64S → Bool) (v : Value) (x : XInt64SS) (w : World) (h : RowsI w v x) (ok : x.length ≤ 1048576) (hen : Enters c)
    (hf : ∀ (k : Nat) (e : XInt64S) (sa : Option Addr) (sc : Nat) (w' : World), x[k]? = some e → Below w.heap.size w w' → Arr eI w' (.slice sa e.length sc) e → Calls Tryz.prog c (#[.slice sa e.length sc] ++ cs) w' (Ret (.bool (q e)) w')) :
    Calls Tryz.prog 79 #[v, .func (.func c) #[] cs] w (Ret (.int .i64 (posOf (x.findIdx? q))) w) := by
  obtain ⟨b, off, ao, cap, us, rfl, hnc, hcm, hao, hc, hul, hin⟩ := h.slice
  have HIN := hid hin
  have HUL := hid hul
  clear hin hul h
  unfold maxLen at hcm
  go_enter Tryz.func79, Tryz.ntmps79
  go_wp2
  go_loopw [5, 8] (fun _ i wr => ∃ k : Nat, k ≤ x.length ∧ i = .int .i64 k ∧ Below w.heap.size w wr ∧ Hid (∀ j a, j < k → x[j]? = some a → q a = false)) (fun _ i _ => x.length - (intOf i).toNat)
  case atStart => exact ⟨0, Nat.zero_le _, rfl, Below.refl _ _, hid (fun j e h => by omega)⟩
  case round =>
    obtain ⟨k, hk, rfl, hb, HA⟩ := hrel
    by_cases hlt : k < x.length
    · obtain ⟨hao', hbw⟩ := hao (by omega)
      subst hao'
      obtain ⟨e, he⟩ : ∃ e, x[k]? = some e := ⟨_, List.getElem?_eq_getElem hlt⟩
      obtain ⟨s, hsv⟩ : ∃ s, us[k]? = some s := ⟨_, List.getElem?_eq_getElem (by rw [HUL.out]; exact hlt)⟩
      have c0 := eS1_cells (hc.below hb hbw) hsv
      have hA := (HIN.out k s e hsv he).below hb
      obtain ⟨sa, sc, hsl⟩ := hA.isSlice
      rw [hsl] at hA
      have hsl2 : Value.slice s.a s.n s.c = .slice sa e.length sc := hsl
      rw [hsl2] at c0
      have HA2 := hid hA
      clear hsl hsl2 hsv hA
      have hli : (k : Int) < (x.length : Int) := by omega
      have HE := hid he
      have HF := hid (hf k e sa sc wr he hb HA2.out)
      clear he hao hf
      have hcf : ∀ (args : Array Value) (w : World), (callFunc c args).run Tryz.prog w = .ok (.enter c args) w := hen
      cases hq : q e
      · rw [hq] at HF
        go_wp2_with fail
        refine HF.out.mono ?_
        rintro e2 w2 ⟨rfl, hb2⟩
        go_wp2
        go_roundw
        case rel =>
          refine ⟨k + 1, by omega, by go_num, hb.trans (hb2.mono hb.size), hid (fun j a hj ha => ?_)⟩
          by_cases ej : j = k
          · subst ej; rw [HE.out] at ha; obtain rfl := Option.some.inj ha; exact hq
          · exact HA.out j a (by omega) ha
        case measure => simp [intOf]; omega
      · rw [hq] at HF
        go_wp2_with fail
        refine HF.out.mono ?_
        rintro e2 w2 ⟨rfl, hb2⟩
        go_wp2
        go_ret
        exact ret_int (by rw [find_some HE.out hq HA.out]; rfl) (hb.trans (hb2.mono hb.size))
    · have HV := hid (find_none (x := x) (q := q) fun j a hj => HA.out j a (by omega))
      clear hao hf
      go_wp2
      go_ret
      exact ret_int (by rw [HV.out]; rfl) hb
set_option maxHeartbeats 400000 in
theorem containsR_any (c : FuncId) (cs : Array Value) (q : XInt64S → Bool) (v : Value) (x : XInt64SS) (w : World) (h : RowsI w v x) (ok : x.length ≤ 1048576) (hen : Enters c)
    (hf : ∀ (k : Nat) (e : XInt64S) (sa : Option Addr) (sc : Nat) (w' : World), x[k]? = some e → Below w.heap.size w w' → Arr eI w' (.slice sa e.length sc) e → Calls Tryz.prog c (#[.slice sa e.length sc] ++ cs) w' (Ret (.bool (q e)) w')) :
    Calls Tryz.prog 56 #[v, .func (.func c) #[] cs] w (Ret (.bool (x.any q)) w) := by
  have HF := hid hf
  have HN := hid hen
  clear hf hen
  rw [← pos_any]
  go_enter Tryz.func56, Tryz.ntmps56
  go_wp2_with (go_at_call 79; refine (indexR_any _ _ _ _ _ _ h ok HN.out HF.out).mono ?_; rintro e w' ⟨rfl, hb⟩)
  go_ret
  exact ret_bool rfl hb
end Go.Proofs.YtbgjojnjbplblaaGreatDoor
