/- slices.IndexFunc, slices.ContainsFunc over whatever closure. Written by clogen.py. -/
import Derived.Test.YtdifhnckhocmdabGreatWrPcp
import Derived.Test.YtdifhnckhocmdabGreatWrSmp
import Derived.Test.YtdifhnckhocmdabGreatClo
namespace Go.Proofs.YtdifhnckhocmdabGreat
open Go.RowKit

set_option maxHeartbeats 1000000 in
theorem indexI_any (c : FuncId) (cs : Array Value) (q : Int → Bool) (v : Value) (x : XInt64S) (w : World) (h : Arr eI w v x) (ok : x.length ≤ 1048576) (hen : Enters c)
    (hf : ∀ (k : Nat) (e : Int) (w' : World), x[k]? = some e → Below w.heap.size w w' → Calls Tryz.prog c (#[.int .i64 e] ++ cs) w' (Ret (.bool (q e)) w')) :
    Calls Tryz.prog 96 #[v, .func (.func c) #[] cs] w (Ret (.int .i64 (posOf (x.findIdx? q))) w) := by
  obtain ⟨b, off, ao, cap, rfl, hnc, hcm, hao, hc⟩ := h
  unfold maxLen at hcm
  go_enter Tryz.func96, Tryz.ntmps96
  go_wp2
  go_loopw [5, 8] (fun _ i wr => ∃ k : Nat, k ≤ x.length ∧ i = .int .i64 k ∧ Below w.heap.size w wr ∧ Hid (∀ j a, j < k → x[j]? = some a → q a = false)) (fun _ i _ => x.length - (intOf i).toNat)
  case atStart => exact ⟨0, Nat.zero_le _, rfl, Below.refl _ _, hid (fun j e h => by omega)⟩
  case round =>
    obtain ⟨k, hk, rfl, hb, HA⟩ := hrel
    by_cases hlt : k < x.length
    · obtain ⟨hao', hbw⟩ := hao (by omega)
      subst hao'
      obtain ⟨e, he⟩ : ∃ e, x[k]? = some e := ⟨_, List.getElem?_eq_getElem hlt⟩
      have c0 := eI_cell (hc.below hb hbw) he
      have hli : (k : Int) < (x.length : Int) := by omega
      have HE := hid he
      have HF := hid (hf k e wr he hb)
      clear he hao hf
      have hcf : ∀ (args : Array Value) (w : World), (callFunc c args).run Tryz.prog w = .ok (.enter c args) w := hen
      cases hq : q e
      · rw [hq] at HF
        go_wp2_with fail
        refine HF.out.mono ?_
        rintro e2 w2 ⟨rfl, hb2⟩
        go_wp2
        go_roundw
        case rel =>
          refine ⟨k + 1, by omega, by go_num, hb.trans (hb2.mono hb.size), hid (fun j a hj ha => ?_)⟩
          by_cases ej : j = k
          · subst ej; rw [HE.out] at ha; obtain rfl := Option.some.inj ha; exact hq
          · exact HA.out j a (by omega) ha
        case measure => simp [intOf]; omega
      · rw [hq] at HF
        go_wp2_with fail
        refine HF.out.mono ?_
        rintro e2 w2 ⟨rfl, hb2⟩
        go_wp2
        go_ret
        exact ret_int (by rw [find_some HE.out hq HA.out]; rfl) (hb.trans (hb2.mono hb.size))
    · have HV := hid (find_none (x := x) (q := q) fun j a hj => HA.out j a (by omega))
      clear hao hf
      go_wp2
      go_ret
      exact ret_int (by rw [HV.out]; rfl) hb
set_option maxHeartbeats 400000 in
theorem containsI_any (c : FuncId) (cs : Array Value) (q : Int → Bool) (v : Value) (x : XInt64S) (w : World) (h : Arr eI w v x) (ok : x.length ≤ 1048576) (hen : Enters c)
    (hf : ∀ (k : Nat) (e : Int) (w' : World), x[k]? = some e → Below w.heap.size w w' → Calls Tryz.prog c (#[.int .i64 e] ++ cs) w' (Ret (.bool (q e)) w')) :
    Calls Tryz.prog 86 #[v, .func (.func c) #[] cs] w (Ret (.bool (x.any q)) w) := by
  have HF := hid hf
  have HN := hid hen
  clear hf hen
  rw [← pos_any]
  go_enter Tryz.func86, Tryz.ntmps86
  go_wp2_with (go_at_call 96; refine (indexI_any _ _ _ _ _ _ h ok HN.out HF.out).mono ?_; rintro e w' ⟨rfl, hb⟩)
  go_ret
  exact ret_bool rfl hb
set_option maxHeartbeats 1000000 in
theorem indexFt_any (c : FuncId) (cs : Array Value) (q : DFeat → Bool) (v : Value) (x : XFeatS) (w : World) (h : Arr eFeat w v x) (ok : x.length ≤ 1048576) (hen : Enters c)
    (hf : ∀ (k : Nat) (e : DFeat) (w' : World), x[k]? = some e → Below w.heap.size w w' → Calls Tryz.prog c (#[.agg #[.int .i64 e.x, .int .i64 e.y, .int .i64 e.d]] ++ cs) w' (Ret (.bool (q e)) w')) :
    Calls Tryz.prog 103 #[v, .func (.func c) #[] cs] w (Ret (.int .i64 (posOf (x.findIdx? q))) w) := by
  obtain ⟨b, off, ao, cap, rfl, hnc, hcm, hao, hc⟩ := h
  unfold maxLen at hcm
  go_enter Tryz.func103, Tryz.ntmps103
  go_wp2
  go_loopw [5, 8] (fun _ i wr => ∃ k : Nat, k ≤ x.length ∧ i = .int .i64 k ∧ Below w.heap.size w wr ∧ Hid (∀ j a, j < k → x[j]? = some a → q a = false)) (fun _ i _ => x.length - (intOf i).toNat)
  case atStart => exact ⟨0, Nat.zero_le _, rfl, Below.refl _ _, hid (fun j e h => by omega)⟩
  case round =>
    obtain ⟨k, hk, rfl, hb, HA⟩ := hrel
    by_cases hlt : k < x.length
    · obtain ⟨hao', hbw⟩ := hao (by omega)
      subst hao'
      obtain ⟨e, he⟩ : ∃ e, x[k]? = some e := ⟨_, List.getElem?_eq_getElem hlt⟩
      obtain ⟨c0, c1, c2⟩ := eFeat_cells (hc.below hb hbw) he
      have hli : (k : Int) < (x.length : Int) := by omega
      have HE := hid he
      have HF := hid (hf k e wr he hb)
      clear he hao hf
      have hcf : ∀ (args : Array Value) (w : World), (callFunc c args).run Tryz.prog w = .ok (.enter c args) w := hen
      cases hq : q e
      · rw [hq] at HF
        go_wp2_with fail
        refine HF.out.mono ?_
        rintro e2 w2 ⟨rfl, hb2⟩
        go_wp2
        go_roundw
        case rel =>
          refine ⟨k + 1, by omega, by go_num, hb.trans (hb2.mono hb.size), hid (fun j a hj ha => ?_)⟩
          by_cases ej : j = k
          · subst ej; rw [HE.out] at ha; obtain rfl := Option.some.inj ha; exact hq
          · exact HA.out j a (by omega) ha
        case measure => simp [intOf]; omega
      · rw [hq] at HF
        go_wp2_with fail
        refine HF.out.mono ?_
        rintro e2 w2 ⟨rfl, hb2⟩
        go_wp2
        go_ret
        exact ret_int (by rw [find_some HE.out hq HA.out]; rfl) (hb.trans (hb2.mono hb.size))
    · have HV := hid (find_none (x := x) (q := q) fun j a hj => HA.out j a (by omega))
      clear hao hf
      go_wp2
      go_ret
      exact ret_int (by rw [HV.out]; rfl) hb
set_option maxHeartbeats 400000 in
theorem containsFt_any (c : FuncId) (cs : Array Value) (q : DFeat → Bool) (v : Value) (x : XFeatS) (w : World) (h : Arr eFeat w v x) (ok : x.length ≤ 1048576) (hen : Enters c)
    (hf : ∀ (k : Nat) (e : DFeat) (w' : World), x[k]? = some e → Below w.heap.size w w' → Calls Tryz.prog c (#[.agg #[.int .i64 e.x, .int .i64 e.y, .int .i64 e.d]] ++ cs) w' (Ret (.bool (q e)) w')) :
    Calls Tryz.prog 98 #[v, .func (.func c) #[] cs] w (Ret (.bool (x.any q)) w) := by
  have HF := hid hf
  have HN := hid hen
  clear hf hen
  rw [← pos_any]
  go_enter Tryz.func98, Tryz.ntmps98
  go_wp2_with (go_at_call 103; refine (indexFt_any _ _ _ _ _ _ h ok HN.out HF.out).mono ?_; rintro e w' ⟨rfl, hb⟩)
  go_ret
  exact ret_bool rfl hb
set_option maxHeartbeats 1000000 in
theorem indexR_any (c : FuncId) (cs : Array Value) (q : XInt64S → Bool) (v : Value) (x : XInt64SS) (w : World) (h : RowsI w v x) (ok : x.length ≤ 1048576) (hen : Enters c)
    (hf : ∀ (k : Nat) (e : XInt64S) (sa : Option Addr) (sc : Nat) (w' : World), x[k]? = some e → Below w.heap.size w w' → Arr eI w' (.slice sa e.length sc) e → Calls Tryz.prog c (#[.slice sa e.length sc] ++ cs) w' (Ret (.bool (q e)) w')) :
    Calls Tryz.prog 85 #[v, .func (.func c) #[] cs] w (Ret (.int .i64 (posOf (x.findIdx? q))) w) := by
  obtain ⟨b, off, ao, cap, us, rfl, hnc, hcm, hao, hc, hul, hin⟩ := h.slice
  have HIN := hid hin
  have HUL := hid hul
  clear hin hul h
  unfold maxLen at hcm
  go_enter Tryz.func85, Tryz.ntmps85
  go_wp2
  go_loopw [5, 8] (fun _ i wr => ∃ k : Nat, k ≤ x.length ∧ i = .int .i64 k ∧ Below w.heap.size w wr ∧ Hid (∀ j a, j < k → x[j]? = some a → q a = false)) (fun _ i _ => x.length - (intOf i).toNat)
  case atStart => exact ⟨0, Nat.zero_le _, rfl, Below.refl _ _, hid (fun j e h => by omega)⟩
  case round =>
    obtain ⟨k, hk, rfl, hb, HA⟩ := hrel
    by_cases hlt : k < x.length
    · obtain ⟨hao', hbw⟩ := hao (by omega)
      subst hao'
      obtain ⟨e, he⟩ : ∃ e, x[k]? = some e := ⟨_, List.getElem?_eq_getElem hlt⟩
      obtain ⟨s, hsv⟩ : ∃ s, us[k]? = some s := ⟨_, List.getElem?_eq_getElem (by rw [HUL.out]; exact hlt)⟩
      have c0 := eS1_cells (hc.below hb hbw) hsv
      have hA := (HIN.out k s e hsv he).below hb
      obtain ⟨sa, sc, hsl⟩ := hA.isSlice
      rw [hsl] at hA
      have hsl2 : Value.slice s.a s.n s.c = .slice sa e.length sc := hsl
      rw [hsl2] at c0
      have HA2 := hid hA
      clear hsl hsl2 hsv hA
      have hli : (k : Int) < (x.length : Int) := by omega
      have HE := hid he
      have HF := hid (hf k e sa sc wr he hb HA2.out)
      clear he hao hf
      have hcf : ∀ (args : Array Value) (w : World), (callFunc c args).run Tryz.prog w = .ok (.enter c args) w := hen
      cases hq : q e
      · rw [hq] at HF
        go_wp2_with fail
        refine HF.out.mono ?_
        rintro e2 w2 ⟨rfl, hb2⟩
        go_wp2
        go_roundw
        case rel =>
          refine ⟨k + 1, by omega, by go_num, hb.trans (hb2.mono hb.size), hid (fun j a hj ha => ?_)⟩
          by_cases ej : j = k
          · subst ej; rw [HE.out] at ha; obtain rfl := Option.some.inj ha; exact hq
          · exact HA.out j a (by omega) ha
        case measure => simp [intOf]; omega
      · rw [hq] at HF
        go_wp2_with fail
        refine HF.out.mono ?_
        rintro e2 w2 ⟨rfl, hb2⟩
        go_wp2
        go_ret
        exact ret_int (by rw [find_some HE.out hq HA.out]; rfl) (hb.trans (hb2.mono hb.size))
    · have HV := hid (find_none (x := x) (q := q) fun j a hj => HA.out j a (by omega))
      clear hao hf
      go_wp2
      go_ret
      exact ret_int (by rw [HV.out]; rfl) hb
set_option maxHeartbeats 400000 in
theorem containsR_any (c : FuncId) (cs : Array Value) (q : XInt64S → Bool) (v : Value) (x : XInt64SS) (w : World) (h : RowsI w v x) (ok : x.length ≤ 1048576) (hen : Enters c)
    (hf : ∀ (k : Nat) (e : XInt64S) (sa : Option Addr) (sc : Nat) (w' : World), x[k]? = some e → Below w.heap.size w w' → Arr eI w' (.slice sa e.length sc) e → Calls Tryz.prog c (#[.slice sa e.length sc] ++ cs) w' (Ret (.bool (q e)) w')) :
    Calls Tryz.prog 71 #[v, .func (.func c) #[] cs] w (Ret (.bool (x.any q)) w) := by
  have HF := hid hf
  have HN := hid hen
  clear hf hen
  rw [← pos_any]
  go_enter Tryz.func71, Tryz.ntmps71
  go_wp2_with (go_at_call 85; refine (indexR_any _ _ _ _ _ _ h ok HN.out HF.out).mono ?_; rintro e w' ⟨rfl, hb⟩)
  go_ret
  exact ret_bool rfl hb
set_option maxHeartbeats 1000000 in
theorem indexSm_any (c : FuncId) (cs : Array Value) (q : XSample → Bool) (v : Value) (x : XSampleS) (w : World) (h : Smps w v x) (ok : x.length ≤ 1048576) (hen : Enters c)
    (hf : ∀ (k : Nat) (e : XSample) (sa : Option Addr) (sc : Nat) (w' : World), x[k]? = some e → Below w.heap.size w w' → Arr eFeat w' (.slice sa e.2.length sc) e.2 → Calls Tryz.prog c (#[.agg #[.string e.1, .slice sa e.2.length sc]] ++ cs) w' (Ret (.bool (q e)) w')) :
    Calls Tryz.prog 74 #[v, .func (.func c) #[] cs] w (Ret (.int .i64 (posOf (x.findIdx? q))) w) := by
  have HSM := hid h
  obtain ⟨b, off, ao, cap, es, rfl, hnc, hcm, hao, hc, hul, hin⟩ := h.slice
  clear hin hul h hc
  unfold maxLen at hcm
  go_enter Tryz.func74, Tryz.ntmps74
  go_wp2
  go_loopw [5, 8] (fun _ i wr => ∃ k : Nat, k ≤ x.length ∧ i = .int .i64 k ∧ Below w.heap.size w wr ∧ Hid (∀ j a, j < k → x[j]? = some a → q a = false)) (fun _ i _ => x.length - (intOf i).toNat)
  case atStart => exact ⟨0, Nat.zero_le _, rfl, Below.refl _ _, hid (fun j e h => by omega)⟩
  case round =>
    obtain ⟨k, hk, rfl, hb, HA⟩ := hrel
    by_cases hlt : k < x.length
    · obtain ⟨hao', hbw⟩ := hao (by omega)
      subst hao'
      obtain ⟨e, he⟩ : ∃ e, x[k]? = some e := ⟨_, List.getElem?_eq_getElem hlt⟩
      obtain ⟨b2, off2, cap2, sa, sc, hsl, _, _, c0, c1, hA⟩ := (HSM.out.below hb).get he
      simp only [Value.slice.injEq, Option.some.injEq, Addr.mk.injEq] at hsl
      obtain ⟨⟨rfl, rfl, _⟩, _, rfl⟩ := hsl
      have HA2 := hid hA
      clear hA
      have hli : (k : Int) < (x.length : Int) := by omega
      have HE := hid he
      have HF := hid (hf k e sa sc wr he hb HA2.out)
      clear he hao hf
      have hcf : ∀ (args : Array Value) (w : World), (callFunc c args).run Tryz.prog w = .ok (.enter c args) w := hen
      cases hq : q e
      · rw [hq] at HF
        go_wp2_with fail
        refine HF.out.mono ?_
        rintro e2 w2 ⟨rfl, hb2⟩
        go_wp2
        go_roundw
        case rel =>
          refine ⟨k + 1, by omega, by go_num, hb.trans (hb2.mono hb.size), hid (fun j a hj ha => ?_)⟩
          by_cases ej : j = k
          · subst ej; rw [HE.out] at ha; obtain rfl := Option.some.inj ha; exact hq
          · exact HA.out j a (by omega) ha
        case measure => simp [intOf]; omega
      · rw [hq] at HF
        go_wp2_with fail
        refine HF.out.mono ?_
        rintro e2 w2 ⟨rfl, hb2⟩
        go_wp2
        go_ret
        exact ret_int (by rw [find_some HE.out hq HA.out]; rfl) (hb.trans (hb2.mono hb.size))
    · have HV := hid (find_none (x := x) (q := q) fun j a hj => HA.out j a (by omega))
      clear hao hf
      go_wp2
      go_ret
      exact ret_int (by rw [HV.out]; rfl) hb
set_option maxHeartbeats 400000 in
theorem containsSm_any (c : FuncId) (cs : Array Value) (q : XSample → Bool) (v : Value) (x : XSampleS) (w : World) (h : Smps w v x) (ok : x.length ≤ 1048576) (hen : Enters c)
    (hf : ∀ (k : Nat) (e : XSample) (sa : Option Addr) (sc : Nat) (w' : World), x[k]? = some e → Below w.heap.size w w' → Arr eFeat w' (.slice sa e.2.length sc) e.2 → Calls Tryz.prog c (#[.agg #[.string e.1, .slice sa e.2.length sc]] ++ cs) w' (Ret (.bool (q e)) w')) :
    Calls Tryz.prog 53 #[v, .func (.func c) #[] cs] w (Ret (.bool (x.any q)) w) := by
  have HF := hid hf
  have HN := hid hen
  clear hf hen
  rw [← pos_any]
  go_enter Tryz.func53, Tryz.ntmps53
  go_wp2_with (go_at_call 74; refine (indexSm_any _ _ _ _ _ _ h ok HN.out HF.out).mono ?_; rintro e w' ⟨rfl, hb⟩)
  go_ret
  exact ret_bool rfl hb
end Go.Proofs.YtdifhnckhocmdabGreat
