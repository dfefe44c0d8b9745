/- The perceptron: what its functions compute. Plain lemmas, no program. -/
import Derived.Test.YtlnoelbeaolikaaGreatK06
import Derived.Test.YtlnoelbeaolikaaGreatK02
import Derived.Test.YtlnoelbeaolikaaGreatRows
import Derived.Test.YtlnoelbeaolikaaGreatK00
import Derived.Test.YtlnoelbeaolikaaGreatK03
import Derived.Test.YtlnoelbeaolikaaGreatK04
import Derived.Test.YtlnoelbeaolikaaGreatK05
import Derived.Deep.Cut
import Derived.Test.YtlnoelbeaolikaaGreatK16
import Derived.Test.YtlnoelbeaolikaaGreatK14
namespace Go.Proofs.YtlnoelbeaolikaaGreat
def featOk (f : DFeat) : Bool := inB f.x 0 255 && inB f.y 0 255 && inB f.d 0 7
/-! ### scores -/
/-! ### the greatest -/
end Go.Proofs.YtlnoelbeaolikaaGreat
namespace Go.Proofs.YtlnoelbeaolikaaGreat
open Go.RowKit
/-- a function with a Go body is entered -/
def Enters (c : FuncId) : Prop := ∀ (args : Array Value) (w : World), (callFunc c args).run Tryz.prog w = .ok (.enter c args) w
theorem enters_of {f : FuncId} {fn : Func} {c : Code} (hf : Tryz.prog.funcs[f]? = some fn) (hname : (fn.name == "runtime.NumGoroutine") = false) (hb : fn.body = some c) : Enters f := by
 intro args w
 have h1 : fn.name ≠ "runtime.NumGoroutine" := by simpa using hname
 simp [callFunc, hf, h1, hb]
def posOf (o : Option Nat) : Int := match o with
 | none => -1
 | some k => k
theorem find_some {α : Type} {x : List α} {q : α → Bool} {k : Nat} {e : α} (h : x[k]? = some e) (he : q e = true) (hj : ∀ j a, j < k → x[j]? = some a → q a = false) : x.findIdx? q = some k := by
 obtain ⟨hk, hx⟩ := List.getElem?_eq_some_iff.1 h
 rw [List.findIdx?_eq_some_iff_getElem]
 refine ⟨hk, by rw [hx]; exact he, fun j hjk => ?_⟩
 simp [hj j x[j] hjk (List.getElem?_eq_getElem _)]
theorem find_none {α : Type} {x : List α} {q : α → Bool} (hj : ∀ j a, j < x.length → x[j]? = some a → q a = false) : x.findIdx? q = none := by
 rw [List.findIdx?_eq_none_iff]
 intro e he
 obtain ⟨j, h⟩ := List.mem_iff_getElem?.1 he
 exact hj j e (List.getElem?_eq_some_iff.1 h).1 h
theorem pos_any {α : Type} (x : List α) (q : α → Bool) : decide (0 ≤ posOf (x.findIdx? q)) = x.any q := by
 cases h : x.findIdx? q with
 | none =>
  rw [List.findIdx?_eq_none_iff] at h
  have : x.any q = false := by rw [List.any_eq_false]; simpa using h
  rw [this]; simp [posOf]
 | some k =>
  rw [List.findIdx?_eq_some_iff_getElem] at h
  obtain ⟨hk, h1, _⟩ := h
  have : x.any q = true := List.any_eq_true.2 ⟨x[k], List.getElem_mem hk, h1⟩
  rw [this]; simp [posOf]
end Go.Proofs.YtlnoelbeaolikaaGreat
namespace Go.Proofs.YtlnoelbeaolikaaGreat
open Go.RowKit
set_option maxHeartbeats 1000000 in
theorem indexFt_any (c : FuncId) (cs : Array Value) (q : DFeat → Bool) (v : Value) (x : XFeatS) (w : World) (h : Arr eFeat w v x) (ok : x.length ≤ 1048576) (hen : Enters c)
  (hf : ∀ (k : Nat) (e : DFeat) (w' : World), x[k]? = some e → Below w.heap.size w w' → Calls Tryz.prog c (#[.agg #[.int .i64 e.x, .int .i64 e.y, .int .i64 e.d]] ++ cs) w' (Ret (.bool (q e)) w')) :
  Calls Tryz.prog 215 #[v, .func (.func c) #[] cs] w (Ret (.int .i64 (posOf (x.findIdx? q))) w) := by
 obtain ⟨b, off, ao, cap, rfl, hnc, hcm, hao, hc⟩ := h
 unfold maxLen at hcm
 go_enter Tryz.func215, Tryz.ntmps215
 go_wp2
 go_loopw [5, 8] (fun _ i wr => ∃ k : Nat, k ≤ x.length ∧ i = .int .i64 k ∧ Below w.heap.size w wr ∧ Hid (∀ j a, j < k → x[j]? = some a → q a = false)) (fun _ i _ => x.length - (intOf i).toNat)
 case atStart => exact ⟨0, Nat.zero_le _, rfl, Below.refl _ _, hid (fun j e h => by omega)⟩
 case round =>
  obtain ⟨k, hk, rfl, hb, HA⟩ := hrel
  by_cases hlt : k < x.length
  ·obtain ⟨hao', hbw⟩ := hao (by omega)
   subst hao'
   obtain ⟨e, he⟩ : ∃ e, x[k]? = some e := ⟨_, List.getElem?_eq_getElem hlt⟩
   obtain ⟨c0, c1, c2⟩ := eFeat_cells (hc.below hb hbw) he
   have hli : (k : Int) < (x.length : Int) := by omega
   have HE := hid he
   have HF := hid (hf k e wr he hb)
   clear he hao hf
   have hcf : ∀ (args : Array Value) (w : World), (callFunc c args).run Tryz.prog w = .ok (.enter c args) w := hen
   cases hq : q e
   ·rw [hq] at HF
    go_wp2_with fail
    refine HF.out.mono ?_
    rintro e2 w2 ⟨rfl, hb2⟩
    go_wp2
    go_roundw
    case rel =>
     refine ⟨k + 1, by omega, by go_num, hb.trans (hb2.mono hb.size), hid (fun j a hj ha => ?_)⟩
     by_cases ej : j = k
     ·subst ej; rw [HE.out] at ha; obtain rfl := Option.some.inj ha; exact hq
     ·exact HA.out j a (by omega) ha
    case measure => simp [intOf]; omega
   ·rw [hq] at HF
    go_wp2_with fail
    refine HF.out.mono ?_
    rintro e2 w2 ⟨rfl, hb2⟩
    go_wp2
    go_ret
    exact ret_int (by rw [find_some HE.out hq HA.out]; rfl) (hb.trans (hb2.mono hb.size))
  ·have HV := hid (find_none (x := x) (q := q) fun j a hj => HA.out j a (by omega))
   clear hao hf
   go_wp2
   go_ret
   exact ret_int (by rw [HV.out]; rfl) hb
set_option maxHeartbeats 400000 in
theorem containsFt_any (c : FuncId) (cs : Array Value) (q : DFeat → Bool) (v : Value) (x : XFeatS) (w : World) (h : Arr eFeat w v x) (ok : x.length ≤ 1048576) (hen : Enters c)
  (hf : ∀ (k : Nat) (e : DFeat) (w' : World), x[k]? = some e → Below w.heap.size w w' → Calls Tryz.prog c (#[.agg #[.int .i64 e.x, .int .i64 e.y, .int .i64 e.d]] ++ cs) w' (Ret (.bool (q e)) w')) :
  Calls Tryz.prog 189 #[v, .func (.func c) #[] cs] w (Ret (.bool (x.any q)) w) := by
 have HF := hid hf
 have HN := hid hen
 clear hf hen
 rw [← pos_any]
 go_enter Tryz.func189, Tryz.ntmps189
 go_wp2_with (go_at_call 215; refine (indexFt_any _ _ _ _ _ _ h ok HN.out HF.out).mono ?_; rintro e w' ⟨rfl, hb⟩)
 go_ret
 exact ret_bool rfl hb
set_option maxHeartbeats 1000000 in
theorem indexTm_any (c : FuncId) (cs : Array Value) (q : XTemplate → Bool) (v : Value) (x : XTemplateS) (w : World) (h : Tmps w v x) (ok : x.length ≤ 1048576) (hen : Enters c)
  (hf : ∀ (k : Nat) (e : XTemplate) (sa : Option Addr) (sc : Nat) (w' : World), x[k]? = some e → Below w.heap.size w w' → Arr eFeat w' (.slice sa e.2.length sc) e.2 → Calls Tryz.prog c (#[.agg #[.string e.1, .slice sa e.2.length sc]] ++ cs) w' (Ret (.bool (q e)) w')) :
  Calls Tryz.prog 101 #[v, .func (.func c) #[] cs] w (Ret (.int .i64 (posOf (x.findIdx? q))) w) := by
 have HSM := hid h
 obtain ⟨b, off, ao, cap, es, rfl, hnc, hcm, hao, hc, hul, hin⟩ := h.slice
 clear hin hul h hc
 unfold maxLen at hcm
 go_enter Tryz.func101, Tryz.ntmps101
 go_wp2
 go_loopw [5, 8] (fun _ i wr => ∃ k : Nat, k ≤ x.length ∧ i = .int .i64 k ∧ Below w.heap.size w wr ∧ Hid (∀ j a, j < k → x[j]? = some a → q a = false)) (fun _ i _ => x.length - (intOf i).toNat)
 case atStart => exact ⟨0, Nat.zero_le _, rfl, Below.refl _ _, hid (fun j e h => by omega)⟩
 case round =>
  obtain ⟨k, hk, rfl, hb, HA⟩ := hrel
  by_cases hlt : k < x.length
  ·obtain ⟨hao', hbw⟩ := hao (by omega)
   subst hao'
   obtain ⟨e, he⟩ : ∃ e, x[k]? = some e := ⟨_, List.getElem?_eq_getElem hlt⟩
   obtain ⟨b2, off2, cap2, sa, sc, hsl, _, _, c0, c1, hA⟩ := (HSM.out.below hb).get he
   simp only [Value.slice.injEq, Option.some.injEq, Addr.mk.injEq] at hsl
   obtain ⟨⟨rfl, rfl, _⟩, _, rfl⟩ := hsl
   have HA2 := hid hA
   clear hA
   have hli : (k : Int) < (x.length : Int) := by omega
   have HE := hid he
   have HF := hid (hf k e sa sc wr he hb HA2.out)
   clear he hao hf
   have hcf : ∀ (args : Array Value) (w : World), (callFunc c args).run Tryz.prog w = .ok (.enter c args) w := hen
   cases hq : q e
   ·rw [hq] at HF
    go_wp2_with fail
    refine HF.out.mono ?_
    rintro e2 w2 ⟨rfl, hb2⟩
    go_wp2
    go_roundw
    case rel =>
     refine ⟨k + 1, by omega, by go_num, hb.trans (hb2.mono hb.size), hid (fun j a hj ha => ?_)⟩
     by_cases ej : j = k
     ·subst ej; rw [HE.out] at ha; obtain rfl := Option.some.inj ha; exact hq
     ·exact HA.out j a (by omega) ha
    case measure => simp [intOf]; omega
   ·rw [hq] at HF
    go_wp2_with fail
    refine HF.out.mono ?_
    rintro e2 w2 ⟨rfl, hb2⟩
    go_wp2
    go_ret
    exact ret_int (by rw [find_some HE.out hq HA.out]; rfl) (hb.trans (hb2.mono hb.size))
  ·have HV := hid (find_none (x := x) (q := q) fun j a hj => HA.out j a (by omega))
   clear hao hf
   go_wp2
   go_ret
   exact ret_int (by rw [HV.out]; rfl) hb
set_option maxHeartbeats 400000 in
theorem containsTm_any (c : FuncId) (cs : Array Value) (q : XTemplate → Bool) (v : Value) (x : XTemplateS) (w : World) (h : Tmps w v x) (ok : x.length ≤ 1048576) (hen : Enters c)
  (hf : ∀ (k : Nat) (e : XTemplate) (sa : Option Addr) (sc : Nat) (w' : World), x[k]? = some e → Below w.heap.size w w' → Arr eFeat w' (.slice sa e.2.length sc) e.2 → Calls Tryz.prog c (#[.agg #[.string e.1, .slice sa e.2.length sc]] ++ cs) w' (Ret (.bool (q e)) w')) :
  Calls Tryz.prog 63 #[v, .func (.func c) #[] cs] w (Ret (.bool (x.any q)) w) := by
 have HF := hid hf
 have HN := hid hen
 clear hf hen
 rw [← pos_any]
 go_enter Tryz.func63, Tryz.ntmps63
 go_wp2_with (go_at_call 101; refine (indexTm_any _ _ _ _ _ _ h ok HN.out HF.out).mono ?_; rintro e w' ⟨rfl, hb⟩)
 go_ret
 exact ret_bool rfl hb
end Go.Proofs.YtlnoelbeaolikaaGreat
namespace Go.Proofs.YtlnoelbeaolikaaGreat
open Go.RowKit
def seqOk (l : List DFeat) : Bool := l.all featOk && inB l.length 1 72
def tmpOk (t : XTemplate) : Bool := isLabelB t.1 && seqOk t.2
def validStore (x : XStore) : Bool := inB x.1 0 72 && (decide (x.2.length ≤ 40) && x.2.all tmpOk)
theorem seqOk_len {l : List DFeat} (h : seqOk l = true) : 1 ≤ l.length ∧ l.length ≤ 72 := by
 unfold seqOk at h
 rw [Bool.and_eq_true] at h
 have := inB_true.1 h.2
 omega
set_option maxHeartbeats 1000000 in
theorem l09Feat_any (p : DFeat) (w : World) : Calls Tryz.prog 137 #[.agg #[.int .i64 p.x, .int .i64 p.y, .int .i64 p.d]] w (Ret (.bool (featOk p)) w) := by
 cases h1 : inB p.x 0 255
 ·have HV := hid (show featOk p = false by simp [featOk, h1])
  have H1 : ∀ w', Calls Tryz.prog 53 #[.int .i64 p.x, .int .i64 0, .int .i64 255] w' fun e w'' => e = .returned (.bool false) ∧ w' = w'' := fun w' => h1 ▸ l00In_any _ _ _ w'
  clear h1
  go_enter Tryz.func137, Tryz.ntmps137
  go_wp2_with fail
  refine (H1 _).mono ?_
  rintro e w' ⟨rfl, rfl⟩
  go_wp2
  go_ret
  exact ret_bool HV.out.symm (below_alloc _ _)
 have H1 : ∀ w', Calls Tryz.prog 53 #[.int .i64 p.x, .int .i64 0, .int .i64 255] w' fun e w'' => e = .returned (.bool true) ∧ w' = w'' := fun w' => h1 ▸ l00In_any _ _ _ w'
 cases h2 : inB p.y 0 255
 ·have HV := hid (show featOk p = false by simp [featOk, h2])
  have H2 : ∀ w', Calls Tryz.prog 53 #[.int .i64 p.y, .int .i64 0, .int .i64 255] w' fun e w'' => e = .returned (.bool false) ∧ w' = w'' := fun w' => h2 ▸ l00In_any _ _ _ w'
  clear h1 h2
  go_enter Tryz.func137, Tryz.ntmps137
  go_wp2_with fail
  refine (H1 _).mono ?_
  rintro e w' ⟨rfl, rfl⟩
  go_wp2_with fail
  refine (H2 _).mono ?_
  rintro e w' ⟨rfl, rfl⟩
  go_wp2
  go_ret
  exact ret_bool HV.out.symm (below_alloc _ _)
 have H2 : ∀ w', Calls Tryz.prog 53 #[.int .i64 p.y, .int .i64 0, .int .i64 255] w' fun e w'' => e = .returned (.bool true) ∧ w' = w'' := fun w' => h2 ▸ l00In_any _ _ _ w'
 have HV := hid (show featOk p = inB p.d 0 7 by simp [featOk, h1, h2])
 clear h1 h2
 go_enter Tryz.func137, Tryz.ntmps137
 go_wp2_with fail
 refine (H1 _).mono ?_
 rintro e w' ⟨rfl, rfl⟩
 go_wp2_with fail
 refine (H2 _).mono ?_
 rintro e w' ⟨rfl, rfl⟩
 go_wp2_with fail
 refine (l00In_any _ _ _ _).mono ?_
 rintro e w' ⟨rfl, rfl⟩
 go_wp2
 go_ret
 exact ret_bool HV.out.symm (below_alloc _ _)
set_option maxHeartbeats 1000000 in
theorem validFeat_any (p : DFeat) (w : World) : Calls Tryz.prog 191 #[.agg #[.int .i64 p.x, .int .i64 p.y, .int .i64 p.d]] w (Ret (.bool (featOk p)) w) := by
 cases h1 : inB p.x 0 255
 ·have HV := hid (show featOk p = false by simp [featOk, h1])
  have H1 : ∀ w', Calls Tryz.prog 62 #[.int .i64 p.x, .int .i64 0, .int .i64 255] w' fun e w'' => e = .returned (.bool false) ∧ w' = w'' := fun w' => h1 ▸ within_any _ _ _ w'
  clear h1
  go_enter Tryz.func191, Tryz.ntmps191
  go_wp2_with fail
  refine (H1 _).mono ?_
  rintro e w' ⟨rfl, rfl⟩
  go_wp2
  go_ret
  exact ret_bool HV.out.symm (below_alloc _ _)
 have H1 : ∀ w', Calls Tryz.prog 62 #[.int .i64 p.x, .int .i64 0, .int .i64 255] w' fun e w'' => e = .returned (.bool true) ∧ w' = w'' := fun w' => h1 ▸ within_any _ _ _ w'
 cases h2 : inB p.y 0 255
 ·have HV := hid (show featOk p = false by simp [featOk, h2])
  have H2 : ∀ w', Calls Tryz.prog 62 #[.int .i64 p.y, .int .i64 0, .int .i64 255] w' fun e w'' => e = .returned (.bool false) ∧ w' = w'' := fun w' => h2 ▸ within_any _ _ _ w'
  clear h1 h2
  go_enter Tryz.func191, Tryz.ntmps191
  go_wp2_with fail
  refine (H1 _).mono ?_
  rintro e w' ⟨rfl, rfl⟩
  go_wp2_with fail
  refine (H2 _).mono ?_
  rintro e w' ⟨rfl, rfl⟩
  go_wp2
  go_ret
  exact ret_bool HV.out.symm (below_alloc _ _)
 have H2 : ∀ w', Calls Tryz.prog 62 #[.int .i64 p.y, .int .i64 0, .int .i64 255] w' fun e w'' => e = .returned (.bool true) ∧ w' = w'' := fun w' => h2 ▸ within_any _ _ _ w'
 have HV := hid (show featOk p = inB p.d 0 7 by simp [featOk, h1, h2])
 clear h1 h2
 go_enter Tryz.func191, Tryz.ntmps191
 go_wp2_with fail
 refine (H1 _).mono ?_
 rintro e w' ⟨rfl, rfl⟩
 go_wp2_with fail
 refine (H2 _).mono ?_
 rintro e w' ⟨rfl, rfl⟩
 go_wp2_with fail
 refine (within_any _ _ _ _).mono ?_
 rintro e w' ⟨rfl, rfl⟩
 go_wp2
 go_ret
 exact ret_bool HV.out.symm (below_alloc _ _)
theorem seqOk_at {x : List DFeat} {k : Nat} {e : DFeat} (h : x[k]? = some e) (hb : featOk e = false) : seqOk x = false := by
 rw [seqOk, Bool.and_eq_false_iff]
 exact .inl (List.all_eq_false.2 ⟨e, List.mem_of_getElem? h, by rw [hb]; exact Bool.false_ne_true⟩)
theorem seqOk_all {x : List DFeat} (h : ∀ k e, k < x.length → x[k]? = some e → featOk e = true) : seqOk x = inB x.length 1 72 := by
 have : x.all featOk = true := by
  rw [List.all_eq_true]
  intro e he
  obtain ⟨k, hk⟩ := List.mem_iff_getElem?.1 he
  exact h k e (List.getElem?_eq_some_iff.1 hk).1 hk
 rw [seqOk, this, Bool.true_and]
set_option maxHeartbeats 2000000 in
theorem l09Ok_any (v : Value) (x : XFeatS) (w : World) (h : Arr eFeat w v x) (ok : okFeatS x) :
  Calls Tryz.prog 91 #[v] w (Ret (.bool (seqOk x)) w) := by
 obtain ⟨b, off, ao, cap, rfl, hnc, hcm, hao, hc⟩ := h
 unfold maxLen at hcm
 have ok' : x.length ≤ 1048576 := ok
 go_enter Tryz.func91, Tryz.ntmps91
 go_wp2
 go_loopw [3] (fun i wr => ∃ k : Nat, k ≤ x.length ∧ i = .int .i64 k ∧ Below w.heap.size w wr ∧ Hid (∀ j e, j < k → x[j]? = some e → featOk e = true)) (fun i _ => x.length - (intOf i).toNat)
 case atStart => exact ⟨0, Nat.zero_le _, rfl, Below.refl _ _, hid (fun j e h => by omega)⟩
 case round =>
  obtain ⟨k, hk, rfl, hb, HA⟩ := hrel
  by_cases hlt : k < x.length
  ·obtain ⟨hao', hbw⟩ := hao (by omega)
   subst hao'
   obtain ⟨e, he⟩ : ∃ e, x[k]? = some e := ⟨_, List.getElem?_eq_getElem hlt⟩
   obtain ⟨c0, c1, c2⟩ := eFeat_cells (hc.below hb hbw) he
   have hli : (k : Int) < (x.length : Int) := by omega
   have HE := hid he
   have HF := fun w' => l09Feat_any e w'
   cases hf : featOk e
   ·rw [hf] at HF
    clear he hao
    go_wp2_with (go_at_call 137; refine (HF _).mono ?_; rintro e w' ⟨rfl, hb2⟩)
    go_ret
    exact ret_bool (seqOk_at HE.out hf).symm (hb.trans (hb2.mono hb.size))
   ·rw [hf] at HF
    clear he hao
    go_wp2_with (go_at_call 137; refine (HF _).mono ?_; rintro e w' ⟨rfl, hb2⟩)
    go_roundw
    case rel =>
     refine ⟨k + 1, by omega, by go_num, hb.trans (hb2.mono hb.size), hid (fun j e' hj he' => ?_)⟩
     by_cases ej : j = k
     ·subst ej; rw [HE.out] at he'; obtain rfl := Option.some.inj he'; exact hf
     ·exact HA.out j e' (by omega) he'
    case measure => simp [intOf]; omega
  ·have hkd : ¬ ((k : Int) < (x.length : Int)) := by omega
   obtain rfl : k = x.length := by omega
   have HZ := hid (seqOk_all HA.out)
   have HI := fun w' => l00In_any (x.length : Int) 1 72 w'
   go_wp2_with (go_at_call 53; refine (HI _).mono ?_; rintro e w' ⟨rfl, rfl⟩)
   go_ret
   exact ret_bool HZ.out.symm hb
theorem areFeatsClo_any (e : DFeat) (w : World) : Calls Tryz.prog 190 #[.agg #[.int .i64 e.x, .int .i64 e.y, .int .i64 e.d]] w (Ret (.bool (!featOk e)) w) := by
 go_enter Tryz.func190, Tryz.ntmps190
 go_wp2_with fail
 refine (validFeat_any e _).mono ?_
 rintro e w' ⟨rfl, hb⟩
 go_wp2
 go_ret
 exact ret_bool rfl ((below_alloc _ _).trans (hb.mono (by simp)))
theorem all_any2 {α : Type} (l : List α) (p : α → Bool) : (!l.any fun a => !p a) = l.all p := by
 rw [← List.not_all_eq_any_not, Bool.not_not]
set_option maxHeartbeats 1000000 in
theorem areFeats_any (v : Value) (x : XFeatS) (w : World) (h : Arr eFeat w v x) (ok : okFeatS x) :
  Calls Tryz.prog 149 #[v, .int .i64 72] w (Ret (.bool (seqOk x)) w) := by
 obtain ⟨sa, sc, hv⟩ := h.isSlice
 subst hv
 have ok' : x.length ≤ 1048576 := ok
 have CC := containsFt_any 190 #[] (fun e => !featOk e) _ x w h ok' (enters_of Tryz.func190 (by kernel_rfl) rfl) (fun k e w' _ _ => areFeatsClo_any e w')
 by_cases h1 : 1 ≤ x.length
 ·have d1 : decide ((1 : Int) ≤ (x.length : Int)) = true := by simp; omega
  by_cases h2 : x.length ≤ 72
  ·have d2 : decide ((x.length : Int) ≤ 72) = true := by simp; omega
   have HZ : Hid ((!x.any fun e => !featOk e) = seqOk x) := hid (by rw [all_any2, seqOk, inB_true.2 ⟨by omega, by omega⟩, Bool.and_true])
   generalize (x.any fun e => !featOk e) = bb at CC HZ
   clear h1 h2
   go_enter Tryz.func149, Tryz.ntmps149
   go_wp2_with (go_at_call 189; refine CC.mono ?_; rintro e w' ⟨rfl, hb⟩)
   go_ret
   exact ret_bool HZ.out hb
  ·have d2 : decide ((x.length : Int) ≤ 72) = false := by simp; omega
   have HZ : Hid (seqOk x = false) := hid (by rw [seqOk, Bool.and_eq_false_iff]; refine .inr ?_; rw [← Bool.not_eq_true, inB_true]; omega)
   clear h1 h2 CC
   go_enter Tryz.func149, Tryz.ntmps149
   go_wp2
   go_ret
   exact ret_bool HZ.out.symm (Below.refl _ _)
 ·have d1 : decide ((1 : Int) ≤ (x.length : Int)) = false := by simp; omega
  have HZ : Hid (seqOk x = false) := hid (by rw [seqOk, Bool.and_eq_false_iff]; refine .inr ?_; rw [← Bool.not_eq_true, inB_true]; omega)
  clear h1 CC
  go_enter Tryz.func149, Tryz.ntmps149
  go_wp2
  go_ret
  exact ret_bool HZ.out.symm (Below.refl _ _)
theorem validSeq_any (v : Value) (x : XFeatS) (w : World) (h : Arr eFeat w v x) (ok : okFeatS x) :
  Calls Tryz.prog 103 #[v] w (Ret (.bool (seqOk x)) w) := by
 go_enter Tryz.func103, Tryz.ntmps103
 go_wp2_with (go_at_call 149; refine (areFeats_any _ x _ h ok).mono ?_; rintro e w' ⟨rfl, hb⟩)
 go_ret
 exact ret_bool rfl hb
set_option maxHeartbeats 1000000 in
theorem l11Template_any (p o : Nat) (x : XTemplate) (sa : Option Addr) (sc : Nat) (w : World) (c0 : w.cell? ⟨p, o, none⟩ = some (.string x.1)) (c1 : w.cell? ⟨p, o + 1, none⟩ = some (.slice sa x.2.length sc)) (h : Arr eFeat w (.slice sa x.2.length sc) x.2) (ok : okFeatS x.2) (hg : x.1.size ≤ maxLen) :
  Calls Tryz.prog 52 #[.pointer (some ⟨p, o, none⟩)] w (Ret (.bool (tmpOk x)) w) := by
 have hg' : x.1.size ≤ 9223372036854775807 := by unfold maxLen at hg; omega
 have CI := fun w' => specIsLabel_any x.1 w' hg'
 have CO := l09Ok_any _ x.2 w h ok
 cases h1 : isLabelB x.1
 ·have HV := hid (show tmpOk x = false by simp [tmpOk, h1])
  rw [h1] at CI
  clear h1
  go_enter Tryz.func52, Tryz.ntmps52
  go_wp2_with fail
  refine (CI _).mono ?_
  rintro e w' ⟨rfl, rfl⟩
  go_wp2_with fail
  go_ret
  exact ret_bool HV.out.symm (Below.refl _ _)
 ·have HV := hid (show tmpOk x = seqOk x.2 by simp [tmpOk, h1])
  rw [h1] at CI
  clear h1
  go_enter Tryz.func52, Tryz.ntmps52
  go_wp2_with fail
  refine (CI _).mono ?_
  rintro e w' ⟨rfl, rfl⟩
  go_wp2_with fail
  refine CO.mono ?_
  rintro e w2 ⟨rfl, hb⟩
  go_wp2_with fail
  go_ret
  exact ret_bool HV.out.symm hb
set_option maxHeartbeats 1000000 in
theorem validTemplate_any (x : XTemplate) (sa : Option Addr) (sc : Nat) (w : World) (h : Arr eFeat w (.slice sa x.2.length sc) x.2) (ok : okFeatS x.2) (hg : x.1.size ≤ maxLen) :
  Calls Tryz.prog 65 #[.agg #[.string x.1, .slice sa x.2.length sc]] w (Ret (.bool (tmpOk x)) w) := by
 have hg' : x.1.size ≤ 9223372036854775807 := by unfold maxLen at hg; omega
 have CI := fun w' => implIsLabel_any x.1 w' hg'
 have CO := fun o => validSeq_any _ x.2 (w.alloc o) (h.alloc o) ok
 cases h1 : isLabelB x.1
 ·have HV := hid (show tmpOk x = false by simp [tmpOk, h1])
  rw [h1] at CI
  clear h1
  go_enter Tryz.func65, Tryz.ntmps65
  go_wp2_with fail
  refine (CI _).mono ?_
  rintro e w' ⟨rfl, rfl⟩
  go_wp2_with fail
  go_ret
  exact ret_bool HV.out.symm (below_alloc _ _)
 ·have HV := hid (show tmpOk x = seqOk x.2 by simp [tmpOk, h1])
  rw [h1] at CI
  clear h1
  go_enter Tryz.func65, Tryz.ntmps65
  go_wp2_with fail
  refine (CI _).mono ?_
  rintro e w' ⟨rfl, rfl⟩
  go_wp2_with fail
  refine (CO _).mono ?_
  rintro e w2 ⟨rfl, hb⟩
  go_wp2_with fail
  go_ret
  exact ret_bool HV.out.symm ((below_alloc _ _).trans (hb.mono (by simp)))
set_option maxHeartbeats 1000000 in
theorem validStoreClo_any (x : XTemplate) (sa : Option Addr) (sc : Nat) (w : World) (h : Arr eFeat w (.slice sa x.2.length sc) x.2) (ok : okFeatS x.2) (hg : x.1.size ≤ maxLen) :
  Calls Tryz.prog 64 #[.agg #[.string x.1, .slice sa x.2.length sc]] w (Ret (.bool (!tmpOk x)) w) := by
 have CO := fun o => validTemplate_any x sa sc (w.alloc o) (h.alloc o) ok hg
 go_enter Tryz.func64, Tryz.ntmps64
 go_wp2_with fail
 refine (CO _).mono ?_
 rintro e w2 ⟨rfl, hb⟩
 go_wp2_with fail
 go_ret
 exact ret_bool rfl ((below_alloc _ _).trans (hb.mono (by simp)))
theorem tmps_arr {w : World} {u : Value} {X : XTemplateS} (h : Tmps w u X) : ∃ sa sc, u = .slice sa X.length sc := by
 obtain ⟨_, _, ao, cap, _, rfl, _⟩ := h.slice
 exact ⟨_, _, rfl⟩
theorem okTemplate_feats {X : XTemplateS} (ok : okTemplateS X) {k : Nat} {x : XTemplate} (hx : X[k]? = some x) : okFeatS x.2 := okTemplateS_st ok hx
set_option maxRecDepth 100000 in
set_option maxHeartbeats 1000000 in
theorem implValidStore_any (v : Value) (x : XStore) (w : World) (h : Tmps w v x.2) (ok : okStore x) (hg : goodStore x) :
  Calls Tryz.prog 32 #[.agg #[.int .i64 x.1, v]] w (Ret (.bool (validStore x)) w) := by
 obtain ⟨sa, sc, rfl⟩ := tmps_arr h
 have CW := fun w' => within_any x.1 0 72 w'
 have hl : x.2.length ≤ 1048576 := by have := ok; unfold okStore okTemplateS at this; omega
 have CC := fun o => containsTm_any 64 #[] (fun e => !tmpOk e) (.slice sa x.2.length sc) x.2 (w.alloc o) (h.alloc o) hl (enters_of Tryz.func64 (by kernel_rfl) rfl)
  (fun k e sa sc w' he hb hA => validStoreClo_any e sa sc w' hA (okTemplate_feats ok he) (hg e (List.mem_of_getElem? he)).1)
 cases h1 : inB x.1 0 72
 ·have HV := hid (show validStore x = false by simp [validStore, h1])
  rw [h1] at CW
  clear h1
  go_enter Tryz.func32, Tryz.ntmps32
  go_wp2_with fail
  refine (CW _).mono ?_
  rintro e w' ⟨rfl, rfl⟩
  go_wp2_with fail
  go_ret
  exact ret_bool HV.out.symm (below_alloc _ _)
 rw [h1] at CW
 by_cases h2 : x.2.length ≤ 40
 ·have h2i : (x.2.length : Int) ≤ 40 := by omega
  have HV := hid (show (!x.2.any fun e => !tmpOk e) = validStore x by rw [all_any2]; simp [validStore, h1, h2])
  generalize (x.2.any fun e => !tmpOk e) = bb at CC HV
  clear h1
  go_enter Tryz.func32, Tryz.ntmps32
  go_wp2_with fail
  refine (CW _).mono ?_
  rintro e w' ⟨rfl, rfl⟩
  go_wp2_with fail
  refine (CC _).mono ?_
  rintro e w2 ⟨rfl, hb⟩
  go_wp2_with fail
  go_ret
  exact ret_bool HV.out ((below_alloc _ _).trans (hb.mono (by simp)))
 ·have h2i : ¬ ((x.2.length : Int) ≤ 40) := by omega
  have HV := hid (show validStore x = false by simp [validStore, h2])
  clear h1 CC
  go_enter Tryz.func32, Tryz.ntmps32
  go_wp2_with fail
  refine (CW _).mono ?_
  rintro e w' ⟨rfl, rfl⟩
  go_wp2_with fail
  go_ret
  exact ret_bool HV.out.symm (below_alloc _ _)
set_option maxRecDepth 100000 in
set_option maxHeartbeats 2000000 in
theorem l11Ok_any (p : Nat) (v : Value) (x : XStore) (w : World) (c0 : w.cell? ⟨p, 0, none⟩ = some (.int .i64 x.1)) (c1 : w.cell? ⟨p, 1, none⟩ = some v) (h : Tmps w v x.2) (ok : okStore x) (hg : goodStore x) :
  Calls Tryz.prog 26 #[.pointer (some ⟨p, 0, none⟩)] w (Ret (.bool (validStore x)) w) := by
 obtain ⟨sa, sc, rfl⟩ := tmps_arr h
 have hl : x.2.length ≤ 1048576 := by have := ok; unfold okStore okTemplateS at this; omega
 have HS := hid h
 clear h
 go_enter Tryz.func26, Tryz.ntmps26
 go_wp2_with fail
 go_loopw [3] (fun i wr => ∃ k : Nat, k ≤ x.2.length ∧ i = .int .i64 k ∧ Below w.heap.size w wr ∧ Hid (∀ j e, j < k → x.2[j]? = some e → tmpOk e = true)) (fun i _ => x.2.length - (intOf i).toNat)
 case atStart => exact ⟨0, Nat.zero_le _, rfl, Below.refl _ _, hid (fun j e h => by omega)⟩
 case round =>
  obtain ⟨k, hk, rfl, hb, HA⟩ := hrel
  have d0 := cell_later hb c0
  have d1 := cell_later hb c1
  by_cases hlt : k < x.2.length
  ·have hli : (k : Int) < (x.2.length : Int) := by omega
   obtain ⟨e, he⟩ : ∃ e, x.2[k]? = some e := ⟨_, List.getElem?_eq_getElem hlt⟩
   obtain ⟨b2, off2, cap2, sb, sd, hsl, _, _, f0, f1, hA⟩ := (HS.out.below hb).get he
   simp only [Value.slice.injEq] at hsl
   obtain ⟨rfl, _, rfl⟩ := hsl
   have CT := l11Template_any b2 (off2 + k * 2) e sb sd wr f0 f1 hA (okTemplate_feats ok he) (hg e (List.mem_of_getElem? he)).1
   have HE := hid he
   cases hq : tmpOk e
   ·have HV := hid (show validStore x = false by
     have : x.2.all tmpOk = false := List.all_eq_false.2 ⟨e, List.mem_of_getElem? he, by rw [hq]; exact Bool.false_ne_true⟩
     simp [validStore, this])
    rw [hq] at CT
    clear he hA f0 f1 hq
    go_wp2_with fail
    refine CT.mono ?_
    rintro e2 w2 ⟨rfl, hb2⟩
    go_wp2_with fail
    go_ret
    exact ret_bool HV.out.symm (hb.trans (hb2.mono hb.size))
   ·rw [hq] at CT
    have HQ := hid hq
    clear he hA f0 f1 hq
    go_wp2_with fail
    refine CT.mono ?_
    rintro e2 w2 ⟨rfl, hb2⟩
    go_wp2_with fail
    go_roundw
    case rel =>
     refine ⟨k + 1, by omega, by go_num, hb.trans (hb2.mono hb.size), hid (fun j a hj ha => ?_)⟩
     by_cases ej : j = k
     ·subst ej; rw [HE.out] at ha; obtain rfl := Option.some.inj ha; exact HQ.out
     ·exact HA.out j a (by omega) ha
    case measure => simp [intOf]; omega
  ·have hli : ¬ ((k : Int) < (x.2.length : Int)) := by omega
   have hall : x.2.all tmpOk = true := by
    rw [List.all_eq_true]
    intro e he
    obtain ⟨j, hj⟩ := List.mem_iff_getElem?.1 he
    exact HA.out j e (by have := (List.getElem?_eq_some_iff.1 hj).1; omega) hj
   have CW := fun w' => l00In_any x.1 0 72 w'
   cases h1 : inB x.1 0 72
   ·have HV := hid (show validStore x = false by simp [validStore, h1])
    rw [h1] at CW
    clear h1 hall
    go_wp2_with fail
    refine (CW _).mono ?_
    rintro e w' ⟨rfl, rfl⟩
    go_wp2_with fail
    go_ret
    exact ret_bool HV.out.symm hb
   rw [h1] at CW
   by_cases h2 : x.2.length ≤ 40
   ·have h2i : (x.2.length : Int) ≤ 40 := by omega
    have HV := hid (show validStore x = true by simp only [validStore, h1, hall, decide_eq_true h2]; rfl)
    clear h1 hall
    go_wp2_with fail
    refine (CW _).mono ?_
    rintro e w' ⟨rfl, rfl⟩
    go_wp2_with fail
    go_ret
    exact ret_bool HV.out.symm hb
   ·have h2i : ¬ ((x.2.length : Int) ≤ 40) := by omega
    have HV := hid (show validStore x = false by simp [validStore, h2])
    clear h1 hall
    go_wp2_with fail
    refine (CW _).mono ?_
    rintro e w' ⟨rfl, rfl⟩
    go_wp2_with fail
    go_ret
    exact ret_bool (by rw [HV.out]; exact decide_eq_false (by omega)) hb
end Go.Proofs.YtlnoelbeaolikaaGreat
namespace Go.Proofs.YtlnoelbeaolikaaGreat
open Go.RowKit
structure DMatch where
 ix : Int
 cost : Int
def eMatch : Enc DMatch := ⟨fun p => [.int .i64 p.ix, .int .i64 p.cost], 2, fun _ => rfl, by decide, fun x u hu => by simp at hu; rcases hu with rfl | rfl <;> rfl⟩
theorem eMatch_cells {w : World} {b off : Nat} {es : List DMatch} (h : Cells eMatch w b off es) {k : Nat} {x : DMatch} (hx : es[k]? = some x) :
  w.cell? ⟨b, off + k * 2, none⟩ = some (.int .i64 x.ix) ∧ w.cell? ⟨b, off + k * 2 + 1, none⟩ = some (.int .i64 x.cost) := ⟨h k x hx 0 _ rfl, h k x hx 1 _ rfl⟩
theorem infMatch : (Tryz.prog.info? 120).map (fun i => (i.zero, i.size, i.bytes)) = some (some (.agg #[.int .i64 0, .int .i64 0]), eMatch.sz, 16) := by kernel_rfl
/-- the matches of the first k templates -/
def matTo (X : XTemplateS) (F : List DFeat) (r : Nat) : Nat → List DMatch
 | 0 => []
 | k + 1 => if inBd r F.length ((X[k]?).getD (⟨#[]⟩, [])).2.length then matTo X F r k ++ [⟨k, elasF 1000000000 F ((X[k]?).getD (⟨#[]⟩, [])).2 r⟩] else matTo X F r k
theorem matTo_t {X : XTemplateS} {F : List DFeat} {r k : Nat} {x : XTemplate} (hx : X[k]? = some x) (h : inBd r F.length x.2.length) : matTo X F r k ++ [⟨k, elasF 1000000000 F x.2 r⟩] = matTo X F r (k + 1) := by
 show _ = if _ then _ else _
 rw [hx]
 exact (if_pos h).symm
theorem matTo_f {X : XTemplateS} {F : List DFeat} {r k : Nat} {x : XTemplate} (hx : X[k]? = some x) (h : ¬ inBd r F.length x.2.length) : matTo X F r k = matTo X F r (k + 1) := by
 show _ = if _ then _ else _
 rw [hx]
 exact (if_neg h).symm
theorem matTo_len (X : XTemplateS) (F : List DFeat) (r : Nat) : ∀ k, (matTo X F r k).length ≤ k
 | 0 => by simp [matTo]
 | k + 1 => by
  show (if _ then _ else _ : List DMatch).length ≤ _
  have ih := matTo_len X F r k
  split
  ·rw [List.length_append]; simp; omega
  ·omega
theorem featOk_okF {f : DFeat} (h : featOk f = true) : okF f := by
 unfold featOk at h
 rw [Bool.and_eq_true, Bool.and_eq_true] at h
 have h1 := inB_true.1 h.1.1
 have h2 := inB_true.1 h.1.2
 have h3 := inB_true.1 h.2
 exact ⟨by omega, by omega, by omega, by omega, by omega, by omega⟩
theorem seqOk_okF {l : List DFeat} (h : seqOk l = true) : ∀ f ∈ l, okF f := fun f hf => by
 unfold seqOk at h
 rw [Bool.and_eq_true, List.all_eq_true] at h
 exact featOk_okF (h.1 f hf)
theorem validStore_t {x : XStore} (h : validStore x = true) {k : Nat} {t : XTemplate} (ht : x.2[k]? = some t) : isLabelB t.1 = true ∧ seqOk t.2 = true := by
 unfold validStore at h
 rw [Bool.and_eq_true, Bool.and_eq_true, List.all_eq_true] at h
 have := h.2.2 t (List.mem_of_getElem? ht)
 unfold tmpOk at this
 rw [Bool.and_eq_true] at this
 exact this
theorem validStore_bd {x : XStore} (h : validStore x = true) : 0 ≤ x.1 ∧ x.1 ≤ 72 ∧ x.2.length ≤ 40 := by
 unfold validStore at h
 rw [Bool.and_eq_true, Bool.and_eq_true] at h
 have h1 := inB_true.1 h.1
 have h2 := of_decide_eq_true h.2.1
 exact ⟨h1.1, h1.2, h2⟩
theorem mat_bd {x : XStore} (hv : validStore x = true) {F : List DFeat} (hF : ∀ f ∈ F, okF f) (h1 : 1 ≤ F.length) (h2 : F.length ≤ 72) {r : Nat} : ∀ k, k ≤ x.2.length → ∀ m ∈ matTo x.2 F r k, ∃ i : Nat, m.ix = i ∧ i < x.2.length ∧ 0 ≤ m.cost ∧ m.cost ≤ 1000000000
 | 0, _ => fun m hm => by simp [matTo] at hm
 | k + 1, hk => fun m hm => by
  obtain ⟨t, ht⟩ : ∃ t, x.2[k]? = some t := ⟨_, List.getElem?_eq_getElem (by omega)⟩
  have ih := mat_bd hv hF h1 h2 (r := r) k (by omega)
  by_cases hin : inBd r F.length t.2.length
  ·rw [← matTo_t ht hin] at hm
   rcases List.mem_append.1 hm with h | h
   ·exact ih m h
   ·simp only [List.mem_singleton] at h
    subst h
    have hs := (validStore_t hv ht).2
    have hl := seqOk_len hs
    have := elas_same hF (seqOk_okF hs) h1 h2 hl.1 hl.2 hin
    exact ⟨k, rfl, by omega, this.2⟩
  ·rw [← matTo_f ht hin] at hm
   exact ih m hm
theorem band_abs {r n m : Nat} : (absI ((n : Int) - (m : Int)) ≤ (r : Int)) ↔ inBd r n m := by
 have := @inBd_abs r n m
 constructor
 ·intro h
  by_cases hc : inBd r n m
  ·exact hc
  ·have := this.2 hc; omega
 ·intro h
  by_cases hc : (r : Int) < absI ((n : Int) - (m : Int))
  ·exact absurd h (this.1 hc)
  ·omega
set_option maxHeartbeats 1000000 in
theorem isBand_any (r n m : Nat) (w : World) (hr : r ≤ 72) (hn : n ≤ 1048576) (hm : m ≤ 1048576) : Calls Tryz.prog 107 #[.int .i64 r, .int .i64 n, .int .i64 m] w fun e w' => e = .returned (.bool (decide (inBd r n m))) ∧ w = w' := by
 have CW := fun w' => within_any (r : Int) 0 72 w'
 rw [inB_true.2 (show (0 : Int) ≤ (r : Int) ∧ (r : Int) ≤ 72 by omega)] at CW
 have CA := fun w' => implAbs_any ((n : Int) - (m : Int)) w' (by omega) (by omega)
 have HB := hid (@band_abs r n m)
 generalize absI ((n : Int) - (m : Int)) = D at CA HB
 go_enter Tryz.func107, Tryz.ntmps107
 go_wp2_with fail
 refine (CW _).mono ?_
 rintro e w' ⟨rfl, rfl⟩
 go_wp2_with fail
 refine (CA _).mono ?_
 rintro e w' ⟨rfl, rfl⟩
 go_wp2_with fail
 go_ret
 exact ⟨by rw [show decide (D ≤ (r : Int)) = decide (inBd r n m) from decide_eq_decide.2 HB.out]; rfl, rfl⟩
set_option maxHeartbeats 1000000 in
theorem l10Band_any (r n m : Nat) (w : World) (hr : r ≤ 72) (hn : n ≤ 1048576) (hm : m ≤ 1048576) : Calls Tryz.prog 138 #[.int .i64 n, .int .i64 m, .int .i64 r] w fun e w' => e = .returned (.bool (decide (inBd r n m))) ∧ w = w' := by
 have CW := fun w' => l00In_any (r : Int) 0 72 w'
 rw [inB_true.2 (show (0 : Int) ≤ (r : Int) ∧ (r : Int) ≤ 72 by omega)] at CW
 have CA := fun w' => l09Size_any ((n : Int) - (m : Int)) w' (by omega) (by omega)
 have HB := hid (@band_abs r n m)
 generalize absI ((n : Int) - (m : Int)) = D at CA HB
 go_enter Tryz.func138, Tryz.ntmps138
 go_wp2_with fail
 refine (CW _).mono ?_
 rintro e w' ⟨rfl, rfl⟩
 go_wp2_with fail
 refine (CA _).mono ?_
 rintro e w' ⟨rfl, rfl⟩
 go_wp2_with fail
 go_ret
 exact ⟨by rw [show decide (D ≤ (r : Int)) = decide (inBd r n m) from decide_eq_decide.2 HB.out]; rfl, rfl⟩
set_option maxHeartbeats 1000000 in
theorem l10In_any (sa sb : Option Addr) (sc sd : Nat) (r n m : Nat) (w : World) (hr : r ≤ 72) (hn : n ≤ 1048576) (hm : m ≤ 1048576) : Calls Tryz.prog 93 #[.slice sa n sc, .slice sb m sd, .int .i64 r] w fun e w' => e = .returned (.bool (decide (inBd r n m))) ∧ w = w' := by
 have CB := fun w' => l10Band_any r n m w' hr hn hm
 generalize decide (inBd r n m) = bb at CB
 go_enter Tryz.func93, Tryz.ntmps93
 go_wp2_with fail
 refine (CB _).mono ?_
 rintro e w' ⟨rfl, rfl⟩
 go_wp2_with fail
 go_ret
 exact ⟨rfl, rfl⟩
set_option maxRecDepth 100000 in
set_option maxHeartbeats 4000000 in
theorem matchesOf_any (v u : Value) (x : XStore) (F : List DFeat) (w : World) (h : Tmps w v x.2) (hF : Arr eFeat w u F) (hv : validStore x = true) (oF : ∀ f ∈ F, okF f) (f1 : 1 ≤ F.length) (f2 : F.length ≤ 72) :
  Calls Tryz.prog 70 #[.agg #[.int .i64 x.1, v], u] w (RetOwn eMatch 120 (matTo x.2 F x.1.toNat x.2.length) w) := by
 obtain ⟨hs1, hs2, hs3⟩ := validStore_bd hv
 obtain ⟨va, vc, rfl⟩ := tmps_arr h
 obtain ⟨fa, fc, rfl⟩ := hF.isSlice
 obtain ⟨x1, X⟩ := x
 simp only at hs1 hs2 hs3 h ⊢
 obtain ⟨r, rfl⟩ : ∃ r : Nat, x1 = r := ⟨x1.toNat, by omega⟩
 rw [Int.toNat_natCast]
 have hr : r ≤ 72 := by omega
 have HV := hid (fun (k : Nat) (t : XTemplate) (ht : X[k]? = some t) => (validStore_t hv ht).2)
 have HTM := hid h
 clear hv h
 obtain ⟨W, hW⟩ : ∃ u, u = (w.alloc (.cells #[.int .i64 r, .slice va X.length vc] 37)) := ⟨_, rfl⟩
 have hbW : Below w.heap.size w W := by rw [hW]; exact belowA1 _ _
 have q1 : Box W (w.heap.size) #[.int .i64 r, .slice va X.length vc] 37 := by
  have hq := Box.new w #[.int .i64 r, .slice va X.length vc] 37
  rw [hW]
  exact hq
 obtain ⟨p1, hp1⟩ : ∃ p, p = w.heap.size := ⟨_, rfl⟩
 rw [← hp1] at q1
 have hge1 : w.heap.size ≤ p1 := by omega
 have hlW : w.heap.size ≤ W.heap.size := hbW.size
 have hlp1 : p1 < W.heap.size := q1.lt
 have HP1 := hid hp1
 have HW := hid hW
 clear hW hp1
 have m0 := q1.cell (j := 0) rfl
 have m1 := q1.cell (j := 1) rfl
 have hFW := hF.below hbW
 obtain ⟨w3, hw3⟩ : ∃ u, u = W := ⟨_, rfl⟩
 have hb3 : Below W.heap.size W w3 := by rw [hw3]; exact Below.refl _ _
 have ho3 : Own eMatch 120 W.heap.size w3 (.slice none 0 0) (matTo X F r 0) := Own.nil _ _ _
 go_enter Tryz.func70, Tryz.ntmps70
 go_upto_region 1 with fail
 rw [← HP1.out, ← HW.out]
 go_upto_region 3 with fail
 rw [← hw3]
 clear hw3
 go_loopw [5, 11] (fun u i wr => ∃ k : Nat, k ≤ X.length ∧ i = .int .i64 k ∧ Own eMatch 120 W.heap.size wr u (matTo X F r k) ∧ Below W.heap.size W wr) (fun _ i _ => X.length - (intOf i).toNat)
 case atStart => exact ⟨0, Nat.zero_le _, rfl, ho3, hb3⟩
 case round =>
  clear ho3 hb3
  obtain ⟨w5, rfl⟩ : ∃ u, u = wr := ⟨wr, rfl⟩
  obtain ⟨k, hk, rfl, ho, hbl⟩ := hrel
  have hll := matTo_len X F r k
  have n0 := cell_later hbl m0
  have n1 := cell_later hbl m1
  by_cases hlt : k < X.length
  ·have hli : (k : Int) < (X.length : Int) := by omega
   obtain ⟨t, ht⟩ : ∃ t, X[k]? = some t := ⟨_, List.getElem?_eq_getElem hlt⟩
   have hbw5 := hbW.trans (hbl.mono hlW)
   obtain ⟨tb, toff, tc, sa, sc, hsl, _, _, d0, d1, hA⟩ := (HTM.out.below hbw5).get ht
   simp only [Value.slice.injEq] at hsl
   obtain ⟨rfl, _, rfl⟩ := hsl
   have hsq := HV.out k t ht
   obtain ⟨t1, t2⟩ := seqOk_len hsq
   have hF5 := hFW.below hbl
   have okt := seqOk_okF hsq
   have hls := hbl.size
   have HTt := hid (fun (h : inBd r F.length t.2.length) => matTo_t ht h)
   have HTf := hid (fun (h : ¬ inBd r F.length t.2.length) => matTo_f ht h)
   have HEL := hid (fun (h : inBd r F.length t.2.length) => elas_same oF okt f1 f2 t1 t2 h)
   obtain ⟨Z, hZ⟩ : ∃ Z, Z = matTo X F r k := ⟨_, rfl⟩
   rw [← hZ] at ho hll HTt HTf
   obtain ⟨n, hn⟩ : ∃ n, n = Z.length := ⟨_, rfl⟩
   rw [← hn] at hll
   obtain ⟨oa, oc, hu⟩ := ho.isSlice
   rw [← hn] at hu
   subst hu
   have HL := hid hn
   clear hZ hn ht hsq
   have CB := fun w' => isBand_any r F.length t.2.length w' hr (by omega) (by omega)
   go_upto_region 5 with fail
   obtain ⟨w6, hw6⟩ : ∃ u, u = w5.alloc (.cells #[.string t.1, .slice sa t.2.length sc] 106) := ⟨_, rfl⟩
   obtain ⟨pS, hpS⟩ : ∃ p, p = w5.heap.size := ⟨_, rfl⟩
   rw [← hw6, ← hpS]
   have hb6 : Below w5.heap.size w5 w6 := by rw [hw6]; exact below_alloc _ _
   have qS : Box w6 pS #[.string t.1, .slice sa t.2.length sc] 106 := by rw [hw6, hpS]; exact Box.new _ _ _
   have y0 := qS.cell (j := 0) rfl
   have y1 := qS.cell (j := 1) rfl
   have n0 := cell_later hb6 n0
   have n1 := cell_later hb6 n1
   have hbl6 := hbl.trans (hb6.mono hls)
   have hs6 := hbl6.size
   have ho6 := ho.below hb6
   clear hw6 hpS d0 d1 qS ho
   by_cases hin : inBd r F.length t.2.length
   ·rw [decide_eq_true hin] at CB
    have HT := hid (HTt.out hin)
    have CE := elastic_any _ _ F t.2 r w6 (hF5.below hb6) (hA.below hb6) oF okt f1 f2 t1 t2 hr
    rw [← (HEL.out hin).1] at CE
    obtain ⟨E, hE⟩ : ∃ E, E = elasF 1000000000 F t.2 r := ⟨_, rfl⟩
    rw [← hE] at CE HT
    clear hE hin
    go_wp2_with fail
    refine (CB _).mono ?_
    rintro e w' ⟨rfl, rfl⟩
    go_wp2_with fail
    refine CE.mono ?_
    rintro e w7 ⟨rfl, hb7⟩
    have hbl7 := hbl6.trans (hb7.mono hs6)
    have hs7 := hbl7.size
    have ho7 := ho6.below hb7
    go_wp2_with (at_builtin; (refine wpList_appA rfl _ _ 116 rfl W.heap.size 120 _ 16 infMatch Tryz.underlying116 rfl _ Z rfl (ho7.alloc _) _ [⟨k, E⟩] rfl (by exact arr_block1 (E := eMatch) (n := 1) [⟨k, E⟩] #[.int .i64 k, .int .i64 E] rfl rfl (by decide) (by simp)) (by rw [← HL.out]; unfold maxLen; simp <;> omega) (by rw [← HL.out]; simp <;> omega) (by simp <;> omega) ?_; intro v' wA hoA hbA htA))
    have hFF : Below W.heap.size W wA := (hbl7.alloc hs7 (.cells #[.int .i64 k, .int .i64 E] 120)).trans hbA
    go_wp2_with fail
    go_roundw
    case rel => exact ⟨k + 1, by omega, by go_num, by rw [← HT.out]; exact hoA, hFF⟩
    case measure => simp [intOf]; omega
   ·rw [decide_eq_false hin] at CB
    have HT := hid (HTf.out hin)
    clear hin
    go_wp2_with fail
    refine (CB _).mono ?_
    rintro e w' ⟨rfl, rfl⟩
    go_wp2_with fail
    go_roundw
    case rel => exact ⟨k + 1, by omega, by go_num, by rw [← HT.out]; exact ho6, hbl6⟩
    case measure => simp [intOf]; omega
  ·have hli : ¬ ((k : Int) < (X.length : Int)) := by omega
   have HE := hid (show k = X.length by omega)
   clear hll
   go_wp2_with fail
   go_ret
   exact ⟨_, rfl, by rw [HE.out] at ho; exact ho.mono hlW, hbW.trans (hbl.mono hlW)⟩
set_option maxRecDepth 100000 in
set_option maxHeartbeats 4000000 in
theorem l11Matches_any (p0 : Nat) (v u : Value) (x : XStore) (F : List DFeat) (w : World) (hp0 : w.cell? ⟨p0, 0, none⟩ = some (.int .i64 x.1)) (hp1 : w.cell? ⟨p0, 1, none⟩ = some v) (h : Tmps w v x.2) (hF : Arr eFeat w u F) (hv : validStore x = true) (oF : ∀ f ∈ F, okF f) (f1 : 1 ≤ F.length) (f2 : F.length ≤ 72) :
  Calls Tryz.prog 56 #[.pointer (some ⟨p0, 0, none⟩), u] w (RetOwn eMatch 120 (matTo x.2 F x.1.toNat x.2.length) w) := by
 obtain ⟨hs1, hs2, hs3⟩ := validStore_bd hv
 obtain ⟨va, vc, rfl⟩ := tmps_arr h
 obtain ⟨fa, fc, rfl⟩ := hF.isSlice
 obtain ⟨x1, X⟩ := x
 simp only at hs1 hs2 hs3 h hp0 hp1 ⊢
 obtain ⟨r, rfl⟩ : ∃ r : Nat, x1 = r := ⟨x1.toNat, by omega⟩
 rw [Int.toNat_natCast]
 have hr : r ≤ 72 := by omega
 have HV := hid (fun (k : Nat) (t : XTemplate) (ht : X[k]? = some t) => (validStore_t hv ht).2)
 have HTM := hid h
 clear hv h
 obtain ⟨W, hWd⟩ : ∃ W, W = w := ⟨_, rfl⟩
 have hbW : Below w.heap.size w W := by rw [hWd]; exact Below.refl _ _
 have hlW : w.heap.size ≤ W.heap.size := hbW.size
 have m0 : W.cell? ⟨p0, 0, none⟩ = some (.int .i64 r) := by rw [hWd]; exact hp0
 have m1 : W.cell? ⟨p0, 1, none⟩ = some (.slice va X.length vc) := by rw [hWd]; exact hp1
 have hFW := hF.below hbW
 have HWd := hid hWd
 clear hWd
 go_enter Tryz.func56, Tryz.ntmps56
 go_upto_region 1 with fail
 rw [← HWd.out]
 go_upto_region 3 with fail
 obtain ⟨w3, hw3⟩ : ∃ u, u = W.alloc (.cells #[] 120) := ⟨_, rfl⟩
 obtain ⟨pe, hpe⟩ : ∃ p, p = W.heap.size := ⟨_, rfl⟩
 have hb3 : Below W.heap.size W w3 := by rw [hw3]; exact below_alloc _ _
 have ho3 : Own eMatch 120 W.heap.size w3 (.slice (some ⟨pe, 0, none⟩) 0 0) (matTo X F r 0) := by rw [hw3, hpe]; exact Own.empty _ _ (Nat.le_refl _)
 rw [← hw3, ← hpe]
 clear hw3 hpe
 go_loopw [5, 6] (fun u i wr => ∃ k : Nat, k ≤ X.length ∧ i = .int .i64 k ∧ Own eMatch 120 W.heap.size wr u (matTo X F r k) ∧ Below W.heap.size W wr) (fun _ i _ => X.length - (intOf i).toNat)
 case atStart => exact ⟨0, Nat.zero_le _, rfl, ho3, hb3⟩
 case round =>
  clear ho3 hb3
  obtain ⟨w5, rfl⟩ : ∃ u, u = wr := ⟨wr, rfl⟩
  obtain ⟨k, hk, rfl, ho, hbl⟩ := hrel
  have hll := matTo_len X F r k
  have n0 := cell_later hbl m0
  have n1 := cell_later hbl m1
  by_cases hlt : k < X.length
  ·have hli : (k : Int) < (X.length : Int) := by omega
   obtain ⟨t, ht⟩ : ∃ t, X[k]? = some t := ⟨_, List.getElem?_eq_getElem hlt⟩
   have hbw5 := hbW.trans (hbl.mono hlW)
   obtain ⟨tb, toff, tc, sa, sc, hsl, _, _, d0, d1, hA⟩ := (HTM.out.below hbw5).get ht
   simp only [Value.slice.injEq] at hsl
   obtain ⟨rfl, _, rfl⟩ := hsl
   have hsq := HV.out k t ht
   obtain ⟨t1, t2⟩ := seqOk_len hsq
   have hF5 := hFW.below hbl
   have okt := seqOk_okF hsq
   have hls := hbl.size
   have HTt := hid (fun (h : inBd r F.length t.2.length) => matTo_t ht h)
   have HTf := hid (fun (h : ¬ inBd r F.length t.2.length) => matTo_f ht h)
   have HEL := hid (fun (h : inBd r F.length t.2.length) => elas_same oF okt f1 f2 t1 t2 h)
   obtain ⟨Z, hZ⟩ : ∃ Z, Z = matTo X F r k := ⟨_, rfl⟩
   rw [← hZ] at ho hll HTt HTf
   obtain ⟨n, hn⟩ : ∃ n, n = Z.length := ⟨_, rfl⟩
   rw [← hn] at hll
   obtain ⟨oa, oc, hu⟩ := ho.isSlice
   rw [← hn] at hu
   subst hu
   have HL := hid hn
   clear hZ hn ht hsq
   have CB := fun w' => l10In_any fa sa fc sc r F.length t.2.length w' hr (by omega) (by omega)
   have hbz := Below.refl w5.heap.size w5
   by_cases hin : inBd r F.length t.2.length
   ·rw [decide_eq_true hin] at CB
    have HT := hid (HTt.out hin)
    clear hin
    go_upto_region 5 with fail
    have x_n0 := ext_cell n0
    have x_n1 := ext_cell n1
    have x_d0 := ext_cell d0
    have x_d1 := ext_cell d1
    refine wp_region_ext (by kernel_rfl) (by kernel_rfl) ?_
    repeat (go_big_quiet_step ((go_at_call 93; exact same_ext (CB _))))
    refine wpQuiet_nil ?_
    intro _ hw'
    obtain ⟨nq, hw''⟩ := hw'
    subst hw''
    replace n0 := x_n0 nq
    replace n1 := x_n1 nq
    replace d0 := x_d0 nq
    replace d1 := x_d1 nq
    clear x_n0 x_n1 x_d0 x_d1
    replace hbz := hbz.trans ((ext_below _ nq).mono hbz.size)
    obtain ⟨w6, hw6⟩ : ∃ u, u = ext w5 nq := ⟨_, rfl⟩
    rw [← hw6] at hbz n0 n1 d0 d1 ⊢
    clear hw6
    have hbl6 := hbl.trans (hbz.mono hls)
    have hs6 := hbl6.size
    have ho6 := ho.below hbz
    have CE := fun w' (hb : Below w6.heap.size w6 w') => l09Least_any _ _ F t.2 r w' ((hF5.below hbz).below hb) ((hA.below hbz).below hb) oF okt f1 f2 t1 t2 hr
    obtain ⟨E, hE⟩ : ∃ E, E = elasF 1000000000 F t.2 r := ⟨_, rfl⟩
    rw [← hE] at CE HT
    clear hE ho CB
    go_upto_region 6 with fail
    refine wp_region_stgy 16 18 (fun c w' => match c with | 0 => Below w6.heap.size w6 w' | 1 => Below w6.heap.size w6 w' | _ => Below W.heap.size W w') (fun c i v w' => match i with
          | 0 => v = .slice oa n oc
          | 1 => v = .int .i64 k
          | 2 => v = .slice fa F.length fc
          | 3 => v = .pointer (some ⟨p0, 0, none⟩)
          | 4 => v = .pointer (some ⟨p0, 0, none⟩)
          | 5 => v = .pointer (some ⟨p0, 1, none⟩)
          | 6 => v = .slice (some ⟨tb, toff, none⟩) X.length vc
          | 7 => v = .int .i64 k
          | 8 => v = .pointer (some ⟨tb, toff + k * 2, none⟩)
          | 9 => v = .pointer (some ⟨tb, toff + k * 2 + 1, none⟩)
          | 10 => v = .slice sa t.2.length sc
          | 11 => v = .pointer (some ⟨p0, 0, none⟩)
          | 12 => v = .pointer (some ⟨p0, 0, none⟩)
          | 13 => v = .pointer (some ⟨p0, 0, none⟩)
          | 14 => v = .int .i64 r
          | 15 => v = .int .i64 E
          | 16 => (match c with | 0 => True | 1 => v = .agg #[.int .i64 k, .int .i64 E] | _ => v = .agg #[.int .i64 k, .int .i64 E])
          | 17 => (match c with | 0 => False | 1 => Arr eMatch w' v [⟨k, E⟩] | _ => True)
          | 18 => (match c with | 0 => True | 1 => True | _ => (Own eMatch 120 W.heap.size w' v (Z ++ [⟨k, E⟩])))
          | 19 => (match c with | 0 => False | 1 => False | _ => Own eMatch 120 W.heap.size w' v (Z ++ [⟨k, E⟩]))
          | _ => True) (by kernel_rfl) (by kernel_rfl) (by kernel_rfl) (by kernel_rfl) (by kernel_rfl) ?_ ?_ ?_ ?_ ?_ ?_ (by decide) ?_
    ·exact (Below.refl _ w6).drew
    ·intro c w w' h hb
     match c, h with
     | 0, h => exact Below.trans (B := w6.heap.size) h (hb.mono (Below.size h))
     | 1, h => exact Below.trans (B := w6.heap.size) h (hb.mono (Below.size h))
     | (k + 2), h => exact (h.trans (hb.mono h.size))
    ·intro c i v w w' h hb
     match i, h with
     | 0, h => exact h
     | 1, h => exact h
     | 2, h => exact h
     | 3, h => exact h
     | 4, h => exact h
     | 5, h => exact h
     | 6, h => exact h
     | 7, h => exact h
     | 8, h => exact h
     | 9, h => exact h
     | 10, h => exact h
     | 11, h => exact h
     | 12, h => exact h
     | 13, h => exact h
     | 14, h => exact h
     | 15, h => exact h
     | 16, h =>
      match c, h with
      | 0, h => exact trivial
      | 1, h => exact h
      | (k + 2), h => exact h
     | 17, h =>
      match c, h with
      | 0, h => exact h
      | 1, h => exact (h.below hb)
      | (k + 2), h => exact trivial
     | 18, h =>
      match c, h with
      | 0, h => exact trivial
      | 1, h => exact trivial
      | (k + 2), h => exact (h.below hb)
     | 19, h =>
      match c, h with
      | 0, h => exact h
      | 1, h => exact h
      | (k + 2), h => exact (h.below hb)
     | (k + 20), h => exact h
    ·refine ⟨?_, ?_, ?_, ?_, ?_, ?_, ?_, ?_, ?_, ?_, ?_, ?_, ?_, ?_, ?_, ?_, ?_, ?_, ?_, ?_, trivial⟩
     ·refine .inr (.inr ⟨fun _ => ?_, fun _ => ?_, can_no (by kernel_rfl)⟩)
      ·intro ρ w' hbw ht hcs hfn hgl hpr hdep G hG
       replace hbw : Below w6.heap.size w6 w' := hbw
       refine ⟨fun _ => ?_, fun h => by cases h⟩
       have s5 : ρ (.tmp 5) = .slice oa n oc := hpr 19 5 rfl (by kernel_rfl)
       clear ht hdep hgl hpr
       go_simp
       exact hG _ _ (Below.refl _ _) rfl
      ·intro ρ w' hbw ht hcs hfn hgl hpr hdep G hG
       replace hbw : Below w6.heap.size w6 w' := hbw
       refine ⟨fun _ => ?_, fun h => by cases h⟩
       have s5 : ρ (.tmp 5) = .slice oa n oc := hpr 19 5 rfl (by kernel_rfl)
       clear ht hdep hgl hpr
       go_simp
       exact hG _ _ (Below.refl _ _) rfl
     ·refine .inr (.inr ⟨fun _ => ?_, can_no (by kernel_rfl), can_no (by kernel_rfl)⟩)
      ·intro ρ w' hbw ht hcs hfn hgl hpr hdep G hG
       replace hbw : Below w6.heap.size w6 w' := hbw
       refine ⟨fun _ => ?_, fun h => by cases h⟩
       have s6 : ρ (.tmp 6) = .int .i64 k := ht 6 rfl
       clear ht hdep hgl hpr
       go_simp
       exact hG _ _ (Below.refl _ _) rfl
     ·refine .inr (.inr ⟨fun _ => ?_, can_no (by kernel_rfl), can_no (by kernel_rfl)⟩)
      ·intro ρ w' hbw ht hcs hfn hgl hpr hdep G hG
       replace hbw : Below w6.heap.size w6 w' := hbw
       refine ⟨fun _ => ?_, fun h => by cases h⟩
       have s1 : ρ (.tmp 1) = .slice fa F.length fc := ht 1 rfl
       clear ht hdep hgl hpr
       go_simp
       exact hG _ _ (Below.refl _ _) rfl
     ·refine .inr (.inr ⟨fun _ => ?_, can_no (by kernel_rfl), can_no (by kernel_rfl)⟩)
      ·intro ρ w' hbw ht hcs hfn hgl hpr hdep G hG
       replace hbw : Below w6.heap.size w6 w' := hbw
       refine ⟨fun _ => ?_, fun h => by cases h⟩
       have s0 : ρ (.tmp 0) = .pointer (some ⟨p0, 0, none⟩) := ht 0 rfl
       clear ht hdep hgl hpr
       go_simp
       exact hG _ _ (Below.refl _ _) rfl
     ·refine .inr (.inr ⟨fun _ => ?_, can_no (by kernel_rfl), can_no (by kernel_rfl)⟩)
      ·intro ρ w' hbw ht hcs hfn hgl hpr hdep G hG
       replace hbw : Below w6.heap.size w6 w' := hbw
       refine ⟨fun _ => ?_, fun h => by cases h⟩
       have s34 : ρ (.tmp 34) = .pointer (some ⟨p0, 0, none⟩) := hdep ⟨3, .data⟩ (by simp) rfl 34 rfl
       clear ht hdep hgl hpr
       go_simp
       exact hG _ _ (Below.refl _ _) rfl
     ·refine .inr (.inr ⟨fun _ => ?_, can_no (by kernel_rfl), can_no (by kernel_rfl)⟩)
      ·intro ρ w' hbw ht hcs hfn hgl hpr hdep G hG
       replace hbw : Below w6.heap.size w6 w' := hbw
       refine ⟨fun _ => ?_, fun h => by cases h⟩
       have s35 : ρ (.tmp 35) = .pointer (some ⟨p0, 0, none⟩) := hdep ⟨4, .data⟩ (by simp) rfl 35 rfl
       clear ht hdep hgl hpr
       go_simp
       exact hG _ _ (Below.refl _ _) rfl
     ·refine .inr (.inr ⟨fun _ => ?_, can_no (by kernel_rfl), can_no (by kernel_rfl)⟩)
      ·intro ρ w' hbw ht hcs hfn hgl hpr hdep G hG
       replace hbw : Below w6.heap.size w6 w' := hbw
       refine ⟨fun _ => ?_, fun h => by cases h⟩
       have s36 : ρ (.tmp 36) = .pointer (some ⟨p0, 1, none⟩) := hdep ⟨5, .data⟩ (by simp) rfl 36 rfl
       have n0 := cell_later hbw n0
       have n1 := cell_later hbw n1
       have d0 := cell_later hbw d0
       have d1 := cell_later hbw d1
       clear ht hdep hgl hpr
       go_simp
       exact hG _ _ (Below.refl _ _) rfl
     ·refine .inr (.inr ⟨fun _ => ?_, can_no (by kernel_rfl), can_no (by kernel_rfl)⟩)
      ·intro ρ w' hbw ht hcs hfn hgl hpr hdep G hG
       replace hbw : Below w6.heap.size w6 w' := hbw
       refine ⟨fun _ => ?_, fun h => by cases h⟩
       have s6 : ρ (.tmp 6) = .int .i64 k := ht 6 rfl
       clear ht hdep hgl hpr
       go_simp
       exact hG _ _ (Below.refl _ _) rfl
     ·refine .inr (.inr ⟨fun _ => ?_, can_no (by kernel_rfl), can_no (by kernel_rfl)⟩)
      ·intro ρ w' hbw ht hcs hfn hgl hpr hdep G hG
       replace hbw : Below w6.heap.size w6 w' := hbw
       refine ⟨fun _ => ?_, fun h => by cases h⟩
       have s37 : ρ (.tmp 37) = .slice (some ⟨tb, toff, none⟩) X.length vc := hdep ⟨6, .data⟩ (by simp) rfl 37 rfl
       have s38 : ρ (.tmp 38) = .int .i64 k := hdep ⟨7, .data⟩ (by simp) rfl 38 rfl
       clear ht hdep hgl hpr
       go_simp
       exact hG _ _ (Below.refl _ _) rfl
     ·refine .inr (.inr ⟨fun _ => ?_, can_no (by kernel_rfl), can_no (by kernel_rfl)⟩)
      ·intro ρ w' hbw ht hcs hfn hgl hpr hdep G hG
       replace hbw : Below w6.heap.size w6 w' := hbw
       refine ⟨fun _ => ?_, fun h => by cases h⟩
       have s39 : ρ (.tmp 39) = .pointer (some ⟨tb, toff + k * 2, none⟩) := hdep ⟨8, .data⟩ (by simp) rfl 39 rfl
       clear ht hdep hgl hpr
       go_simp
       exact hG _ _ (Below.refl _ _) rfl
     ·refine .inr (.inr ⟨fun _ => ?_, can_no (by kernel_rfl), can_no (by kernel_rfl)⟩)
      ·intro ρ w' hbw ht hcs hfn hgl hpr hdep G hG
       replace hbw : Below w6.heap.size w6 w' := hbw
       refine ⟨fun _ => ?_, fun h => by cases h⟩
       have s40 : ρ (.tmp 40) = .pointer (some ⟨tb, toff + k * 2 + 1, none⟩) := hdep ⟨9, .data⟩ (by simp) rfl 40 rfl
       have n0 := cell_later hbw n0
       have n1 := cell_later hbw n1
       have d0 := cell_later hbw d0
       have d1 := cell_later hbw d1
       clear ht hdep hgl hpr
       go_simp
       exact hG _ _ (Below.refl _ _) rfl
     ·refine .inr (.inr ⟨fun _ => ?_, can_no (by kernel_rfl), can_no (by kernel_rfl)⟩)
      ·intro ρ w' hbw ht hcs hfn hgl hpr hdep G hG
       replace hbw : Below w6.heap.size w6 w' := hbw
       refine ⟨fun _ => ?_, fun h => by cases h⟩
       have s0 : ρ (.tmp 0) = .pointer (some ⟨p0, 0, none⟩) := ht 0 rfl
       clear ht hdep hgl hpr
       go_simp
       exact hG _ _ (Below.refl _ _) rfl
     ·refine .inr (.inr ⟨fun _ => ?_, can_no (by kernel_rfl), can_no (by kernel_rfl)⟩)
      ·intro ρ w' hbw ht hcs hfn hgl hpr hdep G hG
       replace hbw : Below w6.heap.size w6 w' := hbw
       refine ⟨fun _ => ?_, fun h => by cases h⟩
       have s42 : ρ (.tmp 42) = .pointer (some ⟨p0, 0, none⟩) := hdep ⟨11, .data⟩ (by simp) rfl 42 rfl
       clear ht hdep hgl hpr
       go_simp
       exact hG _ _ (Below.refl _ _) rfl
     ·refine .inr (.inr ⟨fun _ => ?_, can_no (by kernel_rfl), can_no (by kernel_rfl)⟩)
      ·intro ρ w' hbw ht hcs hfn hgl hpr hdep G hG
       replace hbw : Below w6.heap.size w6 w' := hbw
       refine ⟨fun _ => ?_, fun h => by cases h⟩
       have s43 : ρ (.tmp 43) = .pointer (some ⟨p0, 0, none⟩) := hdep ⟨12, .data⟩ (by simp) rfl 43 rfl
       clear ht hdep hgl hpr
       go_simp
       exact hG _ _ (Below.refl _ _) rfl
     ·refine .inr (.inr ⟨fun _ => ?_, can_no (by kernel_rfl), can_no (by kernel_rfl)⟩)
      ·intro ρ w' hbw ht hcs hfn hgl hpr hdep G hG
       replace hbw : Below w6.heap.size w6 w' := hbw
       refine ⟨fun _ => ?_, fun h => by cases h⟩
       have s44 : ρ (.tmp 44) = .pointer (some ⟨p0, 0, none⟩) := hdep ⟨13, .data⟩ (by simp) rfl 44 rfl
       have n0 := cell_later hbw n0
       have n1 := cell_later hbw n1
       have d0 := cell_later hbw d0
       have d1 := cell_later hbw d1
       clear ht hdep hgl hpr
       go_simp
       exact hG _ _ (Below.refl _ _) rfl
     ·refine .inr (.inr ⟨fun _ => ?_, can_no (by kernel_rfl), can_no (by kernel_rfl)⟩)
      ·intro ρ w' hbw ht hcs hfn hgl hpr hdep G hG
       replace hbw : Below w6.heap.size w6 w' := hbw
       refine ⟨fun _ => ?_, fun h => by cases h⟩
       have s33 : ρ (.tmp 33) = .slice fa F.length fc := hdep ⟨2, .data⟩ (by simp) rfl 33 rfl
       have s41 : ρ (.tmp 41) = .slice sa t.2.length sc := hdep ⟨10, .data⟩ (by simp) rfl 41 rfl
       have s45 : ρ (.tmp 45) = .int .i64 r := hdep ⟨14, .data⟩ (by simp) rfl 45 rfl
       clear ht hdep hgl hpr
       go_simp
       exact (CE w' hbw).mono fun e w'' ⟨he, hb⟩ => ⟨_, he, hG _ _ hb rfl⟩
     ·exact .inl rfl
     ·refine .inr (.inr ⟨can_no (by kernel_rfl), fun _ => ?_, can_no (by kernel_rfl)⟩)
      ·intro ρ w' hbw ht hcs hfn hgl hpr hdep G hG
       replace hbw : Below w6.heap.size w6 w' := hbw
       refine ⟨fun _ => ?_, fun h => by cases h⟩
       have d47 := hdep ⟨16, .data⟩ (by simp) rfl 47 rfl
       clear ht hdep hgl hpr
       replace d47 : ρ (.tmp 47) = .agg #[.int .i64 k, .int .i64 E] := d47
       go_simp
       exact hG _ _ (below_alloc _ _) (arr_block1 (E := eMatch) (n := 1) [⟨k, E⟩] #[.int .i64 k, .int .i64 E] rfl rfl (by decide) (by simp))
     ·exact .inr (.inl rfl)
     ·refine .inr (.inr ⟨can_no (by kernel_rfl), can_no (by kernel_rfl), fun _ => ?_⟩)
      ·intro ρ w' hbw ht hcs hfn hgl hpr hdep G hG
       refine ⟨fun _ => ?_, fun h => by cases h⟩
       have d49 := hdep ⟨18, .data⟩ (by simp) rfl 49 rfl
       clear ht hdep hgl hpr
       go_simp
       exact hG _ _ (Below.refl _ _) d49
    ·intro o ho
     obtain rfl := Option.some.inj ho
     intro ρ w' hbw ht hcs hfn hgl hpr hdep G hG
     replace hbw : Below w6.heap.size w6 w' := hbw
     refine ⟨fun _ => ?_, fun h => by cases h⟩
     have s32 : ρ (.tmp 32) = .int .i64 k := hdep ⟨1, .data⟩ (by simp) rfl 32 rfl
     have s46 : ρ (.tmp 46) = .int .i64 E := hdep ⟨15, .data⟩ (by simp) rfl 46 rfl
     clear ht hdep hgl hpr
     go_simp
     refine hG _ _ hbw rfl ?_
     intro j u hj hne h
     match j, h with
     | 0, h => exact h
     | 1, h => exact h
     | 2, h => exact h
     | 3, h => exact h
     | 4, h => exact h
     | 5, h => exact h
     | 6, h => exact h
     | 7, h => exact h
     | 8, h => exact h
     | 9, h => exact h
     | 10, h => exact h
     | 11, h => exact h
     | 12, h => exact h
     | 13, h => exact h
     | 14, h => exact h
     | 15, h => exact h
     | 16, h => exact absurd rfl hne
     | 17, h => exact h.elim
     | 18, h => exact trivial
     | 19, h => exact h
     | (k + 20), h => exact h
    ·intro o ho
     obtain rfl := Option.some.inj ho
     intro ρ w' hbw ht hcs hfn hgl hpr hdep G hG
     replace hbw : Below w6.heap.size w6 w' := hbw
     refine ⟨fun _ => ?_, fun h => by cases h⟩
     have s31 : ρ (.tmp 31) = .slice oa n oc := hdep ⟨0, .data⟩ (by simp) rfl 31 rfl
     have d48 := hdep ⟨17, .data⟩ (by simp) rfl 48 rfl
     clear ht hdep hgl hpr
     refine upon_appO _ _ 116 (by rfl) W.heap.size 120 _ 16 infMatch Tryz.underlying116 rfl _ Z s31 (ho6.below hbw) [⟨k, E⟩] d48 (by rw [← HL.out]; unfold maxLen; simp <;> omega) (by rw [← HL.out]; simp <;> omega) (by have := hbw.size; omega) ?_
     intro v' wA hoA hgA hlA
     refine hG _ _ ((hbl6.trans (hbw.mono hs6)).grown hgA (by have := hbw.size; omega) (fun kk hh => (World.ownsRow.lt (ho6.below hbw) kk hh).1)) hoA ?_
     intro j u hj hne hru h
     match j, h with
     | 0, h => exact h
     | 1, h => exact h
     | 2, h => exact h
     | 3, h => exact h
     | 4, h => exact h
     | 5, h => exact h
     | 6, h => exact h
     | 7, h => exact h
     | 8, h => exact h
     | 9, h => exact h
     | 10, h => exact h
     | 11, h => exact h
     | 12, h => exact h
     | 13, h => exact h
     | 14, h => exact h
     | 15, h => exact h
     | 16, h => exact h
     | 17, h => exact trivial
     | 18, h => exact absurd rfl hne
     | 19, h => exact h.elim
     | (k + 20), h => exact h
    intro xx w7 hF hx
    have HW := hx 19 (by simp)
    clear hx
    simp only [putAll, Act.put, List.setIfInBounds_toArray, List.set_cons_succ, List.set_cons_zero, Nat.zero_add, Nat.reduceAdd]
    have HWW := hid HW
    clear HW CE
    generalize xx 19 = u' at *
    generalize xx 18 = u8' at *
    generalize xx 17 = u9' at *
    generalize xx 16 = u10' at *
    go_wp2_with fail
    go_roundw
    case rel => exact ⟨k + 1, by omega, by go_num, by rw [← HT.out]; exact HWW.out, hF⟩
    case measure => simp [intOf]; omega
   ·rw [decide_eq_false hin] at CB
    have HT := hid (HTf.out hin)
    clear hin
    go_upto_region 5 with fail
    have x_n0 := ext_cell n0
    have x_n1 := ext_cell n1
    have x_d0 := ext_cell d0
    have x_d1 := ext_cell d1
    refine wp_region_ext (by kernel_rfl) (by kernel_rfl) ?_
    repeat (go_big_quiet_step ((go_at_call 93; exact same_ext (CB _))))
    refine wpQuiet_nil ?_
    intro _ hw'
    obtain ⟨nq, hw''⟩ := hw'
    subst hw''
    replace n0 := x_n0 nq
    replace n1 := x_n1 nq
    replace d0 := x_d0 nq
    replace d1 := x_d1 nq
    clear x_n0 x_n1 x_d0 x_d1
    replace hbz := hbz.trans ((ext_below _ nq).mono hbz.size)
    have ho6 := ho.below hbz
    have hbl6 := hbl.trans (hbz.mono hls)
    clear ho
    go_wp2_with fail
    go_roundw
    case rel => exact ⟨k + 1, by omega, by go_num, by rw [← HT.out]; exact ho6, hbl6⟩
    case measure => simp [intOf]; omega
  ·have hli : ¬ ((k : Int) < (X.length : Int)) := by omega
   have HE := hid (show k = X.length by omega)
   clear hll
   go_wp2_with fail
   go_ret
   exact ⟨_, rfl, by rw [HE.out] at ho; exact ho.mono hlW, hbW.trans (hbl.mono hlW)⟩
end Go.Proofs.YtlnoelbeaolikaaGreat
