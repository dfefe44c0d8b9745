/- A stroke that is a dot: the calls that tell it. -/
import Derived.Test.YtlnoelbeaolikaaGreatK06
import Derived.Test.YtlnoelbeaolikaaGreatK05
import Derived.Test.YtlnoelbeaolikaaGreatRows
import Derived.Test.YtlnoelbeaolikaaGreatK02
import Derived.Test.YtlnoelbeaolikaaGreatK01
namespace Go.Proofs.YtlnoelbeaolikaaGreat
open Go.RowKit
set_option maxHeartbeats 1000000 in
theorem l14Dot_any (p o : Nat) (v : Value) (x : List DPoint) (w : World) (hp : w.cell? ⟨p, o, none⟩ = some v) (h : Arr ePoint w v x) (ok : x.length ≤ 1048576) (hv : validSt x = true) :
  Calls Tryz.prog 206 #[.pointer (some ⟨p, o, none⟩)] w (Ret (.bool (isDotB x)) w) := by
 obtain ⟨b1, b2, b3, b4, b5, b6, b7, b8⟩ := okBox_st hv
 obtain ⟨l1, l2⟩ := validSt_len hv
 obtain ⟨B, hBB⟩ : ∃ B, B = boxSt x := ⟨_, rfl⟩
 have HD : Hid (isDotB x = (decide (B.x2 - B.x1 ≤ 160) && decide (B.y2 - B.y1 ≤ 160))) := by rw [hBB]; rfl
 have HJ : ∀ w', Hid (w'.cell? ⟨p, o, none⟩ = some v ∧ Arr ePoint w' v x) → Calls Tryz.prog 140 #[.pointer (some ⟨p, o, none⟩)] w' (Ret (.agg #[.int .i64 B.x1, .int .i64 B.y1, .int .i64 B.x2, .int .i64 B.y2]) w') := by
  intro w' hn
  rw [hBB]
  exact l02BoxOf_any p o v x w' hn.out.1 hn.out.2 ok (by omega)
 rw [← hBB] at b1 b2 b3 b4 b5 b6 b7 b8
 clear hBB
 cases hd : decide (B.x2 - B.x1 ≤ 160)
 all_goals
  rw [hd] at HD
  go_enter Tryz.func206, Tryz.ntmps206
  go_wp2_with fail
  refine (HJ _ ⟨hp, h⟩).mono ?_
  rintro e w2 ⟨rfl, hb⟩
  have hbb : Below w.heap.size w w2 := hb
  go_wp2
  go_ret
  exact ret_bool (by rw [HD.out]; rfl) (hbb.alloc hbb.size _)
set_option maxHeartbeats 1000000 in
theorem isDot_any (v : Value) (x : List DPoint) (w : World) (h : Arr ePoint w v x) (ok : x.length ≤ 1048576) (hv : validSt x = true) :
  Calls Tryz.prog 164 #[.agg #[v]] w (Ret (.bool (isDotB x)) w) := by
 obtain ⟨b1, b2, b3, b4, b5, b6, b7, b8⟩ := okBox_st hv
 obtain ⟨l1, l2⟩ := validSt_len hv
 obtain ⟨sa, sc, hsl⟩ := h.isSlice
 subst hsl
 have hA := h.alloc (.cells #[.slice sa x.length sc] 112)
 obtain ⟨B, hBB⟩ : ∃ B, B = boxSt x := ⟨_, rfl⟩
 have HD : Hid (isDotB x = (decide (B.x2 - B.x1 ≤ 160) && decide (B.y2 - B.y1 ≤ 160))) := by rw [hBB]; rfl
 have HJ : ∀ w', Hid (Arr ePoint w' (.slice sa x.length sc) x) → Calls Tryz.prog 151 #[.agg #[.slice sa x.length sc]] w' (Ret (.agg #[.int .i64 B.x1, .int .i64 B.y1, .int .i64 B.x2, .int .i64 B.y2]) w') := by
  intro w' hn
  rw [hBB]
  exact boxOfStroke_any _ x w' hn.out ok (by omega)
 rw [← hBB] at b1 b2 b3 b4 b5 b6 b7 b8
 clear hBB
 cases hd : decide (B.x2 - B.x1 ≤ 160)
 all_goals
  rw [hd] at HD
  go_enter Tryz.func164, Tryz.ntmps164
  go_wp2_with fail
  refine (HJ _ hA).mono ?_
  rintro e w2 ⟨rfl, hb⟩
  have hbb : Below w.heap.size w w2 := (below_alloc _ _).trans (hb.mono (by simp))
  go_wp2
  go_ret
  exact ret_bool (by rw [HD.out]; rfl) (hbb.alloc hbb.size _)
end Go.Proofs.YtlnoelbeaolikaaGreat
namespace Go.Proofs.YtlnoelbeaolikaaGreat
open Go.RowKit
attribute [local go_sem ↓] Go.wp_at_zero Go.wp_at_succ
def firstT (s : XStroke) : Int := match s[0]? with | some p => p.t | none => 0
def lastT (s : XStroke) : Int := match s[s.length - 1]? with | some p => p.t | none => 0
def ordI (X : XInk) (k : Nat) (s : XStroke) : Bool := match k, X[k-1]? with
 | 0, _ => true
 | _, none => true
 | _, some t => decide (lastT t < firstT s)
def inkAt (X : XInk) (k : Nat) (s : XStroke) : Bool := validSt s && ordI X k s
def validInk (X : XInk) : Bool := (List.range X.length).all (fun k => match X[k]? with | some s => inkAt X k s | none => true) && decide (X.length ≤ 16)
theorem validInk_at {X : XInk} {k : Nat} {s : XStroke} (h : X[k]? = some s) (hb : inkAt X k s = false) : validInk X = false := by
 rw [validInk, Bool.and_eq_false_iff]
 exact .inl (List.all_eq_false.2 ⟨k, by simp; exact (List.getElem?_eq_some_iff.1 h).1, by rw [h]; simp [hb]⟩)
theorem validInk_all {X : XInk} (h : ∀ k s, k < X.length → X[k]? = some s → inkAt X k s = true) : validInk X = decide (X.length ≤ 16) := by
 have : (List.range X.length).all (fun k => match X[k]? with | some s => inkAt X k s | none => true) = true := by
  rw [List.all_eq_true]
  intro k hk
  have hk : k < X.length := by simpa using hk
  cases hx : X[k]? with
  | none => rfl
  | some s => exact h k s hk hx
 rw [validInk, this, Bool.true_and]
theorem validInk_st {X : XInk} (h : validInk X = true) {k : Nat} {s : XStroke} (hs : X[k]? = some s) : validSt s = true := by
 cases hb : inkAt X k s with
 | true => simp [inkAt] at hb; exact hb.1
 | false => rw [validInk_at hs hb] at h; cases h
theorem validInk_len {X : XInk} (h : validInk X = true) : X.length ≤ 16 := by simp [validInk] at h; omega
theorem eS1_cell {w : World} {b off : Nat} {es : List SV} (h : Cells eS1 w b off es) {k : Nat} {s : SV} (hx : es[k]? = some s) : w.cell? ⟨b, off + k, none⟩ = some s.val := eS1_cells h hx
theorem firstOf_arr (u : Value) (x : XStroke) (p0 : DPoint) (w : World) (h : Arr ePoint w u x) (hp0 : x[0]? = some p0) :
  Calls Tryz.prog 67 #[.agg #[u]] w (Ret (.agg #[.int .i64 p0.x, .int .i64 p0.y, .int .i64 p0.t]) w) := by
 obtain ⟨b, off, ao, cap, rfl, hnc, hcm, hao, hc⟩ := h
 obtain ⟨rfl, _⟩ := hao (by have := (List.getElem?_eq_some_iff.1 hp0).1; omega)
 exact firstOf_any b off cap x p0 w hc hcm hp0
set_option maxHeartbeats 1000000 in
theorem lastOf_any (u : Value) (x : XStroke) (p0 : DPoint) (w : World) (h : Arr ePoint w u x) (hp0 : x[x.length - 1]? = some p0) :
  Calls Tryz.prog 68 #[.agg #[u]] w (Ret (.agg #[.int .i64 p0.x, .int .i64 p0.y, .int .i64 p0.t]) w) := by
 obtain ⟨b, off, ao, cap, rfl, hnc, hcm, hao, hc⟩ := h
 have hl0 : 0 < x.length := by have := (List.getElem?_eq_some_iff.1 hp0).1; omega
 obtain ⟨rfl, _⟩ := hao hl0
 unfold maxLen at hcm
 obtain ⟨c0, c1, c2⟩ := ePoint_cells hc hp0
 have hl1 : (0 : Int) ≤ (x.length : Int) - 1 := by omega
 have hl2 : (x.length : Int) - 1 < (x.length : Int) := by omega
 have ek : ((x.length : Int) - 1).toNat = x.length - 1 := by omega
 have d0 := cell_alloc (cell_alloc c0 (.cells #[.slice (some ⟨b, off, none⟩) x.length cap] 112)) (.cells #[.int .i64 0, .int .i64 0, .int .i64 0] 114)
 have d1 := cell_alloc (cell_alloc c1 (.cells #[.slice (some ⟨b, off, none⟩) x.length cap] 112)) (.cells #[.int .i64 0, .int .i64 0, .int .i64 0] 114)
 have d2 := cell_alloc (cell_alloc c2 (.cells #[.slice (some ⟨b, off, none⟩) x.length cap] 112)) (.cells #[.int .i64 0, .int .i64 0, .int .i64 0] 114)
 clear hp0
 go_enter Tryz.func68, Tryz.ntmps68
 go_wp2
 refine bodyPost_ret (v := .agg #[.int .i64 p0.x, .int .i64 p0.y, .int .i64 p0.t]) (by simp [results, Tryz.results68, go_sem]) rfl (ret_ret rfl ?_)
 exact ((Below.refl _ _).alloc (Nat.le_refl _) _).alloc (by simp) _
set_option maxHeartbeats 1000000 in
theorem l02Last_any (p o : Nat) (v : Value) (x : XStroke) (p0 : DPoint) (w : World) (hp : w.cell? ⟨p, o, none⟩ = some v) (h : Arr ePoint w v x) (hp0 : x[x.length - 1]? = some p0) :
  Calls Tryz.prog 55 #[.pointer (some ⟨p, o, none⟩)] w (Ret (.int .i64 p0.t) w) := by
 obtain ⟨b, off, ao, cap, rfl, hnc, hcm, hao, hc⟩ := h
 have hl0 : 0 < x.length := by have := (List.getElem?_eq_some_iff.1 hp0).1; omega
 obtain ⟨rfl, _⟩ := hao hl0
 unfold maxLen at hcm
 obtain ⟨c0, c1, c2⟩ := ePoint_cells hc hp0
 have hl1 : (0 : Int) ≤ (x.length : Int) - 1 := by omega
 have hl2 : (x.length : Int) - 1 < (x.length : Int) := by omega
 have ek : ((x.length : Int) - 1).toNat = x.length - 1 := by omega
 clear hp0
 go_enter Tryz.func55, Tryz.ntmps55
 go_wp2
 go_region
 go_wp2
 go_ret
 exact ⟨rfl, (Below.refl _ _).drew⟩
theorem ordI_pos {X : XInk} {k : Nat} {s t : XStroke} (hk : 0 < k) (h : X[k - 1]? = some t) : ordI X k s = decide (lastT t < firstT s) := by
 obtain ⟨k', rfl⟩ : ∃ k', k = k' + 1 := ⟨k - 1, by omega⟩
 simp at h
 simp [ordI, h]
theorem firstT_eq {s : XStroke} {p : DPoint} (h : s[0]? = some p) : firstT s = p.t := by unfold firstT; rw [h]
theorem lastT_eq {s : XStroke} {p : DPoint} (h : s[s.length - 1]? = some p) : lastT s = p.t := by unfold lastT; rw [h]
theorem ends_of {s : XStroke} (h : validSt s = true) : ∃ p q : DPoint, s[0]? = some p ∧ s[s.length - 1]? = some q := by
 have := validSt_len h
 exact ⟨_, _, List.getElem?_eq_getElem (by omega), List.getElem?_eq_getElem (by omega)⟩
set_option maxHeartbeats 4000000 in
theorem l02Ok_any (p o : Nat) (v : Value) (X : XInk) (w : World) (hp : w.cell? ⟨p, o, none⟩ = some v) (h : Strokes w v X) (ok : okInk X) :
  Calls Tryz.prog 27 #[.pointer (some ⟨p, o, none⟩)] w (Ret (.bool (validInk X)) w) := by
 obtain ⟨b, off, ao, cap, us, rfl, hnc, hcm, hao, hc, hul, hin⟩ := h.slice
 unfold maxLen at hcm
 have hpl := World.block_lt_of_cell? w _ hp
 have hX : X.length ≤ 1048576 := by unfold okInk at ok; omega
 go_enter Tryz.func27, Tryz.ntmps27
 go_wp2
 go_loopw [3] (fun i wr => ∃ k : Nat, k ≤ X.length ∧ i = .int .i64 k ∧ Below w.heap.size w wr ∧ ∀ j s, j < k → X[j]? = some s → inkAt X j s = true) (fun i _ => X.length - (intOf i).toNat)
 case atStart => exact ⟨0, Nat.zero_le _, rfl, Below.refl _ _, fun j e h => by omega⟩
 case round =>
  obtain ⟨k, hk, rfl, hb, hall⟩ := hrel
  have HA := hid hall
  clear hall h
  have q1 := (hb.cell (p := ⟨p, o, none⟩) hpl).trans hp
  clear hp
  by_cases hlt : k < X.length
  ·obtain ⟨hao', hbw⟩ := hao (by omega)
   subst hao'
   obtain ⟨s, hs⟩ : ∃ s, X[k]? = some s := ⟨_, List.getElem?_eq_getElem hlt⟩
   obtain ⟨u, hu⟩ : ∃ u, us[k]? = some u := ⟨_, List.getElem?_eq_getElem (by omega)⟩
   have c0 := eS1_cell (hc.below hb hbw) hu
   have hA := (hin k u s hu hs).below hb
   have oks := okInk_st ok hs
   have hli : (k : Int) < (X.length : Int) := by omega
   have HP : ∀ n : ExtOf wr, _ := fun n => l02Stroke_any _ _ _ s (ext wr n) (ext_cell c0 n) (ext_arr hA n) oks
   have HE := hid hs
   have HI := hid hin
   clear hs hao hin
   cases hv : validSt s
   ·rw [hv] at HP
    go_wp2
    have x_q1 := ext_cell q1
    have x_c0 := ext_cell c0
    refine wp_region_ext (by kernel_rfl) (by kernel_rfl) ?_
    repeat (go_big_quiet_step ((go_at_call 54; exact ret_ext (HP _))))
    refine wpQuiet_nil ?_
    intro _ hw'
    obtain ⟨nq, hw''⟩ := hw'
    subst hw''
    replace q1 := x_q1 nq
    replace c0 := x_c0 nq
    clear x_q1 x_c0
    replace hb := hb.trans ((ext_below _ nq).mono hb.size)
    go_wp2
    go_ret
    exact ret_bool (validInk_at HE.out (by simp [inkAt, hv])).symm hb
   obtain ⟨e, _, he, _⟩ := ends_of hv
   have HV := hid hv
   rw [hv] at HP
   clear hv
   obtain ⟨sb, so, sao, scap, hsv, hsn, hsm, hsao, hsc⟩ := hA
   obtain ⟨rfl, _⟩ := hsao (by have := (List.getElem?_eq_some_iff.1 he).1; omega)
   rw [hsv] at c0
   obtain ⟨_, _, c2⟩ := ePoint_cells hsc he
   simp only [Nat.zero_mul, Nat.add_zero] at c2
   have hl0 : (0 : Int) < (s.length : Int) := by have := (List.getElem?_eq_some_iff.1 he).1; omega
   have HF := hid (firstT_eq he)
   clear he
   by_cases hk0 : 0 < k
   ·have hki : (0 : Int) < (k : Int) := by omega
    have hk1 : (0 : Int) ≤ (k : Int) - 1 := by omega
    have hk2 : (k : Int) - 1 < (X.length : Int) := by omega
    obtain ⟨t, ht⟩ : ∃ t, X[k - 1]? = some t := ⟨_, List.getElem?_eq_getElem (by omega)⟩
    obtain ⟨ut, hut⟩ : ∃ u, us[k - 1]? = some u := ⟨_, List.getElem?_eq_getElem (by omega)⟩
    have hvt : validSt t = true := by have := HA.out (k - 1) t (by omega) ht; simp [inkAt] at this; exact this.1
    obtain ⟨_, f, _, hf⟩ := ends_of hvt
    have d0 := eS1_cell (hc.below hb hbw) hut
    have hT := (HI.out (k - 1) ut t hut ht).below hb
    have HQ : ∀ n : ExtOf wr, _ := fun n => l02Last_any _ _ _ t f (ext wr n) (ext_cell d0 n) (ext_arr hT n) hf
    have ek : ((k : Int) - 1).toNat = k - 1 := by omega
    have HORD : Hid (ordI X k s = decide (f.t < e.t)) := by
     show ordI X k s = _
     rw [ordI_pos hk0 ht, HF.out, lastT_eq hf]
    clear ht hf hvt
    by_cases ho : e.t ≤ f.t
    ·go_wp2
     have x_q1 := ext_cell q1
     have x_c0 := ext_cell c0
     have x_c2 := ext_cell c2
     have x_d0 := ext_cell d0
     refine wp_region_ext (by kernel_rfl) (by kernel_rfl) ?_
     repeat (go_big_quiet_step ((first | (go_at_call 54; exact ret_ext (HP _)) | (go_at_call 55; exact ret_ext (HQ _)))))
     refine wpQuiet_nil ?_
     intro _ hw'
     obtain ⟨nq, hw''⟩ := hw'
     subst hw''
     replace q1 := x_q1 nq
     replace c0 := x_c0 nq
     replace c2 := x_c2 nq
     replace d0 := x_d0 nq
     clear x_q1 x_c0 x_c2 x_d0
     replace hb := hb.trans ((ext_below _ nq).mono hb.size)
     go_wp2
     go_ret
     exact ret_bool (validInk_at HE.out (by simp [inkAt, HORD.out]; intros; omega)).symm hb
    ·have ho' : f.t < e.t := by omega
     go_wp2
     have x_q1 := ext_cell q1
     have x_c0 := ext_cell c0
     have x_c2 := ext_cell c2
     have x_d0 := ext_cell d0
     refine wp_region_ext (by kernel_rfl) (by kernel_rfl) ?_
     repeat (go_big_quiet_step ((first | (go_at_call 54; exact ret_ext (HP _)) | (go_at_call 55; exact ret_ext (HQ _)))))
     refine wpQuiet_nil ?_
     intro _ hw'
     obtain ⟨nq, hw''⟩ := hw'
     subst hw''
     replace q1 := x_q1 nq
     replace c0 := x_c0 nq
     replace c2 := x_c2 nq
     replace d0 := x_d0 nq
     clear x_q1 x_c0 x_c2 x_d0
     replace hb := hb.trans ((ext_below _ nq).mono hb.size)
     go_wp2
     go_roundw
     case rel =>
      refine ⟨k + 1, by omega, by go_num, hb, fun j e' hj he' => ?_⟩
      by_cases ej : j = k
      ·subst ej
       rw [HE.out] at he'; obtain rfl := Option.some.inj he'
       simp [inkAt, HV.out, HORD.out, ho']
      ·exact HA.out j e' (by omega) he'
     case measure => simp [intOf]; omega
   ·have hki : (k : Int) ≤ 0 := by omega
    go_wp2
    have x_q1 := ext_cell q1
    have x_c0 := ext_cell c0
    refine wp_region_ext (by kernel_rfl) (by kernel_rfl) ?_
    repeat (go_big_quiet_step ((go_at_call 54; exact ret_ext (HP _))))
    refine wpQuiet_nil ?_
    intro _ hw'
    obtain ⟨nq, hw''⟩ := hw'
    subst hw''
    replace q1 := x_q1 nq
    replace c0 := x_c0 nq
    clear x_q1 x_c0
    replace hb := hb.trans ((ext_below _ nq).mono hb.size)
    go_wp2
    go_roundw
    case rel =>
     refine ⟨k + 1, by omega, by go_num, hb, fun j e' hj he' => ?_⟩
     obtain rfl : k = 0 := by omega
     obtain rfl : j = 0 := by omega
     rw [HE.out] at he'; obtain rfl := Option.some.inj he'
     simp [inkAt, HV.out, ordI]
    case measure => simp [intOf]; omega
  ·have HV := hid (validInk_all (X := X) fun j e hj => HA.out j e (by omega))
   clear hao
   go_wp2
   go_ret
   exact ret_bool (by rw [HV.out]; simp <;> omega) hb
theorem fieldT (a b c : Int) (w : World) : (Instr.field 114 (.agg #[.int .i64 a, .int .i64 b, .int .i64 c]) 2).run Tryz.prog w = .ok (.int .i64 c) w := by kernel_rfl
set_option maxHeartbeats 4000000 in
theorem implValidInk_any (v : Value) (X : XInk) (w : World) (h : Strokes w v X) (ok : okInk X) :
  Calls Tryz.prog 33 #[.agg #[v]] w (Ret (.bool (validInk X)) w) := by
 obtain ⟨b, off, ao, cap, us, rfl, hnc, hcm, hao, hc, hul, hin⟩ := h.slice
 unfold maxLen at hcm
 have hX : X.length ≤ 1048576 := by unfold okInk at ok; omega
 go_enter Tryz.func33, Tryz.ntmps33
 go_wp2
 go_loopw [8] (fun i wr => ∃ k : Nat, k ≤ X.length ∧ i = .int .i64 k ∧ Below w.heap.size w wr ∧ wr.cell? ⟨w.heap.size, 0, none⟩ = some (.slice ao X.length cap) ∧ ∀ j s, j < k → X[j]? = some s → inkAt X j s = true) (fun i _ => X.length - (intOf i).toNat)
 case atStart => exact ⟨0, Nat.zero_le _, rfl, below_alloc _ _, by simp, fun j e h => by omega⟩
 case round =>
  obtain ⟨k, hk, rfl, hb, q1, hall⟩ := hrel
  have HA := hid hall
  clear hall h
  by_cases hlt : k < X.length
  ·obtain ⟨hao', hbw⟩ := hao (by omega)
   subst hao'
   obtain ⟨s, hs⟩ : ∃ s, X[k]? = some s := ⟨_, List.getElem?_eq_getElem hlt⟩
   obtain ⟨u, hu⟩ : ∃ u, us[k]? = some u := ⟨_, List.getElem?_eq_getElem (by omega)⟩
   have c0 := eS1_cell (hc.below hb hbw) hu
   have oks := okInk_st ok hs
   obtain ⟨sa, sc, hsl⟩ := (hin k u s hu hs).isSlice
   have hA0 := hin k u s hu hs
   rw [hsl] at c0 hA0
   have hli : (k : Int) < (X.length : Int) := by omega
   obtain ⟨w1, hw1⟩ : ∃ w1, w1 = wr.alloc (.cells #[.slice sa s.length sc] 112) := ⟨_, rfl⟩
   have hb1 : Below w.heap.size w w1 := by rw [hw1]; exact hb.alloc hb.size _
   have p1 : w1.cell? ⟨w.heap.size, 0, none⟩ = some (.slice (some ⟨b, off, none⟩) X.length cap) := by rw [hw1]; exact cell_alloc q1 _
   have e0 : w1.cell? ⟨wr.heap.size, 0, none⟩ = some (.slice sa s.length sc) := by rw [hw1]; simp
   have hA := hA0.below hb1
   have HP : ∀ n : ExtOf w1, _ := fun n => implValidStroke_any _ s (ext w1 n) (ext_arr hA n) oks
   have HW1 := hid hw1
   clear hw1
   have HE := hid hs
   have HI := hid hin
   clear hs hao hin hA0
   cases hv : validSt s
   ·rw [hv] at HP
    go_wp2
    rw [← HW1.out]
    have x_p1 := ext_cell p1
    have x_e0 := ext_cell e0
    refine wp_region_ext (by kernel_rfl) (by kernel_rfl) ?_
    repeat (go_big_quiet_step ((go_at_call 66; exact ret_ext (HP _))))
    refine wpQuiet_nil ?_
    intro _ hw'
    obtain ⟨nq, hw''⟩ := hw'
    subst hw''
    replace p1 := x_p1 nq
    replace e0 := x_e0 nq
    clear x_p1 x_e0
    replace hb1 := hb1.trans ((ext_below _ nq).mono hb1.size)
    go_wp2
    go_ret
    exact ret_bool (validInk_at HE.out (by simp [inkAt, hv])).symm hb1
   obtain ⟨e, _, he, _⟩ := ends_of hv
   have HV := hid hv
   rw [hv] at HP
   clear hv
   have HF := hid (firstT_eq he)
   have HP2 : ∀ n : ExtOf w1, _ := fun n => firstOf_arr _ s e (ext w1 n) (ext_arr hA n) he
   clear he
   by_cases hk0 : 0 < k
   ·have hki : (0 : Int) < (k : Int) := by omega
    have hk1 : (0 : Int) ≤ (k : Int) - 1 := by omega
    have hk2 : (k : Int) - 1 < (X.length : Int) := by omega
    obtain ⟨t, ht⟩ : ∃ t, X[k - 1]? = some t := ⟨_, List.getElem?_eq_getElem (by omega)⟩
    obtain ⟨ut, hut⟩ : ∃ u, us[k - 1]? = some u := ⟨_, List.getElem?_eq_getElem (by omega)⟩
    have hvt : validSt t = true := by have := HA.out (k - 1) t (by omega) ht; simp [inkAt] at this; exact this.1
    obtain ⟨_, f, _, hf⟩ := ends_of hvt
    have d0 := eS1_cell (hc.below hb1 hbw) hut
    have hT := (HI.out (k - 1) ut t hut ht).below hb1
    obtain ⟨ta, tc, htl⟩ := hT.isSlice
    rw [htl] at d0 hT
    have hfd := fieldT
    have HQ : ∀ n : ExtOf w1, _ := fun n => lastOf_any _ t f (ext w1 n) (ext_arr hT n) hf
    have ek : ((k : Int) - 1).toNat = k - 1 := by omega
    have HORD : Hid (ordI X k s = decide (f.t < e.t)) := by
     show ordI X k s = _
     rw [ordI_pos hk0 ht, HF.out, lastT_eq hf]
    clear ht hf hvt
    by_cases ho : e.t ≤ f.t
    ·go_wp2
     rw [← HW1.out]
     have x_p1 := ext_cell p1
     have x_e0 := ext_cell e0
     have x_d0 := ext_cell d0
     refine wp_region_ext (by kernel_rfl) (by kernel_rfl) ?_
     repeat (go_big_quiet_step ((first | (go_at_call 66; exact ret_ext (HP _)) | (go_at_call 67; exact ret_ext (HP2 _)) | (go_at_call 68; exact ret_ext (HQ _)))))
     refine wpQuiet_nil ?_
     intro _ hw'
     obtain ⟨nq, hw''⟩ := hw'
     subst hw''
     replace p1 := x_p1 nq
     replace e0 := x_e0 nq
     replace d0 := x_d0 nq
     clear x_p1 x_e0 x_d0
     replace hb1 := hb1.trans ((ext_below _ nq).mono hb1.size)
     go_wp2
     go_ret
     exact ret_bool (validInk_at HE.out (by simp [inkAt, HORD.out]; intros; omega)).symm hb1
    ·have ho' : f.t < e.t := by omega
     go_wp2
     rw [← HW1.out]
     have x_p1 := ext_cell p1
     have x_e0 := ext_cell e0
     have x_d0 := ext_cell d0
     refine wp_region_ext (by kernel_rfl) (by kernel_rfl) ?_
     repeat (go_big_quiet_step ((first | (go_at_call 66; exact ret_ext (HP _)) | (go_at_call 67; exact ret_ext (HP2 _)) | (go_at_call 68; exact ret_ext (HQ _)))))
     refine wpQuiet_nil ?_
     intro _ hw'
     obtain ⟨nq, hw''⟩ := hw'
     subst hw''
     replace p1 := x_p1 nq
     replace e0 := x_e0 nq
     replace d0 := x_d0 nq
     clear x_p1 x_e0 x_d0
     replace hb1 := hb1.trans ((ext_below _ nq).mono hb1.size)
     go_wp2
     go_roundw
     case rel =>
      refine ⟨k + 1, by omega, by go_num, hb1, p1, fun j e' hj he' => ?_⟩
      by_cases ej : j = k
      ·subst ej
       rw [HE.out] at he'; obtain rfl := Option.some.inj he'
       simp [inkAt, HV.out, HORD.out, ho']
      ·exact HA.out j e' (by omega) he'
     case measure => simp [intOf]; omega
   ·have hki : (k : Int) ≤ 0 := by omega
    go_wp2
    rw [← HW1.out]
    have x_p1 := ext_cell p1
    have x_e0 := ext_cell e0
    refine wp_region_ext (by kernel_rfl) (by kernel_rfl) ?_
    repeat (go_big_quiet_step ((go_at_call 66; exact ret_ext (HP _))))
    refine wpQuiet_nil ?_
    intro _ hw'
    obtain ⟨nq, hw''⟩ := hw'
    subst hw''
    replace p1 := x_p1 nq
    replace e0 := x_e0 nq
    clear x_p1 x_e0
    replace hb1 := hb1.trans ((ext_below _ nq).mono hb1.size)
    go_wp2
    go_roundw
    case rel =>
     refine ⟨k + 1, by omega, by go_num, hb1, p1, fun j e' hj he' => ?_⟩
     obtain rfl : k = 0 := by omega
     obtain rfl : j = 0 := by omega
     rw [HE.out] at he'; obtain rfl := Option.some.inj he'
     simp [inkAt, HV.out, ordI]
    case measure => simp [intOf]; omega
  ·have HV := hid (validInk_all (X := X) fun j e hj => HA.out j e (by omega))
   clear hao
   go_wp2
   go_ret
   exact ret_bool (by rw [HV.out]; simp <;> omega) hb
end Go.Proofs.YtlnoelbeaolikaaGreat
namespace Go.Proofs.YtlnoelbeaolikaaGreat
open Go.ChangeShapes Go.WideShapes Go.ChangeAt Go.RowKit Go.Deep
def eI : Enc Int := ⟨fun x => [.int .i64 x], 1, fun _ => rfl, by decide, fun x u hu => by simp at hu; subst hu; rfl⟩
theorem eI_cell {w : World} {b off : Nat} {es : List Int} (h : Cells eI w b off es) {k : Nat} {x : Int} (hx : es[k]? = some x) : w.cell? ⟨b, off + k, none⟩ = some (.int .i64 x) := by
 have := h k x hx 0 _ rfl
 have e : off + k * eI.sz + 0 = off + k := by show off + k * 1 + 0 = off + k; omega
 rw [e] at this
 exact this
theorem infoI : (Tryz.prog.info? 2).map (fun i => (i.zero, i.size, i.bytes)) = some (some (.int .i64 0), 1, 8) := by kernel_rfl
theorem ownN_slot {α : Type} {E : Enc α} {e : TypeId} {B g cap n : Nat} {w : World} {xs : List α} (h : Own E e B w (.slice (some ⟨g, 0, none⟩) n cap) xs) (hn : n = xs.length) (h1 : E.sz = 1) {k : Nat} (hk : k < n) : ∃ u, w.cell? ⟨g, k, none⟩ = some u := by
 obtain ⟨u, hu⟩ := h.slot hn k hk 0 (by omega)
 rw [h1] at hu
 exact ⟨u, by simpa using hu⟩
end Go.Proofs.YtlnoelbeaolikaaGreat
