/- HypsText: both calls. -/
import Derived.Test.YtbgjojnjbplblaaDoorHyValid
import Derived.Test.YtbgjojnjbplblaaDoorHyValid2
import Derived.Test.YtbgjojnjbplblaaDoorTxBld
import Derived.Test.YtbgjojnjbplblaaDoorWrStringS
import Derived.Test.YtbgjojnjbplblaaDoorAppO
import Derived.Test.YtbgjojnjbplblaaDoorRegY
import Derived.Deep.Cut
import Derived.BigQuiet
import Derived.Lib.Join
namespace Go.Proofs.YtbgjojnjbplblaaDoor
open Go.RowKit

theorem infStrT : (Tryd.prog.info? 9).map (fun i => (i.zero, i.size, i.bytes)) = some (some (.string ByteArray.empty), eStr.sz, 16) := by kernel_rfl
def lnH (e : DHyp) : ByteArray := e.label ++ ⟨#[58]⟩ ++ decS e.cost
def hyL (e : DHyp) : List UInt8 := (lnH e).data.toList
def hypT (x : List DHyp) : List UInt8 := Lib.join (x.map hyL) [32]
def hypS (x : List DHyp) : ByteArray := if validHy x then (if x.length = 0 then ⟨#[110, 111, 110, 101]⟩ else ofL (hypT x)) else ⟨#[]⟩
theorem hypN_ok {x : List DHyp} (h : validHy x = true) : x.length ≤ 8 := by
  unfold validHy at h
  rw [Bool.and_eq_true, decide_eq_true_eq] at h
  exact h.2
theorem hypE_ok {x : List DHyp} (h : validHy x = true) {e : DHyp} (he : e ∈ x) : e.label.size = 1 ∧ okN e.cost := by
  obtain ⟨k, hk⟩ := List.getElem?_of_mem he
  cases hb : hyOk x k e with
  | false => rw [allHy_at hk hb] at h; cases h
  | true =>
    unfold hyOk at hb
    simp only [Bool.and_eq_true, inB_true] at hb
    refine ⟨?_, by unfold okN; omega⟩
    by_cases hs : e.label.size = 1
    · exact hs
    · have := hb.1.1.1; rw [isLabel_len hs] at this; cases this
theorem lnH_size {e : DHyp} (h : e.label.size = 1 ∧ okN e.cost) : (lnH e).size ≤ 23 := by
  have h1 := decS_size h.2
  unfold lnH
  simp only [ByteArray.size_append]
  show e.label.size + 1 + (decS e.cost).size ≤ 23
  omega
theorem tail_len (sep : List UInt8) (c : Nat) : ∀ (r : List (List UInt8)), (∀ a ∈ r, a.length ≤ c) → (Lib.joinTail sep r).length ≤ (sep.length + c) * r.length
  | [], _ => by simp [Lib.joinTail]
  | a :: t, h => by
    have h1 := tail_len sep c t fun b hb => h b (List.mem_cons_of_mem _ hb)
    have h2 := h a List.mem_cons_self
    unfold Lib.joinTail at *
    rw [List.map_cons, List.flatten_cons, List.length_append, List.length_append, List.length_cons, Nat.mul_succ]
    omega
theorem hypT_len {x : List DHyp} (h : validHy x = true) (k : Nat) : (hypT (x.take k)).length ≤ 300 := by
  have hn := hypN_ok h
  have ha : ∀ e ∈ x.take k, (hyL e).length ≤ 23 := fun e he => by
    have := lnH_size (hypE_ok h (List.mem_of_mem_take he))
    rw [size_list] at this
    exact this
  have hl : (x.take k).length ≤ 8 := by rw [List.length_take]; omega
  unfold hypT
  cases hx : x.take k with
  | nil => simp [Lib.join_nil]
  | cons a t =>
    rw [hx] at ha hl
    rw [List.map_cons, Lib.join_cons, List.length_append]
    have h1 := ha a List.mem_cons_self
    have h2 := tail_len [32] 23 (t.map hyL) fun b hb => by
      obtain ⟨e, he, rfl⟩ := List.mem_map.1 hb
      exact ha e (List.mem_cons_of_mem _ he)
    rw [List.length_map] at h2
    rw [List.length_cons] at hl
    have h3 : ([32] : List UInt8).length + 23 = 24 := rfl
    rw [h3] at h2
    have h4 := Nat.mul_le_mul_left 24 (show t.length ≤ 7 by omega)
    omega
theorem hypT_one {x : List DHyp} {e : DHyp} (h : x[0]? = some e) : hypT (x.take 1) = hyL e := by
  unfold hypT
  rw [show (1 : Nat) = 0 + 1 from rfl, List.take_add_one, h]
  simp [Lib.join_one]
theorem hypT_step {x : List DHyp} {k : Nat} {e : DHyp} (hk : 0 < k) (h : x[k]? = some e) : hypT (x.take (k + 1)) = hypT (x.take k) ++ [32] ++ hyL e := by
  have hl := (List.getElem?_eq_some_iff.1 h).1
  unfold hypT
  rw [List.take_add_one, h]
  cases hx : x.take k with
  | nil =>
    have := congrArg List.length hx
    rw [List.length_take, List.length_nil] at this
    omega
  | cons a t =>
    simp only [Option.toList_some, List.map_append, List.map_cons, List.map_nil, List.cons_append]
    rw [Lib.join_cons, Lib.join_cons]
    unfold Lib.joinTail
    simp
set_option maxRecDepth 100000 in
set_option maxHeartbeats 4000000 in
theorem implHypsText_any (v : Value) (x : XHypS) (w : World) {lo hi : Nat} (h : rHypS.at_ lo hi w v x) (ok : okHypS x) (g : goodHypS x) (ht : TabL w) :
    Calls Tryd.prog 29 #[v] w (Ret (.string (hypS x)) w) := by
  have CV := implValidHyps_any v x w h ok g
  have hA := rHypS_arr h
  obtain ⟨b, off, ao, cap, rfl, hnc, hcm, hao, hc⟩ := hA
  unfold maxLen at hcm
  clear h
  cases hv : validHy x
  · rw [hv] at CV
    have HG : Hid (hypS x = ⟨#[]⟩) := hid (by unfold hypS; rw [hv]; rfl)
    go_enter Tryd.func29, Tryd.ntmps29
    go_wp2_with fail
    refine CV.mono ?_
    rintro e w2 ⟨rfl, hb⟩
    go_wp2_with fail
    go_ret
    exact ⟨by rw [HG.out]; rfl, hb⟩
  rw [hv] at CV
  have hn8 := hypN_ok hv
  by_cases h0 : x.length = 0
  · have HG : Hid (hypS x = ⟨#[110, 111, 110, 101]⟩) := hid (by unfold hypS; rw [hv, if_pos h0]; rfl)
    have hz : ((x.length : Int) == 0) = true := by rw [h0]; rfl
    clear h0 hv hn8
    go_enter Tryd.func29, Tryd.ntmps29
    go_wp2_with fail
    refine CV.mono ?_
    rintro e w2 ⟨rfl, hb⟩
    go_wp2_with fail
    go_ret
    exact ⟨by rw [HG.out]; rfl, hb⟩
  have HG : Hid (hypS x = ofL (hypT x)) := hid (by unfold hypS; rw [hv, if_neg h0]; rfl)
  have hz : ((x.length : Int) == 0) = false := by rw [beq_eq_false_iff_ne]; omega
  have HV := hid hv
  clear hv
  go_enter Tryd.func29, Tryd.ntmps29
  go_wp2_with fail
  refine CV.mono ?_
  rintro e w2 ⟨rfl, hb2⟩
  have ht2 := ht.below hb2
  have hs2 := hb2.size
  clear CV
  go_wp2_with fail
  go_loopw [3, 14] (fun u i wr => ∃ k : Nat, k ≤ x.length ∧ i = .int .i64 k ∧ Own eStr 9 w2.heap.size wr u ((x.take k).map lnH) ∧ Below w2.heap.size w2 wr) (fun _ i _ => x.length - (intOf i).toNat)
  case atStart => exact ⟨0, Nat.zero_le _, rfl, Own.nil _ _ _, Below.refl _ _⟩
  case round =>
    obtain ⟨k, hk, rfl, hown, hbl⟩ := hrel
    have hlt' := hbl.size
    obtain ⟨ta, tc, hu⟩ := hown.isSlice
    rw [List.length_map, List.length_take, Nat.min_eq_left hk] at hu
    subst hu
    by_cases hlt : k < x.length
    · have hli : (k : Int) < (x.length : Int) := by omega
      obtain ⟨hao', hbw⟩ := hao (by omega)
      subst hao'
      obtain ⟨e, he⟩ : ∃ e, x[k]? = some e := ⟨_, List.getElem?_eq_getElem hlt⟩
      have heo := hypE_ok HV.out (List.mem_of_getElem? he)
      obtain ⟨d0, d1⟩ := eHyp_cells (hc.below (hb2.trans (hbl.mono hs2)) hbw) he
      obtain ⟨TS, hTS⟩ : ∃ TS, TS = (x.take k).map lnH := ⟨_, rfl⟩
      have HT : Hid ((x.take (k + 1)).map lnH = TS ++ [lnH e]) := hid (by rw [hTS, List.take_add_one, he]; simp)
      have htl : TS.length = k := by rw [hTS, List.length_map, List.length_take, Nat.min_eq_left hk]
      rw [← hTS] at hown
      have hz1 := decS_size heo.2
      have HTL := hid htl
      clear hTS htl he
      go_upto_region 9 with fail
      obtain ⟨pe, hpe⟩ : ∃ pe, pe = wr.heap.size := ⟨_, rfl⟩
      obtain ⟨we, hwe⟩ : ∃ we, we = wr.alloc (.cells #[.string e.label, .int .i64 e.cost] 52) := ⟨_, rfl⟩
      rw [← hwe, ← hpe]
      have hbe : Below wr.heap.size wr we := by rw [hwe]; exact below_alloc _ _
      have y0 : we.cell? ⟨pe, 0, none⟩ = some (.string e.label) := by rw [hwe, hpe]; simp
      have y1 : we.cell? ⟨pe, 1, none⟩ = some (.int .i64 e.cost) := by rw [hwe, hpe]; simp
      have hble : Below w2.heap.size w2 we := hbl.trans (hbe.mono hlt')
      have hse := hble.size
      have hte := ht2.below hble
      have hown2 := hown.below hbe
      obtain ⟨el, ec⟩ := e
      simp only at heo hz1 y0 y1
      have CD := fun w' (hbw : Below we.heap.size we w') => Decimal_any ec w' heo.2 (hte.below hbw)
      have hel := heo.1
      have a1 : ¬ (9223372036854775807 < el.size + 1) := by omega
      have a2 : ¬ (9223372036854775807 < el.size + 1 + (decS ec).size) := by omega
      obtain ⟨LN, hLN⟩ : ∃ LN, LN = lnH ⟨el, ec⟩ := ⟨_, rfl⟩
      have HLN : Hid (LN = el ++ ⟨#[58]⟩ ++ decS ec) := hid hLN
      rw [← hLN] at HT
      clear hwe hpe hown hLN d0 d1 heo hel
      refine wp_region_stgy 7 9 (fun c w' => match c with | 0 => Below we.heap.size we w' | 1 => Below we.heap.size we w' | _ => Below w2.heap.size w2 w') (fun c i v w' => match i with
            | 0 => v = .slice ta k tc
            | 1 => v = .pointer (some ⟨pe, 0, none⟩)
            | 2 => v = .string el
            | 3 => v = .string (el ++ ⟨#[58]⟩)
            | 4 => v = .pointer (some ⟨pe, 1, none⟩)
            | 5 => v = .int .i64 ec
            | 6 => v = .string (decS ec)
            | 7 => (match c with | 0 => True | 1 => v = .string LN | _ => v = .string LN)
            | 8 => (match c with | 0 => False | 1 => Arr eStr w' v [LN] | _ => True)
            | 9 => (match c with | 0 => True | 1 => True | _ => (Own eStr 9 w2.heap.size w' v (TS ++ [LN])))
            | 10 => (match c with | 0 => False | 1 => False | _ => Own eStr 9 w2.heap.size w' v (TS ++ [LN]))
            | _ => True) (by kernel_rfl) (by kernel_rfl) (by kernel_rfl) (by kernel_rfl) (by kernel_rfl) ?_ ?_ ?_ ?_ ?_ ?_ (by decide) ?_
      · exact (Below.refl _ we).drew
      · intro c w w' h hb
        match c, h with
        | 0, h => exact Below.trans (B := we.heap.size) h (hb.mono (Below.size h))
        | 1, h => exact Below.trans (B := we.heap.size) h (hb.mono (Below.size h))
        | (k + 2), h => exact (h.trans (hb.mono h.size))
      · intro c i v w w' h hb
        match i, h with
        | 0, h => exact h
        | 1, h => exact h
        | 2, h => exact h
        | 3, h => exact h
        | 4, h => exact h
        | 5, h => exact h
        | 6, h => exact h
        | 7, h =>
          match c, h with
          | 0, h => exact trivial
          | 1, h => exact h
          | (k + 2), h => exact h
        | 8, h =>
          match c, h with
          | 0, h => exact h
          | 1, h => exact (h.below hb)
          | (k + 2), h => exact trivial
        | 9, h =>
          match c, h with
          | 0, h => exact trivial
          | 1, h => exact trivial
          | (k + 2), h => exact (h.below hb)
        | 10, h =>
          match c, h with
          | 0, h => exact h
          | 1, h => exact h
          | (k + 2), h => exact (h.below hb)
        | (k + 11), h => exact h
      · refine ⟨?_, ?_, ?_, ?_, ?_, ?_, ?_, ?_, ?_, ?_, ?_, trivial⟩
        · refine .inr (.inr ⟨fun _ => ?_, fun _ => ?_, can_no (by kernel_rfl)⟩)
          · intro ρ w' hbw ht hcs hfn hgl hpr hdep G hG
            replace hbw : Below we.heap.size we w' := hbw
            refine ⟨fun _ => ?_, fun h => by cases h⟩
            have s3 : ρ (.tmp 3) = .slice ta k tc := hpr 10 3 rfl (by kernel_rfl)
            clear ht hdep hgl hpr
            go_simp
            exact hG _ _ (Below.refl _ _) rfl
          · intro ρ w' hbw ht hcs hfn hgl hpr hdep G hG
            replace hbw : Below we.heap.size we w' := hbw
            refine ⟨fun _ => ?_, fun h => by cases h⟩
            have s3 : ρ (.tmp 3) = .slice ta k tc := hpr 10 3 rfl (by kernel_rfl)
            clear ht hdep hgl hpr
            go_simp
            exact hG _ _ (Below.refl _ _) rfl
        · refine .inr (.inr ⟨fun _ => ?_, can_no (by kernel_rfl), can_no (by kernel_rfl)⟩)
          · intro ρ w' hbw ht hcs hfn hgl hpr hdep G hG
            replace hbw : Below we.heap.size we w' := hbw
            refine ⟨fun _ => ?_, fun h => by cases h⟩
            have s5 : ρ (.tmp 5) = .pointer (some ⟨pe, 0, none⟩) := ht 5 rfl
            clear ht hdep hgl hpr
            go_simp
            exact hG _ _ (Below.refl _ _) rfl
        · refine .inr (.inr ⟨fun _ => ?_, can_no (by kernel_rfl), can_no (by kernel_rfl)⟩)
          · intro ρ w' hbw ht hcs hfn hgl hpr hdep G hG
            replace hbw : Below we.heap.size we w' := hbw
            refine ⟨fun _ => ?_, fun h => by cases h⟩
            have s19 : ρ (.tmp 19) = .pointer (some ⟨pe, 0, none⟩) := hdep ⟨1, .data⟩ (by simp) rfl 19 rfl
            have y0 := cell_later hbw y0
            have y1 := cell_later hbw y1
            clear ht hdep hgl hpr
            go_simp
            exact hG _ _ (Below.refl _ _) rfl
        · refine .inr (.inr ⟨fun _ => ?_, can_no (by kernel_rfl), can_no (by kernel_rfl)⟩)
          · intro ρ w' hbw ht hcs hfn hgl hpr hdep G hG
            replace hbw : Below we.heap.size we w' := hbw
            refine ⟨fun _ => ?_, fun h => by cases h⟩
            have s20 : ρ (.tmp 20) = .string el := hdep ⟨2, .data⟩ (by simp) rfl 20 rfl
            clear ht hdep hgl hpr
            go_simp
            exact hG _ _ (Below.refl _ _) rfl
        · refine .inr (.inr ⟨fun _ => ?_, can_no (by kernel_rfl), can_no (by kernel_rfl)⟩)
          · intro ρ w' hbw ht hcs hfn hgl hpr hdep G hG
            replace hbw : Below we.heap.size we w' := hbw
            refine ⟨fun _ => ?_, fun h => by cases h⟩
            have s5 : ρ (.tmp 5) = .pointer (some ⟨pe, 0, none⟩) := ht 5 rfl
            clear ht hdep hgl hpr
            go_simp
            exact hG _ _ (Below.refl _ _) rfl
        · refine .inr (.inr ⟨fun _ => ?_, can_no (by kernel_rfl), can_no (by kernel_rfl)⟩)
          · intro ρ w' hbw ht hcs hfn hgl hpr hdep G hG
            replace hbw : Below we.heap.size we w' := hbw
            refine ⟨fun _ => ?_, fun h => by cases h⟩
            have s22 : ρ (.tmp 22) = .pointer (some ⟨pe, 1, none⟩) := hdep ⟨4, .data⟩ (by simp) rfl 22 rfl
            have y0 := cell_later hbw y0
            have y1 := cell_later hbw y1
            clear ht hdep hgl hpr
            go_simp
            exact hG _ _ (Below.refl _ _) rfl
        · refine .inr (.inr ⟨fun _ => ?_, can_no (by kernel_rfl), can_no (by kernel_rfl)⟩)
          · intro ρ w' hbw ht hcs hfn hgl hpr hdep G hG
            replace hbw : Below we.heap.size we w' := hbw
            refine ⟨fun _ => ?_, fun h => by cases h⟩
            have s23 : ρ (.tmp 23) = .int .i64 ec := hdep ⟨5, .data⟩ (by simp) rfl 23 rfl
            clear ht hdep hgl hpr
            go_simp
            exact (CD w' hbw).mono fun e w'' ⟨he, hb⟩ => ⟨_, he, hG _ _ hb rfl⟩
        · exact .inl rfl
        · refine .inr (.inr ⟨can_no (by kernel_rfl), fun _ => ?_, can_no (by kernel_rfl)⟩)
          · intro ρ w' hbw ht hcs hfn hgl hpr hdep G hG
            replace hbw : Below we.heap.size we w' := hbw
            refine ⟨fun _ => ?_, fun h => by cases h⟩
            have d25 := hdep ⟨7, .data⟩ (by simp) rfl 25 rfl
            clear ht hdep hgl hpr
            replace d25 : ρ (.tmp 25) = .string LN := d25
            go_simp
            exact hG _ _ (below_alloc _ _) (arr_block1 (E := eStr) (n := 1) [LN] #[.string LN] rfl rfl (by decide) (by simp))
        · exact .inr (.inl rfl)
        · refine .inr (.inr ⟨can_no (by kernel_rfl), can_no (by kernel_rfl), fun _ => ?_⟩)
          · intro ρ w' hbw ht hcs hfn hgl hpr hdep G hG
            refine ⟨fun _ => ?_, fun h => by cases h⟩
            have d27 := hdep ⟨9, .data⟩ (by simp) rfl 27 rfl
            clear ht hdep hgl hpr
            go_simp
            exact hG _ _ (Below.refl _ _) d27
      · intro o ho
        obtain rfl := Option.some.inj ho
        intro ρ w' hbw ht hcs hfn hgl hpr hdep G hG
        replace hbw : Below we.heap.size we w' := hbw
        refine ⟨fun _ => ?_, fun h => by cases h⟩
        have s21 : ρ (.tmp 21) = .string (el ++ ⟨#[58]⟩) := hdep ⟨3, .data⟩ (by simp) rfl 21 rfl
        have s24 : ρ (.tmp 24) = .string (decS ec) := hdep ⟨6, .data⟩ (by simp) rfl 24 rfl
        clear ht hdep hgl hpr
        go_simp
        refine hG _ _ hbw (show _ = _ by rw [HLN.out]) ?_
        intro j u hj hne h
        match j, h with
        | 0, h => exact h
        | 1, h => exact h
        | 2, h => exact h
        | 3, h => exact h
        | 4, h => exact h
        | 5, h => exact h
        | 6, h => exact h
        | 7, h => exact absurd rfl hne
        | 8, h => exact h.elim
        | 9, h => exact trivial
        | 10, h => exact h
        | (k + 11), h => exact h
      · intro o ho
        obtain rfl := Option.some.inj ho
        intro ρ w' hbw ht hcs hfn hgl hpr hdep G hG
        replace hbw : Below we.heap.size we w' := hbw
        refine ⟨fun _ => ?_, fun h => by cases h⟩
        have s18 : ρ (.tmp 18) = .slice ta k tc := hdep ⟨0, .data⟩ (by simp) rfl 18 rfl
        have d26 := hdep ⟨8, .data⟩ (by simp) rfl 26 rfl
        clear ht hdep hgl hpr
        refine upon_appO _ _ 35 (by rfl) w2.heap.size 9 _ 16 infStrT Tryd.underlying35 rfl _ TS s18 (hown2.below hbw) [LN] d26 (by have := HTL.out; unfold maxLen; simp <;> omega) (by have := HTL.out; simp <;> omega) (by have := hbw.size; omega) ?_
        intro v' wA hoA hgA hlA
        refine hG _ _ ((hble.trans (hbw.mono hse)).grown hgA (by have := hbw.size; omega) (fun kk hh => (World.ownsRow.lt (hown2.below hbw) kk hh).1)) hoA ?_
        intro j u hj hne hru h
        match j, h with
        | 0, h => exact h
        | 1, h => exact h
        | 2, h => exact h
        | 3, h => exact h
        | 4, h => exact h
        | 5, h => exact h
        | 6, h => exact h
        | 7, h => exact h
        | 8, h => exact trivial
        | 9, h => exact absurd rfl hne
        | 10, h => exact h.elim
        | (k + 11), h => exact h
      intro xx w6 hF hx
      have HW := hx 10 (by simp)
      clear hx
      simp only [putAll, Act.put, List.setIfInBounds_toArray, List.set_cons_succ, List.set_cons_zero, Nat.zero_add, Nat.reduceAdd]
      have HWW := hid HW
      clear HW CD y0 y1
      generalize xx 10 = u' at *
      generalize xx 8 = u8' at *
      generalize xx 9 = u9' at *
      go_wp2_with fail
      go_roundw
      case rel => exact ⟨k + 1, by omega, by go_num, by rw [HT.out]; exact HWW.out, hF⟩
      case measure => simp [intOf]; omega
    · obtain rfl : k = x.length := by omega
      have hli : ¬ ((x.length : Int) < (x.length : Int)) := by omega
      rw [List.take_length] at hown
      obtain ⟨b2, off2, ao2, cap2, hv2, hnc2, hcm2, hao2, hc2⟩ := hown.arr
      obtain ⟨e1, hb2w⟩ := hao2 (by rw [List.length_map]; omega)
      subst e1
      rw [List.length_map] at hv2 hnc2
      simp only [Value.slice.injEq] at hv2
      obtain ⟨rfl, _, rfl⟩ := hv2
      unfold maxLen at hcm2
      have hjl : (Lib.join (((x.map lnH)).map (·.data.toList)) (⟨#[32]⟩ : ByteArray).data.toList) = hypT x := by
        unfold hypT hyL
        rw [List.map_map]; rfl
      have hll := hypT_len HV.out x.length
      rw [List.take_length] at hll
      have CJ := Tryd.strings_Join b2 off2 tc (x.map lnH) ⟨#[32]⟩ wr (fun j y hy => eStr_cell hc2 hy) hb2w (by rw [List.length_map]; omega) (by rw [List.length_map]; omega) (by rw [hjl]; omega)
      rw [hjl, List.length_map] at CJ
      clear hc2 hao2 hown hjl hll
      go_wp2_with fail
      refine CJ.mono ?_
      rintro e w6 ⟨rfl, hb6⟩
      go_wp2_with fail
      go_ret
      exact ⟨by rw [HG.out]; rfl, hb2.trans ((hbl.trans (hb6.mono hlt')).mono hs2)⟩
end Go.Proofs.YtbgjojnjbplblaaDoor
