/- LexiconText: both calls. -/
import Derived.Test.YtbgjojnjbplblaaDoorLxValid
import Derived.Test.YtbgjojnjbplblaaDoorTxBld
import Derived.Deep.Cut
import Derived.BigQuiet
namespace Go.Proofs.YtbgjojnjbplblaaDoor
open Go.RowKit

def lnE (e : DEntry) : ByteArray := e.word ++ ⟨#[32]⟩ ++ decS e.cost ++ ⟨#[10]⟩
def entL (e : DEntry) : List UInt8 := (lnE e).data.toList
def lexL (x : XLexicon) : List UInt8 := x.flatMap entL
def lexS (x : XLexicon) : ByteArray := if validLx x then ofL (lexL x) else ⟨#[]⟩
theorem lexE_ok {x : XLexicon} (h : validLx x = true) {e : DEntry} (he : e ∈ x) : e.word.size ≤ 10 ∧ okN e.cost := by
  obtain ⟨k, hk⟩ := List.getElem?_of_mem he
  cases hb : entOk x k e with
  | false => rw [validLx_at hk hb] at h; cases h
  | true =>
    unfold entOk at hb
    rw [Bool.and_eq_true, Bool.and_eq_true, inB_true] at hb
    refine ⟨?_, by unfold okN; omega⟩
    have h1 := hb.1.1
    unfold isWordB at h1
    simp only [Bool.and_eq_true, inB_true] at h1
    omega
theorem lnE_size {e : DEntry} (h : e.word.size ≤ 10 ∧ okN e.cost) : (lnE e).size ≤ 33 := by
  have := decS_size h.2
  unfold lnE
  rw [ByteArray.size_append, ByteArray.size_append, ByteArray.size_append]
  show e.word.size + 1 + (decS e.cost).size + 1 ≤ 33
  omega
theorem lex_len {x : XLexicon} (h : validLx x = true) (k : Nat) : (lexL (x.take k)).length ≤ 33 * 60 := by
  have h1 := flat_len entL 33 (x.take k) fun e he => by
    have := lnE_size (lexE_ok h (List.mem_of_mem_take he))
    rw [size_list] at this
    exact this
  have h2 : x.length ≤ 60 := by
    unfold validLx at h
    rw [Bool.and_eq_true, decide_eq_true_eq] at h
    exact h.2
  have h3 : (x.take k).length ≤ 60 := by rw [List.length_take]; omega
  unfold lexL
  have h4 := Nat.mul_le_mul_left 33 h3
  omega
set_option maxRecDepth 100000 in
set_option maxHeartbeats 4000000 in
theorem implLexiconText_any (v : Value) (x : XLexicon) (w : World) {lo hi : Nat} (h : rLexicon.at_ lo hi w v x) (ok : okLexicon x) (g : goodLexicon x) (ht : TabL w) :
    Calls Tryd.prog 22 #[v] w (Ret (.string (lexS x)) w) := by
  have h0 := h
  obtain ⟨u, rfl, ha⟩ := h
  have hA := ha.arr
  obtain ⟨b, off, ao, cap, rfl, hnc, hcm, hao, hc⟩ := hA
  unfold maxLen at hcm
  obtain ⟨W, hW⟩ : ∃ u, u = (w.alloc (.cells #[.slice ao x.length cap] 24)) := ⟨_, rfl⟩
  have hbW : Below w.heap.size w W := by rw [hW]; exact belowA1 _ _
  have q1 : Box W (w.heap.size) #[.slice ao x.length cap] 24 := by
    have hq := Box.new w #[.slice ao x.length cap] 24
    rw [hW]
    exact hq
  obtain ⟨p1, hp1⟩ : ∃ p, p = w.heap.size := ⟨_, rfl⟩
  rw [← hp1] at q1
  have hge1 : w.heap.size ≤ p1 := by omega
  have hlW : w.heap.size ≤ W.heap.size := hbW.size
  have hlp1 : p1 < W.heap.size := q1.lt
  have HP1 := hid hp1
  have HW := hid hW
  clear hW hp1
  have htW := ht.below hbW
  have m0 := q1.cell (j := 0) rfl
  have CV := implValidLexicon_any _ x W (rLexicon.at_below h0 hbW) ok g
  cases hv : validLx x
  · rw [hv] at CV
    have HG : Hid (lexS x = ⟨#[]⟩) := hid (by unfold lexS; rw [hv]; rfl)
    go_enter Tryd.func22, Tryd.ntmps22
    go_upto_region 1 with fail
    rw [← HP1.out, ← HW.out]
    go_wp2_with fail
    refine CV.mono ?_
    rintro e w2 ⟨rfl, hb⟩
    go_wp2_with fail
    go_ret
    exact ⟨by rw [HG.out]; rfl, hbW.trans (hb.mono hlW)⟩
  rw [hv] at CV
  have HG : Hid (lexS x = ofL (lexL x)) := hid (by unfold lexS; rw [hv]; rfl)
  have HV := hid hv
  clear hv ha h0
  go_enter Tryd.func22, Tryd.ntmps22
  go_upto_region 1 with fail
  rw [← HP1.out, ← HW.out]
  go_wp2_with fail
  refine CV.mono ?_
  rintro e w2 ⟨rfl, hb2⟩
  have hs2 := hb2.size
  go_upto_region 4 with fail
  obtain ⟨pb, hpb⟩ : ∃ pb, pb = w2.heap.size := ⟨_, rfl⟩
  obtain ⟨w3, hw3⟩ : ∃ w3, w3 = w2.alloc (.cells #[.pointer none, .slice none 0 0] 73) := ⟨_, rfl⟩
  rw [← hw3, ← hpb]
  have hB3 : Bld pb pb [] w3 := by rw [hw3, hpb]; exact bldNew w2
  have hb3 : Below W.heap.size W w3 := by rw [hw3]; exact hb2.trans ((below_alloc _ _).mono hs2)
  have n0 := cell_later hb3 m0
  have hpbl : pb < w3.heap.size := by rw [hw3, hpb]; simp
  have hpW : W.heap.size ≤ pb := by omega
  have htW3 := htW.below hb3
  have hgt : 3 < pb := Nat.lt_of_lt_of_le htW.lt hpW
  have hbE3 := hbW.trans (hb3.mono hlW)
  clear hw3 hpb CV m0 q1
  go_wp2_with fail
  go_loopw [12] (fun i wr => ∃ k : Nat, k ≤ x.length ∧ i = .int .i64 k ∧ Bld pb pb (lexL (x.take k)) wr ∧ Below pb w3 wr) (fun i _ => x.length - (intOf i).toNat)
  case atStart => exact ⟨0, Nat.zero_le _, rfl, hB3, Below.refl _ _⟩
  case round =>
    clear hB3
    obtain ⟨k, hk, rfl, hB, hbl⟩ := hrel
    have hlt' := hbl.size
    by_cases hlt : k < x.length
    · have hli : (k : Int) < (x.length : Int) := by omega
      obtain ⟨hao', hbw⟩ := hao (by omega)
      subst hao'
      obtain ⟨e, he⟩ : ∃ e, x[k]? = some e := ⟨_, List.getElem?_eq_getElem hlt⟩
      have heo := lexE_ok HV.out (List.mem_of_getElem? he)
      have hbE := hbE3.trans (hbl.mono (by omega))
      obtain ⟨d0, d1⟩ := eEntry_cells (hc.below hbE hbw) he
      have HT := hid (flat_take entL he)
      have hll := lex_len HV.out k
      have hls := lnE_size heo
      have hds := decS_size heo.2
      clear he
      go_upto_region 7 with fail
      obtain ⟨pe, hpe⟩ : ∃ pe, pe = wr.heap.size := ⟨_, rfl⟩
      obtain ⟨we, hwe⟩ : ∃ we, we = wr.alloc (.cells #[.string e.word, .int .i64 e.cost] 40) := ⟨_, rfl⟩
      rw [← hwe, ← hpe]
      have hbe : Below wr.heap.size wr we := by rw [hwe]; exact below_alloc _ _
      have z0 : we.cell? ⟨pe, 0, none⟩ = some (.string e.word) := by rw [hwe, hpe]; simp
      have z1 : we.cell? ⟨pe, 1, none⟩ = some (.int .i64 e.cost) := by rw [hwe, hpe]; simp
      have hBe := hB.later hbe
      have hble : Below pb w3 we := hbl.trans (hbe.mono (by omega))
      have hse := hble.size
      have hte := htW3.on hble hgt
      have CW := fun w' (hbw : Below we.heap.size we w') => bldWrite pb pb (lexL (x.take k)) (lnE e) w' (hBe.later hbw) (by omega) (by have := hbw.size; omega)
      have CD := fun w' (hbw : Below we.heap.size we w') => Decimal_any e.cost w' heo.2 (hte.below hbw)
      have hz1 : ¬ (9223372036854775807 < e.word.size + 1) := by omega
      have hz2 : ¬ (9223372036854775807 < e.word.size + 1 + (decS e.cost).size) := by omega
      have hz3 : ¬ (9223372036854775807 < e.word.size + 1 + (decS e.cost).size + 1) := by omega
      have HLN : Hid (lnE e = e.word ++ ⟨#[32]⟩ ++ decS e.cost ++ ⟨#[10]⟩) := hid rfl
      obtain ⟨LN, hLN⟩ : ∃ LN, LN = lnE e := ⟨_, rfl⟩
      rw [← hLN] at CW HLN
      have HL := hid hLN
      clear hwe hpe hbe hB hBe hds hLN d0 d1 hls hll heo
      refine wp_region_stg 7 8 (fun c w' => match c with | 0 => Below we.heap.size we w' | 1 => Below we.heap.size we w' | _ => (Bld pb pb (lexL (x.take k) ++ LN.data.toList) w' ∧ Below pb w3 w')) (fun c i v w' => match i with
            | 0 => v = .pointer (some ⟨pe, 0, none⟩)
            | 1 => v = .string e.word
            | 2 => v = .string (e.word ++ ⟨#[32]⟩)
            | 3 => v = .pointer (some ⟨pe, 1, none⟩)
            | 4 => v = .int .i64 e.cost
            | 5 => v = .string (decS e.cost)
            | 6 => v = .string (e.word ++ ⟨#[32]⟩ ++ decS e.cost)
            | 7 => (match c with | 0 => True | 1 => v = .string LN | _ => v = .string LN)
            | 8 => (match c with | 0 => True | 1 => True | _ => True)
            | _ => True) (by kernel_rfl) (by kernel_rfl) (by kernel_rfl) (by kernel_rfl) (by kernel_rfl) ?_ ?_ ?_ ?_ ?_ ?_ (by decide) ?_
      · exact (Below.refl _ we).drew
      · intro c w w' h hb
        match c, h with
        | 0, h => exact Below.trans (B := we.heap.size) h (hb.mono (Below.size h))
        | 1, h => exact Below.trans (B := we.heap.size) h (hb.mono (Below.size h))
        | (k + 2), h => exact ⟨h.1.later hb, h.2.trans (hb.mono (by have := h.2.size; omega))⟩
      · intro c i v w w' h hb
        match i, h with
        | 0, h => exact h
        | 1, h => exact h
        | 2, h => exact h
        | 3, h => exact h
        | 4, h => exact h
        | 5, h => exact h
        | 6, h => exact h
        | 7, h =>
          match c, h with
          | 0, h => exact trivial
          | 1, h => exact h
          | (k + 2), h => exact h
        | 8, h =>
          match c, h with
          | 0, h => exact trivial
          | 1, h => exact trivial
          | (k + 2), h => exact trivial
        | (k + 9), h => exact h
      · refine ⟨?_, ?_, ?_, ?_, ?_, ?_, ?_, ?_, ?_, trivial⟩
        · refine .inr (.inr ⟨fun _ => ?_, can_no (by kernel_rfl), can_no (by kernel_rfl)⟩)
          · intro ρ w' hbw ht hcs hfn hgl hdep G hG
            replace hbw : Below we.heap.size we w' := hbw
            refine ⟨fun _ => ?_, fun h => by cases h⟩
            have s5 : ρ (.tmp 5) = .pointer (some ⟨pe, 0, none⟩) := ht 5 rfl
            clear ht hdep hgl
            go_simp
            exact hG _ _ (Below.refl _ _) rfl
        · refine .inr (.inr ⟨fun _ => ?_, can_no (by kernel_rfl), can_no (by kernel_rfl)⟩)
          · intro ρ w' hbw ht hcs hfn hgl hdep G hG
            replace hbw : Below we.heap.size we w' := hbw
            refine ⟨fun _ => ?_, fun h => by cases h⟩
            have s16 : ρ (.tmp 16) = .pointer (some ⟨pe, 0, none⟩) := hdep ⟨0, .data⟩ (by simp) rfl 16 rfl
            have z0 := cell_later hbw z0
            have z1 := cell_later hbw z1
            clear ht hdep hgl
            go_simp
            exact hG _ _ (Below.refl _ _) rfl
        · refine .inr (.inr ⟨fun _ => ?_, can_no (by kernel_rfl), can_no (by kernel_rfl)⟩)
          · intro ρ w' hbw ht hcs hfn hgl hdep G hG
            replace hbw : Below we.heap.size we w' := hbw
            refine ⟨fun _ => ?_, fun h => by cases h⟩
            have s17 : ρ (.tmp 17) = .string e.word := hdep ⟨1, .data⟩ (by simp) rfl 17 rfl
            clear ht hdep hgl
            go_simp
            exact hG _ _ (Below.refl _ _) rfl
        · refine .inr (.inr ⟨fun _ => ?_, can_no (by kernel_rfl), can_no (by kernel_rfl)⟩)
          · intro ρ w' hbw ht hcs hfn hgl hdep G hG
            replace hbw : Below we.heap.size we w' := hbw
            refine ⟨fun _ => ?_, fun h => by cases h⟩
            have s5 : ρ (.tmp 5) = .pointer (some ⟨pe, 0, none⟩) := ht 5 rfl
            clear ht hdep hgl
            go_simp
            exact hG _ _ (Below.refl _ _) rfl
        · refine .inr (.inr ⟨fun _ => ?_, can_no (by kernel_rfl), can_no (by kernel_rfl)⟩)
          · intro ρ w' hbw ht hcs hfn hgl hdep G hG
            replace hbw : Below we.heap.size we w' := hbw
            refine ⟨fun _ => ?_, fun h => by cases h⟩
            have s19 : ρ (.tmp 19) = .pointer (some ⟨pe, 1, none⟩) := hdep ⟨3, .data⟩ (by simp) rfl 19 rfl
            have z0 := cell_later hbw z0
            have z1 := cell_later hbw z1
            clear ht hdep hgl
            go_simp
            exact hG _ _ (Below.refl _ _) rfl
        · refine .inr (.inr ⟨fun _ => ?_, can_no (by kernel_rfl), can_no (by kernel_rfl)⟩)
          · intro ρ w' hbw ht hcs hfn hgl hdep G hG
            replace hbw : Below we.heap.size we w' := hbw
            refine ⟨fun _ => ?_, fun h => by cases h⟩
            have s20 : ρ (.tmp 20) = .int .i64 e.cost := hdep ⟨4, .data⟩ (by simp) rfl 20 rfl
            clear ht hdep hgl
            go_simp
            exact (CD w' hbw).mono fun e w'' ⟨he, hb⟩ => ⟨_, he, hG _ _ hb rfl⟩
        · refine .inr (.inr ⟨fun _ => ?_, can_no (by kernel_rfl), can_no (by kernel_rfl)⟩)
          · intro ρ w' hbw ht hcs hfn hgl hdep G hG
            replace hbw : Below we.heap.size we w' := hbw
            refine ⟨fun _ => ?_, fun h => by cases h⟩
            have s18 : ρ (.tmp 18) = .string (e.word ++ ⟨#[32]⟩) := hdep ⟨2, .data⟩ (by simp) rfl 18 rfl
            have s21 : ρ (.tmp 21) = .string (decS e.cost) := hdep ⟨5, .data⟩ (by simp) rfl 21 rfl
            clear ht hdep hgl
            go_simp
            exact hG _ _ (Below.refl _ _) rfl
        · exact .inl rfl
        · exact .inr (.inl rfl)
      · intro o ho
        obtain rfl := Option.some.inj ho
        intro ρ w' hbw ht hcs hfn hgl hdep G hG
        replace hbw : Below we.heap.size we w' := hbw
        refine ⟨fun _ => ?_, fun h => by cases h⟩
        have s22 : ρ (.tmp 22) = .string (e.word ++ ⟨#[32]⟩ ++ decS e.cost) := hdep ⟨6, .data⟩ (by simp) rfl 22 rfl
        clear ht hdep hgl
        go_simp
        refine hG _ _ hbw (show _ = _ by rw [HLN.out]) ?_
        intro j u hj hne h
        match j, h with
        | 0, h => exact h
        | 1, h => exact h
        | 2, h => exact h
        | 3, h => exact h
        | 4, h => exact h
        | 5, h => exact h
        | 6, h => exact h
        | 7, h => exact absurd rfl hne
        | 8, h => exact trivial
        | (k + 9), h => exact h
      · intro o ho
        obtain rfl := Option.some.inj ho
        intro ρ w' hbw ht hcs hfn hgl hdep G hG
        replace hbw : Below we.heap.size we w' := hbw
        refine ⟨fun _ => ?_, fun h => by cases h⟩
        have s3 : ρ (.tmp 3) = .pointer (some ⟨pb, 0, none⟩) := ht 3 rfl
        have d23 := hdep ⟨7, .data⟩ (by simp) rfl 23 rfl
        clear ht hdep hgl
        replace d23 : ρ (.tmp 23) = .string LN := d23
        go_simp
        refine (CW w' hbw).mono ?_
        intro e w'' ⟨he, hB, hb⟩
        refine ⟨_, he, hG _ _ ⟨hB, (hble.trans (hbw.mono (by omega))).trans hb⟩ trivial ?_⟩
        intro j u hj hne h
        match j, h with
        | 0, h => exact h
        | 1, h => exact h
        | 2, h => exact h
        | 3, h => exact h
        | 4, h => exact h
        | 5, h => exact h
        | 6, h => exact h
        | 7, h => exact h
        | 8, h => exact trivial
        | (k + 9), h => exact h
      intro xx w6 hF hx
      clear hx
      simp only [putAll, Act.put, List.setIfInBounds_toArray, List.set_cons_succ, List.set_cons_zero, Nat.zero_add, Nat.reduceAdd]
      obtain ⟨hB6, hbl6⟩ := hF
      have HB6 := hid hB6
      clear hB6 CW CD z0 z1
      generalize xx 8 = tup at *
      go_wp2_with fail
      go_roundw
      case rel => exact ⟨k + 1, by omega, by go_num, by unfold lexL; rw [HT.out]; have := HB6.out; rw [HL.out] at this; exact this, hbl6⟩
      case measure => simp [intOf]; omega
    · obtain rfl : k = x.length := by omega
      have hli : ¬ ((x.length : Int) < (x.length : Int)) := by omega
      rw [List.take_length] at hB
      have CS := bldString pb pb (lexL x) wr hB (by omega)
      go_wp2_with fail
      refine CS.mono ?_
      rintro e w6 ⟨rfl, hb6⟩
      go_wp2_with fail
      go_ret
      exact ⟨by rw [HG.out]; rfl, (hbE3.trans (hbl.mono (by omega))).trans (hb6.mono (by omega))⟩
theorem lexS_step {x : XLexicon} {k : Nat} {e : DEntry} (h : x[k]? = some e) : ofL (lexL (x.take k)) ++ lnE e = ofL (lexL (x.take (k + 1))) := by
  rw [ofL_app]
  unfold lexL
  rw [flat_take entL h]; rfl
end Go.Proofs.YtbgjojnjbplblaaDoor
