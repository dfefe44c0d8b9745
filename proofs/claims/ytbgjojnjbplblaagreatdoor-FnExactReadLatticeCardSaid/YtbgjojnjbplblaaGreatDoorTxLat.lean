/- LatticeText: both calls. -/
import Derived.Test.YtbgjojnjbplblaaGreatDoorLtValid
import Derived.Test.YtbgjojnjbplblaaGreatDoorTxBld
import Derived.Deep.Cut
import Derived.BigQuiet
namespace Go.Proofs.YtbgjojnjbplblaaGreatDoor
open Go.RowKit

def lnD (e : DEdge) : ByteArray := decS e.frm ++ ⟨#[32]⟩ ++ decS e.to_ ++ ⟨#[32]⟩ ++ e.label ++ ⟨#[32]⟩ ++ decS e.cost ++ ⟨#[10]⟩
def edgL (e : DEdge) : List UInt8 := (lnD e).data.toList
def hdS (n : Int) : ByteArray := ⟨#[108, 97, 116, 116, 105, 99, 101, 32]⟩ ++ decS n ++ ⟨#[10]⟩
def latL (n : Int) (x : List DEdge) : List UInt8 := (hdS n).data.toList ++ x.flatMap edgL
def latS (x : XLattice) : ByteArray := if validLt x then ofL (latL x.1 x.2) else ⟨#[]⟩
theorem latN_ok {n : Int} {x : List DEdge} (h : validLt (n, x) = true) : okN n ∧ x.length ≤ 200 := by
  unfold validLt at h
  simp only [Bool.and_eq_true, decide_eq_true_eq, inB_true] at h
  exact ⟨by unfold okN; omega, h.1.2⟩
theorem latE_ok {n : Int} {x : List DEdge} (h : validLt (n, x) = true) {e : DEdge} (he : e ∈ x) : okN e.frm ∧ okN e.to_ ∧ e.label.size = 1 ∧ okN e.cost := by
  obtain ⟨k, hk⟩ := List.getElem?_of_mem he
  unfold validLt at h
  simp only [Bool.and_eq_true, decide_eq_true_eq, inB_true] at h
  cases hb : edOk n x k e with
  | false => have := h.2; rw [validEd_at hk hb] at this; cases this
  | true =>
    unfold edOk at hb
    rw [Bool.and_eq_true, Bool.and_eq_true] at hb
    have hf := hb.1.1
    unfold fitE at hf
    simp only [Bool.and_eq_true, decide_eq_true_eq, inB_true] at hf
    refine ⟨by unfold okN; omega, by unfold okN; omega, ?_, by unfold okN; omega⟩
    by_cases hs : e.label.size = 1
    · exact hs
    · have := hb.1.2; rw [isLabel_len hs] at this; cases this
theorem lnD_size {e : DEdge} (h : okN e.frm ∧ okN e.to_ ∧ e.label.size = 1 ∧ okN e.cost) : (lnD e).size ≤ 68 := by
  have h1 := decS_size h.1
  have h2 := decS_size h.2.1
  have h3 := decS_size h.2.2.2
  unfold lnD
  simp only [ByteArray.size_append]
  show (decS e.frm).size + 1 + (decS e.to_).size + 1 + e.label.size + 1 + (decS e.cost).size + 1 ≤ 68
  omega
theorem hdS_size {n : Int} (h : okN n) : (hdS n).size ≤ 30 := by
  have h1 := decS_size h
  unfold hdS
  simp only [ByteArray.size_append]
  show 8 + (decS n).size + 1 ≤ 30
  omega
theorem lat_len {n : Int} {x : List DEdge} (h : validLt (n, x) = true) (k : Nat) : (latL n (x.take k)).length ≤ 30 + 68 * 200 := by
  have h1 := flat_len edgL 68 (x.take k) fun e he => by
    have := lnD_size (latE_ok h (List.mem_of_mem_take he))
    rw [size_list] at this
    exact this
  have h2 := latN_ok h
  have h3 : (x.take k).length ≤ 200 := by rw [List.length_take]; omega
  have h4 := Nat.mul_le_mul_left 68 h3
  have h5 := hdS_size h2.1
  rw [size_list] at h5
  unfold latL
  rw [List.length_append]
  omega
theorem latL_step (n : Int) {x : List DEdge} {k : Nat} {e : DEdge} (h : x[k]? = some e) : latL n (x.take (k + 1)) = latL n (x.take k) ++ (lnD e).data.toList := by
  unfold latL
  rw [flat_take edgL h, List.append_assoc]; rfl
theorem latS_step (n : Int) {x : List DEdge} {k : Nat} {e : DEdge} (h : x[k]? = some e) : ofL (latL n (x.take k)) ++ lnD e = ofL (latL n (x.take (k + 1))) := by
  rw [ofL_app, latL_step n h]
set_option maxRecDepth 100000 in
set_option maxHeartbeats 4000000 in
theorem implLatticeText_any (v : Value) (x : XLattice) (w : World) {lo hi : Nat} (h : rLattice.at_ lo hi w v x) (ok : okLattice x) (g : goodLattice x) (ht : TabL w) :
    Calls Tryz.prog 21 #[v] w (Ret (.string (latS x)) w) := by
  have h0 := h
  obtain ⟨u, rfl, ha⟩ := h
  obtain ⟨n, x⟩ := x
  have hA := ArrIn.arr ha
  obtain ⟨b, off, ao, cap, rfl, hnc, hcm, hao, hc⟩ := hA
  unfold maxLen at hcm
  simp only at hnc hao hc
  obtain ⟨W, hW⟩ : ∃ u, u = (w.alloc (.cells #[.int .i64 n, .slice ao x.length cap] 24)) := ⟨_, rfl⟩
  have hbW : Below w.heap.size w W := by rw [hW]; exact belowA1 _ _
  have q1 : Box W (w.heap.size) #[.int .i64 n, .slice ao x.length cap] 24 := by
    have hq := Box.new w #[.int .i64 n, .slice ao x.length cap] 24
    rw [hW]
    exact hq
  obtain ⟨p1, hp1⟩ : ∃ p, p = w.heap.size := ⟨_, rfl⟩
  rw [← hp1] at q1
  have hge1 : w.heap.size ≤ p1 := by omega
  have hlW : w.heap.size ≤ W.heap.size := hbW.size
  have hlp1 : p1 < W.heap.size := q1.lt
  have HP1 := hid hp1
  have HW := hid hW
  clear hW hp1
  have htW := ht.below hbW
  have m0 := q1.cell (j := 0) rfl
  have m1 := q1.cell (j := 1) rfl
  have CV := implValidLattice_any _ (n, x) W (rLattice.at_below h0 hbW) ok g
  cases hv : validLt (n, x)
  · rw [hv] at CV
    have HG : Hid (latS (n, x) = ⟨#[]⟩) := hid (by unfold latS; rw [hv]; rfl)
    go_enter Tryz.func21, Tryz.ntmps21
    go_upto_region 1 with fail
    rw [← HP1.out, ← HW.out]
    go_wp2_with fail
    refine CV.mono ?_
    rintro e w2 ⟨rfl, hb⟩
    go_wp2_with fail
    go_ret
    exact ⟨by rw [HG.out]; rfl, hbW.trans (hb.mono hlW)⟩
  rw [hv] at CV
  have HG : Hid (latS (n, x) = ofL (latL n x)) := hid (by unfold latS; rw [hv]; rfl)
  have HV := hid hv
  have hnok := (latN_ok hv).1
  clear hv ha h0
  go_enter Tryz.func21, Tryz.ntmps21
  go_upto_region 1 with fail
  rw [← HP1.out, ← HW.out]
  go_wp2_with fail
  refine CV.mono ?_
  rintro e w2 ⟨rfl, hb2⟩
  have hs2 := hb2.size
  go_upto_region 4 with fail
  obtain ⟨pb, hpb⟩ : ∃ pb, pb = w2.heap.size := ⟨_, rfl⟩
  obtain ⟨w3, hw3⟩ : ∃ w3, w3 = w2.alloc (.cells #[.pointer none, .slice none 0 0] 78) := ⟨_, rfl⟩
  rw [← hw3, ← hpb]
  have hB3 : Bld pb pb [] w3 := by rw [hw3, hpb]; exact bldNew w2
  have hb3 : Below W.heap.size W w3 := by rw [hw3]; exact hb2.trans ((below_alloc _ _).mono hs2)
  have n0 := cell_later hb3 m0
  have n1 := cell_later hb3 m1
  have hpbl : pb < w3.heap.size := by rw [hw3, hpb]; simp
  have hpW : W.heap.size ≤ pb := by omega
  have htW3 := htW.below hb3
  have hgt : 3 < pb := Nat.lt_of_lt_of_le htW.lt hpW
  have hds := decS_size hnok
  clear hw3 hpb CV m0 m1 q1
  go_wp2_with fail
  refine (Decimal_any n w3 hnok htW3).mono ?_
  rintro e w4 ⟨rfl, hb4⟩
  have hs4 := hb4.size
  have CW0 := bldWrite pb pb [] (hdS n) w4 (hB3.later hb4) (by have := hdS_size hnok; simp; omega) (by omega)
  rw [show hdS n = ⟨#[108, 97, 116, 116, 105, 99, 101, 32]⟩ ++ decS n ++ ⟨#[10]⟩ from rfl] at CW0
  go_wp2_with fail
  refine CW0.mono ?_
  rintro e w5 ⟨rfl, hB5, hb5⟩
  have hb35 : Below pb w3 w5 := (hb4.mono (by omega)).trans hb5
  have hs5 := hb35.size
  have k1 : w5.cell? ⟨p1, 1, none⟩ = some (.slice ao x.length cap) := (hb35.cell (p := ⟨p1, 1, none⟩) (by show p1 < pb; omega)).trans n1
  have hbE5 : Below w.heap.size w w5 := (hbW.trans (hb3.mono hlW)).trans (hb35.mono (by omega))
  have htW5 := htW3.on hb35 hgt
  have HH5 : Hid (Bld pb pb (latL n (x.take 0)) w5) := hid (by
    have e : latL n (x.take 0) = [] ++ (hdS n).data.toList := by unfold latL; simp
    rw [e]; exact hB5)
  clear hB5 hB3 n0 n1 CW0
  go_wp2_with fail
  go_loopw [18] (fun i wr => ∃ k : Nat, k ≤ x.length ∧ i = .int .i64 k ∧ Bld pb pb (latL n (x.take k)) wr ∧ Below pb w5 wr) (fun i _ => x.length - (intOf i).toNat)
  case atStart => exact ⟨0, Nat.zero_le _, rfl, HH5.out, Below.refl _ _⟩
  case round =>
    obtain ⟨k, hk, rfl, hB, hbl⟩ := hrel
    have hlt' := hbl.size
    by_cases hlt : k < x.length
    · have hli : (k : Int) < (x.length : Int) := by omega
      obtain ⟨hao', hbw⟩ := hao (by omega)
      subst hao'
      obtain ⟨e, he⟩ : ∃ e, x[k]? = some e := ⟨_, List.getElem?_eq_getElem hlt⟩
      have heo := latE_ok HV.out (List.mem_of_getElem? he)
      have hbE := hbE5.trans (hbl.mono (by omega))
      obtain ⟨d0, d1, d2, d3⟩ := eEdge_cells (hc.below hbE hbw) he
      have HT := hid (latL_step n he)
      have hll := lat_len HV.out k
      have hls := lnD_size heo
      have hz0 := decS_size heo.1
      have hz1 := decS_size heo.2.1
      have hz2 := heo.2.2.1
      have hz3 := decS_size heo.2.2.2
      clear he
      go_upto_region 8 with fail
      obtain ⟨pe, hpe⟩ : ∃ pe, pe = wr.heap.size := ⟨_, rfl⟩
      obtain ⟨we, hwe⟩ : ∃ we, we = wr.alloc (.cells #[.int .i64 e.frm, .int .i64 e.to_, .string e.label, .int .i64 e.cost] 46) := ⟨_, rfl⟩
      rw [← hwe, ← hpe]
      have hbe : Below wr.heap.size wr we := by rw [hwe]; exact below_alloc _ _
      have y0 : we.cell? ⟨pe, 0, none⟩ = some (.int .i64 e.frm) := by rw [hwe, hpe]; simp
      have y1 : we.cell? ⟨pe, 1, none⟩ = some (.int .i64 e.to_) := by rw [hwe, hpe]; simp
      have y2 : we.cell? ⟨pe, 2, none⟩ = some (.string e.label) := by rw [hwe, hpe]; simp
      have y3 : we.cell? ⟨pe, 3, none⟩ = some (.int .i64 e.cost) := by rw [hwe, hpe]; simp
      have hBe := hB.later hbe
      have hble : Below pb w5 we := hbl.trans (hbe.mono (by omega))
      have hse := hble.size
      have hte := htW5.on hble hgt
      have CW := fun w' (hbw : Below we.heap.size we w') => bldWrite pb pb (latL n (x.take k)) (lnD e) w' (hBe.later hbw) (by omega) (by have := hbw.size; omega)
      have CD := fun (m : Int) (hm : okN m) w' (hbw : Below we.heap.size we w') => Decimal_any m w' hm (hte.below hbw)
      obtain ⟨ef, et, el, ec⟩ := e
      simp only at heo hz0 hz1 hz2 hz3 y0 y1 y2 y3
      have a1 : ¬ (9223372036854775807 < (decS ef).size + 1) := by omega
      have a2 : ¬ (9223372036854775807 < (decS ef).size + 1 + (decS et).size) := by omega
      have a3 : ¬ (9223372036854775807 < (decS ef).size + 1 + (decS et).size + 1) := by omega
      have a4 : ¬ (9223372036854775807 < (decS ef).size + 1 + (decS et).size + 1 + el.size) := by omega
      have a5 : ¬ (9223372036854775807 < (decS ef).size + 1 + (decS et).size + 1 + el.size + 1) := by omega
      have a6 : ¬ (9223372036854775807 < (decS ef).size + 1 + (decS et).size + 1 + el.size + 1 + (decS ec).size) := by omega
      have a7 : ¬ (9223372036854775807 < (decS ef).size + 1 + (decS et).size + 1 + el.size + 1 + (decS ec).size + 1) := by omega
      obtain ⟨LN, hLN⟩ : ∃ LN, LN = lnD ⟨ef, et, el, ec⟩ := ⟨_, rfl⟩
      have HLN : Hid (LN = decS ef ++ ⟨#[32]⟩ ++ decS et ++ ⟨#[32]⟩ ++ el ++ ⟨#[32]⟩ ++ decS ec ++ ⟨#[10]⟩) := hid hLN
      rw [← hLN] at CW HT
      have HO := hid heo
      clear hwe hpe hbe hB hBe hLN d0 d1 d2 d3 hls hll heo hz2
      refine wp_region_stg 17 18 (fun c w' => match c with | 0 => Below we.heap.size we w' | 1 => Below we.heap.size we w' | _ => (Bld pb pb (latL n (x.take k) ++ LN.data.toList) w' ∧ Below pb w5 w')) (fun c i v w' => match i with
            | 0 => v = .pointer (some ⟨pe, 0, none⟩)
            | 1 => v = .int .i64 ef
            | 2 => v = .string (decS ef)
            | 3 => v = .string (decS ef ++ ⟨#[32]⟩)
            | 4 => v = .pointer (some ⟨pe, 1, none⟩)
            | 5 => v = .int .i64 et
            | 6 => v = .string (decS et)
            | 7 => v = .string (decS ef ++ ⟨#[32]⟩ ++ decS et)
            | 8 => v = .string (decS ef ++ ⟨#[32]⟩ ++ decS et ++ ⟨#[32]⟩)
            | 9 => v = .pointer (some ⟨pe, 2, none⟩)
            | 10 => v = .string el
            | 11 => v = .string (decS ef ++ ⟨#[32]⟩ ++ decS et ++ ⟨#[32]⟩ ++ el)
            | 12 => v = .string (decS ef ++ ⟨#[32]⟩ ++ decS et ++ ⟨#[32]⟩ ++ el ++ ⟨#[32]⟩)
            | 13 => v = .pointer (some ⟨pe, 3, none⟩)
            | 14 => v = .int .i64 ec
            | 15 => v = .string (decS ec)
            | 16 => v = .string (decS ef ++ ⟨#[32]⟩ ++ decS et ++ ⟨#[32]⟩ ++ el ++ ⟨#[32]⟩ ++ decS ec)
            | 17 => (match c with | 0 => True | 1 => v = .string LN | _ => v = .string LN)
            | 18 => (match c with | 0 => True | 1 => True | _ => True)
            | _ => True) (by kernel_rfl) (by kernel_rfl) (by kernel_rfl) (by kernel_rfl) (by kernel_rfl) ?_ ?_ ?_ ?_ ?_ ?_ (by decide) ?_
      · exact (Below.refl _ we).drew
      · intro c w w' h hb
        match c, h with
        | 0, h => exact Below.trans (B := we.heap.size) h (hb.mono (Below.size h))
        | 1, h => exact Below.trans (B := we.heap.size) h (hb.mono (Below.size h))
        | (k + 2), h => exact ⟨h.1.later hb, h.2.trans (hb.mono (by have := h.2.size; omega))⟩
      · intro c i v w w' h hb
        match i, h with
        | 0, h => exact h
        | 1, h => exact h
        | 2, h => exact h
        | 3, h => exact h
        | 4, h => exact h
        | 5, h => exact h
        | 6, h => exact h
        | 7, h => exact h
        | 8, h => exact h
        | 9, h => exact h
        | 10, h => exact h
        | 11, h => exact h
        | 12, h => exact h
        | 13, h => exact h
        | 14, h => exact h
        | 15, h => exact h
        | 16, h => exact h
        | 17, h =>
          match c, h with
          | 0, h => exact trivial
          | 1, h => exact h
          | (k + 2), h => exact h
        | 18, h =>
          match c, h with
          | 0, h => exact trivial
          | 1, h => exact trivial
          | (k + 2), h => exact trivial
        | (k + 19), h => exact h
      · refine ⟨?_, ?_, ?_, ?_, ?_, ?_, ?_, ?_, ?_, ?_, ?_, ?_, ?_, ?_, ?_, ?_, ?_, ?_, ?_, trivial⟩
        · refine .inr (.inr ⟨fun _ => ?_, can_no (by kernel_rfl), can_no (by kernel_rfl)⟩)
          · intro ρ w' hbw ht hcs hfn hgl hdep G hG
            replace hbw : Below we.heap.size we w' := hbw
            refine ⟨fun _ => ?_, fun h => by cases h⟩
            have s5 : ρ (.tmp 5) = .pointer (some ⟨pe, 0, none⟩) := ht 5 rfl
            clear ht hdep hgl
            go_simp
            exact hG _ _ (Below.refl _ _) rfl
        · refine .inr (.inr ⟨fun _ => ?_, can_no (by kernel_rfl), can_no (by kernel_rfl)⟩)
          · intro ρ w' hbw ht hcs hfn hgl hdep G hG
            replace hbw : Below we.heap.size we w' := hbw
            refine ⟨fun _ => ?_, fun h => by cases h⟩
            have s22 : ρ (.tmp 22) = .pointer (some ⟨pe, 0, none⟩) := hdep ⟨0, .data⟩ (by simp) rfl 22 rfl
            have y0 := cell_later hbw y0
            have y1 := cell_later hbw y1
            have y2 := cell_later hbw y2
            have y3 := cell_later hbw y3
            clear ht hdep hgl
            go_simp
            exact hG _ _ (Below.refl _ _) rfl
        · refine .inr (.inr ⟨fun _ => ?_, can_no (by kernel_rfl), can_no (by kernel_rfl)⟩)
          · intro ρ w' hbw ht hcs hfn hgl hdep G hG
            replace hbw : Below we.heap.size we w' := hbw
            refine ⟨fun _ => ?_, fun h => by cases h⟩
            have s23 : ρ (.tmp 23) = .int .i64 ef := hdep ⟨1, .data⟩ (by simp) rfl 23 rfl
            clear ht hdep hgl
            go_simp
            exact (CD ef HO.out.1 w' hbw).mono fun e w'' ⟨he, hb⟩ => ⟨_, he, hG _ _ hb rfl⟩
        · refine .inr (.inr ⟨fun _ => ?_, can_no (by kernel_rfl), can_no (by kernel_rfl)⟩)
          · intro ρ w' hbw ht hcs hfn hgl hdep G hG
            replace hbw : Below we.heap.size we w' := hbw
            refine ⟨fun _ => ?_, fun h => by cases h⟩
            have s24 : ρ (.tmp 24) = .string (decS ef) := hdep ⟨2, .data⟩ (by simp) rfl 24 rfl
            clear ht hdep hgl
            go_simp
            exact hG _ _ (Below.refl _ _) rfl
        · refine .inr (.inr ⟨fun _ => ?_, can_no (by kernel_rfl), can_no (by kernel_rfl)⟩)
          · intro ρ w' hbw ht hcs hfn hgl hdep G hG
            replace hbw : Below we.heap.size we w' := hbw
            refine ⟨fun _ => ?_, fun h => by cases h⟩
            have s5 : ρ (.tmp 5) = .pointer (some ⟨pe, 0, none⟩) := ht 5 rfl
            clear ht hdep hgl
            go_simp
            exact hG _ _ (Below.refl _ _) rfl
        · refine .inr (.inr ⟨fun _ => ?_, can_no (by kernel_rfl), can_no (by kernel_rfl)⟩)
          · intro ρ w' hbw ht hcs hfn hgl hdep G hG
            replace hbw : Below we.heap.size we w' := hbw
            refine ⟨fun _ => ?_, fun h => by cases h⟩
            have s26 : ρ (.tmp 26) = .pointer (some ⟨pe, 1, none⟩) := hdep ⟨4, .data⟩ (by simp) rfl 26 rfl
            have y0 := cell_later hbw y0
            have y1 := cell_later hbw y1
            have y2 := cell_later hbw y2
            have y3 := cell_later hbw y3
            clear ht hdep hgl
            go_simp
            exact hG _ _ (Below.refl _ _) rfl
        · refine .inr (.inr ⟨fun _ => ?_, can_no (by kernel_rfl), can_no (by kernel_rfl)⟩)
          · intro ρ w' hbw ht hcs hfn hgl hdep G hG
            replace hbw : Below we.heap.size we w' := hbw
            refine ⟨fun _ => ?_, fun h => by cases h⟩
            have s27 : ρ (.tmp 27) = .int .i64 et := hdep ⟨5, .data⟩ (by simp) rfl 27 rfl
            clear ht hdep hgl
            go_simp
            exact (CD et HO.out.2.1 w' hbw).mono fun e w'' ⟨he, hb⟩ => ⟨_, he, hG _ _ hb rfl⟩
        · refine .inr (.inr ⟨fun _ => ?_, can_no (by kernel_rfl), can_no (by kernel_rfl)⟩)
          · intro ρ w' hbw ht hcs hfn hgl hdep G hG
            replace hbw : Below we.heap.size we w' := hbw
            refine ⟨fun _ => ?_, fun h => by cases h⟩
            have s25 : ρ (.tmp 25) = .string (decS ef ++ ⟨#[32]⟩) := hdep ⟨3, .data⟩ (by simp) rfl 25 rfl
            have s28 : ρ (.tmp 28) = .string (decS et) := hdep ⟨6, .data⟩ (by simp) rfl 28 rfl
            clear ht hdep hgl
            go_simp
            exact hG _ _ (Below.refl _ _) rfl
        · refine .inr (.inr ⟨fun _ => ?_, can_no (by kernel_rfl), can_no (by kernel_rfl)⟩)
          · intro ρ w' hbw ht hcs hfn hgl hdep G hG
            replace hbw : Below we.heap.size we w' := hbw
            refine ⟨fun _ => ?_, fun h => by cases h⟩
            have s29 : ρ (.tmp 29) = .string (decS ef ++ ⟨#[32]⟩ ++ decS et) := hdep ⟨7, .data⟩ (by simp) rfl 29 rfl
            clear ht hdep hgl
            go_simp
            exact hG _ _ (Below.refl _ _) rfl
        · refine .inr (.inr ⟨fun _ => ?_, can_no (by kernel_rfl), can_no (by kernel_rfl)⟩)
          · intro ρ w' hbw ht hcs hfn hgl hdep G hG
            replace hbw : Below we.heap.size we w' := hbw
            refine ⟨fun _ => ?_, fun h => by cases h⟩
            have s5 : ρ (.tmp 5) = .pointer (some ⟨pe, 0, none⟩) := ht 5 rfl
            clear ht hdep hgl
            go_simp
            exact hG _ _ (Below.refl _ _) rfl
        · refine .inr (.inr ⟨fun _ => ?_, can_no (by kernel_rfl), can_no (by kernel_rfl)⟩)
          · intro ρ w' hbw ht hcs hfn hgl hdep G hG
            replace hbw : Below we.heap.size we w' := hbw
            refine ⟨fun _ => ?_, fun h => by cases h⟩
            have s31 : ρ (.tmp 31) = .pointer (some ⟨pe, 2, none⟩) := hdep ⟨9, .data⟩ (by simp) rfl 31 rfl
            have y0 := cell_later hbw y0
            have y1 := cell_later hbw y1
            have y2 := cell_later hbw y2
            have y3 := cell_later hbw y3
            clear ht hdep hgl
            go_simp
            exact hG _ _ (Below.refl _ _) rfl
        · refine .inr (.inr ⟨fun _ => ?_, can_no (by kernel_rfl), can_no (by kernel_rfl)⟩)
          · intro ρ w' hbw ht hcs hfn hgl hdep G hG
            replace hbw : Below we.heap.size we w' := hbw
            refine ⟨fun _ => ?_, fun h => by cases h⟩
            have s30 : ρ (.tmp 30) = .string (decS ef ++ ⟨#[32]⟩ ++ decS et ++ ⟨#[32]⟩) := hdep ⟨8, .data⟩ (by simp) rfl 30 rfl
            have s32 : ρ (.tmp 32) = .string el := hdep ⟨10, .data⟩ (by simp) rfl 32 rfl
            clear ht hdep hgl
            go_simp
            exact hG _ _ (Below.refl _ _) rfl
        · refine .inr (.inr ⟨fun _ => ?_, can_no (by kernel_rfl), can_no (by kernel_rfl)⟩)
          · intro ρ w' hbw ht hcs hfn hgl hdep G hG
            replace hbw : Below we.heap.size we w' := hbw
            refine ⟨fun _ => ?_, fun h => by cases h⟩
            have s33 : ρ (.tmp 33) = .string (decS ef ++ ⟨#[32]⟩ ++ decS et ++ ⟨#[32]⟩ ++ el) := hdep ⟨11, .data⟩ (by simp) rfl 33 rfl
            clear ht hdep hgl
            go_simp
            exact hG _ _ (Below.refl _ _) rfl
        · refine .inr (.inr ⟨fun _ => ?_, can_no (by kernel_rfl), can_no (by kernel_rfl)⟩)
          · intro ρ w' hbw ht hcs hfn hgl hdep G hG
            replace hbw : Below we.heap.size we w' := hbw
            refine ⟨fun _ => ?_, fun h => by cases h⟩
            have s5 : ρ (.tmp 5) = .pointer (some ⟨pe, 0, none⟩) := ht 5 rfl
            clear ht hdep hgl
            go_simp
            exact hG _ _ (Below.refl _ _) rfl
        · refine .inr (.inr ⟨fun _ => ?_, can_no (by kernel_rfl), can_no (by kernel_rfl)⟩)
          · intro ρ w' hbw ht hcs hfn hgl hdep G hG
            replace hbw : Below we.heap.size we w' := hbw
            refine ⟨fun _ => ?_, fun h => by cases h⟩
            have s35 : ρ (.tmp 35) = .pointer (some ⟨pe, 3, none⟩) := hdep ⟨13, .data⟩ (by simp) rfl 35 rfl
            have y0 := cell_later hbw y0
            have y1 := cell_later hbw y1
            have y2 := cell_later hbw y2
            have y3 := cell_later hbw y3
            clear ht hdep hgl
            go_simp
            exact hG _ _ (Below.refl _ _) rfl
        · refine .inr (.inr ⟨fun _ => ?_, can_no (by kernel_rfl), can_no (by kernel_rfl)⟩)
          · intro ρ w' hbw ht hcs hfn hgl hdep G hG
            replace hbw : Below we.heap.size we w' := hbw
            refine ⟨fun _ => ?_, fun h => by cases h⟩
            have s36 : ρ (.tmp 36) = .int .i64 ec := hdep ⟨14, .data⟩ (by simp) rfl 36 rfl
            clear ht hdep hgl
            go_simp
            exact (CD ec HO.out.2.2.2 w' hbw).mono fun e w'' ⟨he, hb⟩ => ⟨_, he, hG _ _ hb rfl⟩
        · refine .inr (.inr ⟨fun _ => ?_, can_no (by kernel_rfl), can_no (by kernel_rfl)⟩)
          · intro ρ w' hbw ht hcs hfn hgl hdep G hG
            replace hbw : Below we.heap.size we w' := hbw
            refine ⟨fun _ => ?_, fun h => by cases h⟩
            have s34 : ρ (.tmp 34) = .string (decS ef ++ ⟨#[32]⟩ ++ decS et ++ ⟨#[32]⟩ ++ el ++ ⟨#[32]⟩) := hdep ⟨12, .data⟩ (by simp) rfl 34 rfl
            have s37 : ρ (.tmp 37) = .string (decS ec) := hdep ⟨15, .data⟩ (by simp) rfl 37 rfl
            clear ht hdep hgl
            go_simp
            exact hG _ _ (Below.refl _ _) rfl
        · exact .inl rfl
        · exact .inr (.inl rfl)
      · intro o ho
        obtain rfl := Option.some.inj ho
        intro ρ w' hbw ht hcs hfn hgl hdep G hG
        replace hbw : Below we.heap.size we w' := hbw
        refine ⟨fun _ => ?_, fun h => by cases h⟩
        have s38 : ρ (.tmp 38) = .string (decS ef ++ ⟨#[32]⟩ ++ decS et ++ ⟨#[32]⟩ ++ el ++ ⟨#[32]⟩ ++ decS ec) := hdep ⟨16, .data⟩ (by simp) rfl 38 rfl
        clear ht hdep hgl
        go_simp
        refine hG _ _ hbw (show _ = _ by rw [HLN.out]) ?_
        intro j u hj hne h
        match j, h with
        | 0, h => exact h
        | 1, h => exact h
        | 2, h => exact h
        | 3, h => exact h
        | 4, h => exact h
        | 5, h => exact h
        | 6, h => exact h
        | 7, h => exact h
        | 8, h => exact h
        | 9, h => exact h
        | 10, h => exact h
        | 11, h => exact h
        | 12, h => exact h
        | 13, h => exact h
        | 14, h => exact h
        | 15, h => exact h
        | 16, h => exact h
        | 17, h => exact absurd rfl hne
        | 18, h => exact trivial
        | (k + 19), h => exact h
      · intro o ho
        obtain rfl := Option.some.inj ho
        intro ρ w' hbw ht hcs hfn hgl hdep G hG
        replace hbw : Below we.heap.size we w' := hbw
        refine ⟨fun _ => ?_, fun h => by cases h⟩
        have s3 : ρ (.tmp 3) = .pointer (some ⟨pb, 0, none⟩) := ht 3 rfl
        have d39 := hdep ⟨17, .data⟩ (by simp) rfl 39 rfl
        clear ht hdep hgl
        replace d39 : ρ (.tmp 39) = .string LN := d39
        go_simp
        refine (CW w' hbw).mono ?_
        intro e w'' ⟨he, hB, hb⟩
        refine ⟨_, he, hG _ _ ⟨hB, (hble.trans (hbw.mono (by omega))).trans hb⟩ trivial ?_⟩
        intro j u hj hne h
        match j, h with
        | 0, h => exact h
        | 1, h => exact h
        | 2, h => exact h
        | 3, h => exact h
        | 4, h => exact h
        | 5, h => exact h
        | 6, h => exact h
        | 7, h => exact h
        | 8, h => exact h
        | 9, h => exact h
        | 10, h => exact h
        | 11, h => exact h
        | 12, h => exact h
        | 13, h => exact h
        | 14, h => exact h
        | 15, h => exact h
        | 16, h => exact h
        | 17, h => exact h
        | 18, h => exact trivial
        | (k + 19), h => exact h
      intro xx w6 hF hx
      clear hx
      simp only [putAll, Act.put, List.setIfInBounds_toArray, List.set_cons_succ, List.set_cons_zero, Nat.zero_add, Nat.reduceAdd]
      obtain ⟨hB6, hbl6⟩ := hF
      have HB6 := hid hB6
      clear hB6 CW CD y0 y1 y2 y3
      generalize xx 18 = tup at *
      go_wp2_with fail
      go_roundw
      case rel => exact ⟨k + 1, by omega, by go_num, by rw [HT.out]; exact HB6.out, hbl6⟩
      case measure => simp [intOf]; omega
    · obtain rfl : k = x.length := by omega
      have hli : ¬ ((x.length : Int) < (x.length : Int)) := by omega
      rw [List.take_length] at hB
      have CS := bldString pb pb (latL n x) wr hB (by omega)
      go_wp2_with fail
      refine CS.mono ?_
      rintro e w6 ⟨rfl, hb6⟩
      go_wp2_with fail
      go_ret
      exact ⟨by rw [HG.out]; rfl, (hbE5.trans (hbl.mono (by omega))).trans (hb6.mono (by omega))⟩
end Go.Proofs.YtbgjojnjbplblaaGreatDoor
