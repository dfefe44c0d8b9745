/- A number in decimal: impl.Decimal (by the shelf's contract for strconv.FormatInt) and spec.l01Dec. -/
import Derived.Test.YtbgjojnjbplblaaGreatDoorApp
import Derived.Test.YtbgjojnjbplblaaGreatDoorShelf
import Derived.IntWalk
import Derived.WalkSmall
import Derived.Deep.Cut
import Derived.Lib.ItoaLen
namespace Go.Proofs.YtbgjojnjbplblaaGreatDoor
open Go.RowKit

def TabL (w : World) : Prop := Lib.TabIs Tryz.prog w "internal/strconv.uint64pow10" .u64 Lib.pow10Tab
theorem gPow : Tryz.prog.globalNamed "internal/strconv.uint64pow10" = some 3 := by kernel_rfl
theorem TabL.below {w w' : World} (h : TabL w) (hb : Below w.heap.size w w') : TabL w' :=
  var?_below hb gPow (cell_lt (Lib.TabIs.cell h gPow 0 (by decide))) h
theorem TabL.on {B : Nat} {w w' : World} (h : TabL w) (hb : Below B w w') (hB : 3 < B) : TabL w' := var?_below hb gPow hB h
theorem TabL.lt {w : World} (h : TabL w) : 3 < w.heap.size := cell_lt (Lib.TabIs.cell h gPow 0 (by decide))
theorem TabL.alloc {w : World} (h : TabL w) (o : Obj) : TabL (w.alloc o) := h.below ((Below.refl _ _).alloc (Nat.le_refl _) _)
def okN (n : Int) : Prop := -9223372036854775808 ≤ n ∧ n ≤ 9223372036854775807
def decS (n : Int) : ByteArray := ⟨(Lib.itoa n).toArray⟩
theorem grow_below (w : World) (k : Nat) (os : Array Obj) : Below w.heap.size w (Sort.grow (w.drewN k) os) :=
  ⟨rfl, rfl, rfl, by simp [Sort.grow, World.drewN], fun j hj => by
    simp only [Sort.grow, World.drewN]
    exact Array.getElem?_append_left hj⟩
theorem Decimal_any (n : Int) (w : World) (hn : okN n) (ht : TabL w) : Calls Tryz.prog 42 #[.int .i64 n] w (Ret (.string (decS n)) w) := by
  go_enter Tryz.func42, Tryz.ntmps42
  go_wp2_with fail
  refine (Tryz.strconv_FormatInt_10 n hn.1 hn.2 w ht).mono ?_
  rintro e w' ⟨rfl, k, os, rfl⟩
  go_wp2_with fail
  go_ret
  exact ⟨rfl, grow_below w k os⟩
def eB : Enc UInt8 := ⟨fun b => [.int .u8 (b.toNat : Int)], 1, fun _ => rfl, by decide, fun x u hu => by simp at hu; subst hu; rfl⟩
theorem infoB : (Tryz.prog.info? 5).map (fun i => (i.zero, i.size, i.bytes)) = some (some (.int .u8 0), 1, 1) := by kernel_rfl
theorem own_oneB (w : World) {B : Nat} (hB : B ≤ w.heap.size) (D : Nat) (hD : D < 10) : Own eB 5 B (w.alloc (.cells #[.int .u8 (48 + (D : Int))] 5)) (.slice (some ⟨w.heap.size, 0, none⟩) 1 1) [UInt8.ofNat (48 + D)] := by
  have h : ((UInt8.ofNat (48 + D)).toNat : Int) = 48 + (D : Int) := by
    have : (UInt8.ofNat (48 + D)).toNat = 48 + D := by simp; omega
    rw [this]; omega
  rw [← h]
  exact ⟨rfl, .inr ⟨w.heap.size, 1, #[.int .u8 ((UInt8.ofNat (48 + D)).toNat : Int)], rfl, hB, heap_alloc_new _ _, Nat.le_refl _, by decide, rfl, rfl⟩⟩
/-- the digits of u ahead of L, none of 0 -/
def digs (u : Nat) (L : List UInt8) : List UInt8 := if u = 0 then L else Lib.decDigits u ++ L
theorem digs_step {u : Nat} (h : u ≠ 0) (L : List UInt8) : digs u L = digs (u / 10) (UInt8.ofNat (48 + u % 10) :: L) := by
  unfold digs
  rw [if_neg h]
  by_cases h1 : u < 10
  · rw [if_pos (by omega), Lib.decDigits, dif_pos h1, Nat.mod_eq_of_lt h1]; rfl
  · rw [if_neg (by omega), Lib.decDigits, dif_neg h1, List.append_assoc]; rfl
theorem dig_small {u l n : Nat} (h : u ≠ 0) (hb : u * 10 ^ l ≤ n) (hn : n ≤ 9223372036854775808) : l ≤ 18 := by
  by_cases h1 : l ≤ 18
  · exact h1
  · exfalso
    have h2 : 10 ^ 19 ≤ 10 ^ l := Nat.pow_le_pow_right (by decide) (by omega)
    have h3 : 1 * 10 ^ l ≤ u * 10 ^ l := Nat.mul_le_mul_right _ (by omega)
    have h4 : (10 : Nat) ^ 19 = 10000000000000000000 := by decide
    omega
theorem dig_next {u l n : Nat} (hb : u * 10 ^ l ≤ n) : u / 10 * 10 ^ (l + 1) ≤ n := by
  have h1 : u / 10 * 10 ≤ u := by omega
  have h2 : u / 10 * 10 * 10 ^ l ≤ u * 10 ^ l := Nat.mul_le_mul_right _ h1
  rw [Nat.pow_succ, Nat.mul_comm (10 ^ l) 10, ← Nat.mul_assoc]
  omega
theorem baS_eq2 {a b : ByteArray} (h : a.data.toList = b.data.toList) : a = b := by
  cases a; cases b
  simp at h
  first | exact congrArg _ h | exact congrArg _ (Array.toList_inj.1 h)
set_option maxRecDepth 100000 in
set_option maxHeartbeats 4000000 in
theorem l01Dec_any (n : Int) (w : World) (hn : okN n) : Calls Tryz.prog 52 #[.int .i64 n] w (Ret (.string (decS n)) w) := by
  obtain ⟨hn0, hn1⟩ := hn
  have hnn : n.natAbs ≤ 9223372036854775808 := by omega
  go_enter Tryz.func52, Tryz.ntmps52
  go_wp2_with fail
  go_loopw [3, 4] (fun u k wr => ∃ (m : Int) (L : List UInt8), k = .int .i64 m ∧ Own eB 5 w.heap.size wr u L ∧ digs m.natAbs L = digs n.natAbs [] ∧ Hid (m.natAbs * 10 ^ L.length ≤ n.natAbs) ∧ m.natAbs ≤ n.natAbs ∧ (0 ≤ n → 0 ≤ m) ∧ (n < 0 → m ≤ 0) ∧ (n ≠ 0 → m = 0 → L ≠ []) ∧ L.length ≤ 19 ∧ Below w.heap.size w wr) (fun _ k _ => (intOf k).natAbs)
  case atStart => exact ⟨n, [], rfl, Own.empty _ _ (Nat.le_refl _), rfl, hid (by simp), Nat.le_refl _, fun h => h, fun h => by omega, fun h1 h2 => absurd h2 h1, by simp, (Below.refl _ _).alloc (Nat.le_refl _) _⟩
  case round =>
    obtain ⟨m, L, rfl, hown, hd, hp, hmn, hs0, hs1, hne, hL, hb⟩ := hrel
    by_cases hm : m = 0
    · subst hm
      have hm1 : ((0 : Int) != 0) = false := rfl
      have HN : Hid (L = digs n.natAbs []) := hid (by rw [← hd]; rfl)
      have HB := hid hb
      obtain ⟨sa, sc, hu⟩ := hown.isSlice
      subst hu
      by_cases h0 : n = 0
      · subst h0
        have hl : L = [] := by rw [HN.out]; rfl
        subst hl
        clear hd
        go_wp2_with fail
        go_ret
        exact ⟨by rw [show decS 0 = ⟨#[48]⟩ from by unfold decS Lib.itoa; rw [if_neg (by decide), Lib.decDigits, dif_pos (by decide)]; rfl]; rfl, hb⟩
      · have hne' := hne h0 rfl
        have hlp : 0 < L.length := List.length_pos_iff.2 hne'
        have hll : ((L.length : Int) == 0) = false := by rw [beq_eq_false_iff_ne]; omega
        have hLn : L = Lib.decDigits n.natAbs := by rw [HN.out]; unfold digs; rw [if_neg (by omega), List.append_nil]
        obtain ⟨b2, off2, ao2, cap2, hv2, _, _, hao2, hc2⟩ := hown.arr
        obtain ⟨e1, _⟩ := hao2 hlp
        simp at hv2
        obtain ⟨rfl, rfl⟩ := hv2
        subst e1
        have hcv := run_convert_bytes_back (P := Tryz.prog) wr 76 9 5 ⟨b2, off2, none⟩ sc L Tryz.underlying76 Tryz.underlying5 Tryz.underlying9 (fun j hj => by
          have := hc2 j L[j] (List.getElem?_eq_getElem hj) 0 _ rfl
          rw [Addr.add_lit]; simpa [eB] using this)
        have HCV := hid hLn
        clear hd hne hne' hLn hc2 hao2 hp
        by_cases hneg : n < 0
        · have HR : Hid (decS n = ⟨#[45]⟩ ++ ⟨L.toArray⟩) := hid (by
            unfold decS Lib.itoa
            rw [if_pos hneg, HCV.out]
            apply baS_eq2
            simp)
          go_wp2_with fail
          go_ret
          exact ⟨by rw [HR.out]; rfl, hb⟩
        · have HR : Hid (decS n = ⟨L.toArray⟩) := hid (by
            unfold decS Lib.itoa
            rw [if_neg hneg, HCV.out, show n.toNat = n.natAbs by omega])
          go_wp2_with fail
          go_ret
          exact ⟨by rw [HR.out]; rfl, hb⟩
    · have hm1 : (m != 0) = true := by rw [bne_iff_ne]; exact hm
      obtain ⟨D, hD⟩ : ∃ D, D = m.natAbs % 10 := ⟨_, rfl⟩
      have hD10 : D < 10 := by omega
      have hbs := hb.size
      have hone := own_oneB wr hbs D hD10
      have hl18 := dig_small (u := m.natAbs) (by omega) hp.out hnn
      have HDN := hid (dig_next hp.out)
      have hst := digs_step (u := m.natAbs) (by omega) L
      rw [← hD] at hst
      have h48 : wrap64 (48 + (D : Int)) = 48 + (D : Int) := by unfold wrap64; omega
      have h256 : (48 + (D : Int)) % 256 = 48 + (D : Int) := by omega
      have hqa : (m.tdiv 10).natAbs = m.natAbs / 10 := Int.natAbs_tdiv m 10
      obtain ⟨Q, hQ⟩ : ∃ Q, m.tdiv 10 = Q := ⟨_, rfl⟩
      rw [hQ] at hqa
      have hQs : (0 ≤ n → 0 ≤ Q) ∧ (n < 0 → Q ≤ 0) := ⟨fun h => by rw [← hQ]; exact Int.tdiv_nonneg (hs0 h) (by decide), fun h => by rw [← hQ]; have := Int.tdiv_nonneg (a := -m) (b := 10) (by have := hs1 h; omega) (by decide); rw [Int.neg_tdiv] at this; omega⟩
      have HD := hid hD
      have hwQ : wrap64 Q = Q := by unfold wrap64; omega
      have HWQ := hid hwQ
      have HST := hid (hd.symm.trans hst)
      have HQA := hid hqa
      have HB := hid hb
      clear hD hst hqa hd hp hne
      by_cases hR : m.tmod 10 < 0
      · have hng : wrap64 (-m.tmod 10) = (D : Int) := by
          rw [HD.out]
          have h1 : m.tmod 10 = m - 10 * Q := by rw [← hQ]; exact Int.tmod_def m 10
          have := HQA.out
          unfold wrap64
          omega
        go_wp2_with (at_builtin; (refine wpList_appA rfl _ _ 76 rfl w.heap.size 5 _ 1 infoB Tryz.underlying76 rfl _ _ rfl hone _ L rfl (hown.alloc _).arr (by unfold maxLen; simp <;> omega) (by simp <;> omega) (by simp <;> omega) ?_; intro u' w6 ho6 hb6 ht6))
        go_roundw
        case rel =>
          exact ⟨Q, UInt8.ofNat (48 + D) :: L, by rw [HWQ.out], ho6, by rw [HQA.out]; exact HST.out.symm, hid (by rw [HQA.out]; exact HDN.out), by have := HQA.out; omega, hQs.1, hQs.2, fun _ _ => by simp, by simp; omega, (HB.out.alloc hbs _).trans hb6⟩
        case measure => simp [intOf]; have := HQA.out; omega
      · have hpos : m.tmod 10 = (D : Int) := by
          rw [HD.out]
          have h1 : m.tmod 10 = m - 10 * Q := by rw [← hQ]; exact Int.tmod_def m 10
          have := HQA.out
          omega
        have hD0 : ¬ ((D : Int) < 0) := by omega
        clear hR
        go_wp2_with (at_builtin; (refine wpList_appA rfl _ _ 76 rfl w.heap.size 5 _ 1 infoB Tryz.underlying76 rfl _ _ rfl hone _ L rfl (hown.alloc _).arr (by unfold maxLen; simp <;> omega) (by simp <;> omega) (by simp <;> omega) ?_; intro u' w6 ho6 hb6 ht6))
        go_roundw
        case rel =>
          exact ⟨Q, UInt8.ofNat (48 + D) :: L, by rw [HWQ.out], ho6, by rw [HQA.out]; exact HST.out.symm, hid (by rw [HQA.out]; exact HDN.out), by have := HQA.out; omega, hQs.1, hQs.2, fun _ _ => by simp, by simp; omega, (HB.out.alloc hbs _).trans hb6⟩
        case measure => simp [intOf]; have := HQA.out; omega
end Go.Proofs.YtbgjojnjbplblaaGreatDoor
namespace Go.Proofs.YtbgjojnjbplblaaGreatDoor
open Go.RowKit

theorem okN_of {n : Int} (h : (Lit.int .i64 n).wf = true) : okN n := by
  have e1 : IntKind.i64.min = -9223372036854775808 := by decide
  have e2 : IntKind.i64.max = 9223372036854775807 := by decide
  rw [Lit.wf, Bool.and_eq_true, decide_eq_true_iff, decide_eq_true_iff, e1, e2] at h
  exact h
theorem addStr (a b : ByteArray) (h : a.size + b.size ≤ 9223372036854775807) (w : World) : (binOp .add 9 (.string a) (.string b)).run Tryz.prog w = .ok (.string (a ++ b)) w := by
  simp [go_sem, h]
theorem decS_size {n : Int} (h : okN n) : (decS n).size ≤ 21 := by
  show (Lib.itoa n).toArray.size ≤ 21
  have := Lib.itoa_length_le n h.1 h.2
  simpa using this
theorem decS_list (n : Int) : (decS n).data.toList = Lib.itoa n := by simp [decS]
theorem app_list (a b : ByteArray) : (a ++ b).data.toList = a.data.toList ++ b.data.toList := by simp
theorem size_list (a : ByteArray) : a.size = a.data.toList.length := by
  rw [Array.length_toList]; rfl
def ofL (l : List UInt8) : ByteArray := ⟨l.toArray⟩
theorem ofL_list (l : List UInt8) : (ofL l).data.toList = l := by simp [ofL]
theorem ofL_app (l : List UInt8) (s : ByteArray) : ofL l ++ s = ofL (l ++ s.data.toList) := by
  apply baS_eq2
  rw [app_list, ofL_list, ofL_list]
theorem ofL_size (l : List UInt8) : (ofL l).size = l.length := by rw [size_list, ofL_list]
theorem flat_len {α : Type} (f : α → List UInt8) (c : Nat) : ∀ (x : List α), (∀ e ∈ x, (f e).length ≤ c) → (x.flatMap f).length ≤ c * x.length
  | [], _ => by simp
  | a :: t, h => by
    have h1 := flat_len f c t fun e he => h e (List.mem_cons_of_mem _ he)
    have h2 := h a List.mem_cons_self
    rw [List.flatMap_cons, List.length_append, List.length_cons, Nat.mul_succ]
    omega
theorem flat_take {α : Type} (f : α → List UInt8) {x : List α} {k : Nat} {e : α} (h : x[k]? = some e) : (x.take (k + 1)).flatMap f = (x.take k).flatMap f ++ f e := by
  rw [List.take_add_one, h]; simp
abbrev Bld (B b : Nat) (L : List UInt8) (w : World) : Prop := Lib.IsBuilder 78 5 B b (Lib.byteCells L) w
theorem Bld.later {B b : Nat} {L : List UInt8} {w w' : World} (h : Bld B b L w) (hb : Below w.heap.size w w') : Bld B b L w' := by
  have key : ∀ p, Lib.BuilderAt 78 5 B b p (Lib.byteCells L) w → Lib.BuilderAt 78 5 B b p (Lib.byteCells L) w' := fun p ⟨h1, v, h2, h3, h4⟩ => by
    refine ⟨h1, v, (hb.block b (Array.getElem?_eq_some_iff.1 h2).1).trans h2, ⟨h3.1, ?_⟩, h4⟩
    rcases h3.2 with h5 | ⟨g, cap, cur, hv, hB, hg, rest⟩
    · exact .inl h5
    · exact .inr ⟨g, cap, cur, hv, hB, (hb.block g (Array.getElem?_eq_some_iff.1 hg).1).trans hg, rest⟩
  exact h.imp (key _) (key _)
theorem bldNew (w : World) : Bld w.heap.size w.heap.size [] (w.alloc (.cells #[.pointer none, .slice none 0 0] 78)) := Lib.fresh_isBuilder _ _ w
def wsRen : Go.Shelf.Ren := ⟨fun | 166 => 47 | 240 => 78 | 276 => 96 | n => n, fun | 0 => 0 | 3 => 3 | 4 => 4 | 9 => 9 | 20 => 20 | 37 => 76 | 70 => 75 | 72 => 78 | 75 => 68 | 164 => 114 | 5 => 5 | 80 => 81 | n => n, fun | n => n⟩
theorem wsLays : Go.Proofs.Lays.n166 Tryz.prog wsRen := {
  mixed := by kernel_rfl
  f166 := Tryz.func47.trans (congrArg some (by kernel_rfl))
  f240 := Tryz.func78.trans (congrArg some (by kernel_rfl))
  f276 := Tryz.func96.trans (congrArg some (by kernel_rfl))
  t0 := Tryz.underlying0
  a0 := Tryz.isAgg0
  z0 := Tryz.sizeOf0
  v0 := Tryz.zeroValue0
  t3 := Tryz.underlying3
  a3 := Tryz.isAgg3
  z3 := Tryz.sizeOf3
  v3 := Tryz.zeroValue3
  t4 := Tryz.underlying4
  a4 := Tryz.isAgg4
  z4 := Tryz.sizeOf4
  v4 := Tryz.zeroValue4
  t9 := Tryz.underlying9
  a9 := Tryz.isAgg9
  z9 := Tryz.sizeOf9
  v9 := Tryz.zeroValue9
  t20 := Tryz.underlying20
  a20 := Tryz.isAgg20
  z20 := Tryz.sizeOf20
  v20 := Tryz.zeroValue20
  t37 := Tryz.underlying76
  a37 := Tryz.isAgg76
  z37 := Tryz.sizeOf76
  v37 := Tryz.zeroValue76
  t70 := Tryz.underlying75
  a70 := Tryz.isAgg75
  z70 := Tryz.sizeOf75
  v70 := Tryz.zeroValue75
  t72 := Tryz.underlying78
  a72 := Tryz.isAgg78
  z72 := Tryz.sizeOf78
  v72 := Tryz.zeroValue78
  t75 := Tryz.underlying68
  a75 := Tryz.isAgg68
  z75 := Tryz.sizeOf68
  v75 := Tryz.zeroValue68
  t164 := Tryz.underlying114
  a164 := Tryz.isAgg114
  z164 := Tryz.sizeOf114
  v164 := Tryz.zeroValue114 }
theorem wsExtra : Builder.Extra Tryz.prog wsRen := {
  sizeBuilder := by kernel_rfl
  liesBuilder := by kernel_rfl
  t5 := Tryz.underlying5
  a5 := Tryz.isAgg5
  z5 := Tryz.sizeOf5
  v5 := Tryz.zeroValue5
  infoByte := by kernel_rfl
  cellsByte := by kernel_rfl
  sizeByte := by kernel_rfl
  neB5 := by decide }
theorem bldWrite (B b : Nat) (L : List UInt8) (s : ByteArray) (w : World) (h : Bld B b L w) (hl : L.length + s.size ≤ 140737488355328) (hB : B ≤ w.heap.size) :
    Calls Tryz.prog 47 #[.pointer (some ⟨b, 0, none⟩), .string s] w fun e w' => e = .returned (.tuple #[.int .i64 s.size, .nilIface]) ∧ Bld B b (L ++ s.data.toList) w' ∧ Below B w w' := by
  have hc := Any.Builder_WriteString wsLays wsExtra B b (Lib.byteCells L) s w h (by rw [Lib.byteCells_length]; exact hl) hB
  refine Calls.mono hc fun e w' ⟨h1, h2, h3⟩ => ⟨h1, ?_, h3⟩
  refine .inr ?_
  have e2 : Lib.byteCells (L ++ s.data.toList) = Lib.byteCells L ++ Lib.strCells s := by rw [Lib.byteCells_append]; rfl
  rw [e2]
  exact h2
theorem bldString (B b : Nat) (L : List UInt8) (w : World) (h : Bld B b L w) (hB : B ≤ w.heap.size) :
    Calls Tryz.prog 48 #[.pointer (some ⟨b, 0, none⟩)] w fun e w' => e = .returned (.string (ofL L)) ∧ Below B w w' := Tryz.Builder_String_any B b L w h hB
end Go.Proofs.YtbgjojnjbplblaaGreatDoor
