/- Slices of strings: how their values lie in memory, and what the laws' functions over them do. -/
import Derived.Test.YthooeaappnkjgaaRows
import Derived.Test.YthooeaappnkjgaaMark
import Derived.Test.YthooeaappnkjgaaRep
import Derived.Test.YthooeaappnkjgaaReg
import Derived.Test.YthooeaappnkjgaaOpen
namespace Go.Proofs.Ythooeaappnkjgaa
open Go.ChangeShapes Go.WideShapes Go.ChangeAt Go.RowKit Go.Deep

def eStr : Enc ByteArray := ⟨fun x => [.string x], 1, fun _ => rfl, by decide, fun x u hu => by simp at hu; subst hu; rfl⟩
abbrev XStringS := List ByteArray
def rStringS : Rep XStringS := Rep.flat eStr 9
def goodStringS (x : XStringS) : Prop := ∀ s ∈ x, s.size ≤ maxLen
def okStringS (x : XStringS) : Prop := x.length ≤ 1048576
def szStr (s : ByteArray) : Nat := s.size
def sizeStringS (x : XStringS) : Nat := x.length + sumOf szStr x
theorem okStringS_of {x : XStringS} (h : sizeStringS x ≤ 1048576) : okStringS x := by unfold sizeStringS at h; unfold okStringS; omega
def cntStringS (x : XStringS) : Int := (x.length : Int)
theorem cntStringS_bd {x : XStringS} (h : okStringS x) : 0 ≤ cntStringS x ∧ cntStringS x ≤ 10000000 := by unfold okStringS at h; unfold cntStringS; omega
def mkStr (k : Int) (n : Nat) : List ByteArray := (List.range n).map fun (i : Nat) => mt (k + (i : Int))
theorem mkStr_len (k : Int) (n : Nat) : (mkStr k n).length = n := by simp [mkStr]
theorem mkStr_get (k : Int) (n i : Nat) (h : i < n) : (mkStr k n)[i]? = some (mt (k + (i : Int))) := by simp [mkStr, h]
def mkXStringS (k : Int) (x : XStringS) : XStringS := mkStr k x.length
theorem shapeStringS {lo hi : Nat} {w : World} {v : Value} {x : XStringS} (h : rStringS.at_ lo hi w v x) : ∃ sa sc, v = .slice sa x.length sc := (ArrIn.arr h).isSlice
theorem rStringS_arr {lo hi : Nat} {w : World} {v : Value} {x : XStringS} (h : rStringS.at_ lo hi w v x) : Arr eStr w v x := ArrIn.arr h
theorem rStringS_own {w w' : World} {B : Nat} {u : Value} {x : XStringS} (h : Own eStr 9 B w' u x) (hB : w.heap.size ≤ B) : rStringS.own w.heap.size w'.heap.size w' u x := (h.mono hB).in_
theorem eStr_cell {w : World} {b off : Nat} {es : List ByteArray} (h : Cells eStr w b off es) {k : Nat} {x : ByteArray} (hx : es[k]? = some x) : w.cell? ⟨b, off + k, none⟩ = some (.string x) := by
  have := h k x hx 0 _ rfl
  have e : off + k * eStr.sz + 0 = off + k := by show off + k * 1 + 0 = off + k; omega
  rw [e] at this
  exact this
theorem infoStr : (Try.prog.info? 9).map (fun i => (i.zero, i.size, i.bytes)) = some (some (.string ByteArray.empty), 1, 16) := by kernel_rfl
theorem ownS_slot {B g cap n : Nat} {w : World} {xs : List ByteArray} (h : Own eStr 9 B w (.slice (some ⟨g, 0, none⟩) n cap) xs) (hn : n = xs.length) {k : Nat} (hk : k < n) : ∃ u, w.cell? ⟨g, k, none⟩ = some u := by
  obtain ⟨u, hu⟩ := h.slot hn k hk 0 (by decide)
  have e : k * eStr.sz + 0 = k := by show k * 1 + 0 = k; omega
  rw [e] at hu
  exact ⟨u, hu⟩
set_option maxHeartbeats 1000000 in
theorem toStringS_any (v : Value) (es : XStringS) (w : World) (h : Arr eStr w v es) (hn : es.length ≤ 1048576) :
    Calls Try.prog 16 #[v] w (RetOwn eStr 9 es w) := by
  obtain ⟨b, off, ao, cap, rfl, hnc, hcm, hao, hc⟩ := h
  obtain ⟨i0, hi, hz0, hz1, hz2⟩ := info_parts infoStr
  go_enter Try.func16, Try.ntmps16
  go_wp2_with (at_make; refine wpList_make_full _ rfl _ _ 40 rfl w.heap.size 9 i0 _ 1 Try.underlying40 hi hz0 hz1 _ _ _ _ es.length rfl rfl rfl rfl (by rw [hz2]; omega) (by unfold maxLen; omega) (Nat.le_refl _) ?_; intro w1 hown hgr)
  have hown := Own.made (E := eStr) (z := ByteArray.empty) hown rfl
  obtain ⟨g, hg⟩ : ∃ g, g = w.heap.size := ⟨_, rfl⟩
  rw [← hg] at hown ⊢
  have hw1 : Below w.heap.size w w1 := (Below.refl _ _).grown hgr (Nat.le_refl _) (by simp)
  have hg1 : g < w1.heap.size := hown.lt.2
  have Hg := hid hg
  clear hg
  go_loopw [4] (fun i wr => ∃ (k : Nat) (ys : List ByteArray), k ≤ es.length ∧ i = .int .i64 k ∧ ys.length = es.length ∧ (∀ j, j < k → ys[j]? = es[j]?) ∧
      Own eStr 9 g wr (.slice (some ⟨g, 0, none⟩) es.length es.length) ys ∧ Below w.heap.size w wr ∧ g < wr.heap.size) (fun i _ => es.length - (intOf i).toNat)
  case atStart => exact ⟨0, _, Nat.zero_le _, rfl, by simp, by simp, hown, hw1, hg1⟩
  case round =>
    clear hown hgr hw1 hg1 hi hz0 hz1 hz2 hnc hcm
    obtain ⟨k, ys, hk, rfl, hyl, hys, hown, hb, hgw⟩ := hrel
    have HY := hid hyl
    clear hyl
    by_cases hlt : k < es.length
    · obtain ⟨hao', hbw⟩ := hao (by omega)
      subst hao'
      obtain ⟨x, hx⟩ : ∃ x, es[k]? = some x := ⟨_, List.getElem?_eq_getElem hlt⟩
      have c0 := eStr_cell (hc.below hb hbw) hx
      clear hao
      have HYS := hid hys
      have HX := hid hx
      have HO := hid hown
      obtain ⟨u0, hv0⟩ := ownS_slot hown HY.out.symm hlt
      have hf := hown.free HY.out.symm
      clear hys hx hown
      go_wp2
      go_roundw
      case rel =>
        have h1 := fill_step HY.out HYS.out HX.out
        have h2 := HO.out.set1 HY.out.symm (k := k) (j := 0) (x' := x) (u := .string x) (List.getElem?_eq_getElem (by rw [HY.out]; exact hlt)) (by decide) rfl
        rw [show k * eStr.sz + 0 = k by show k * 1 + 0 = k; omega] at h2
        exact ⟨k + 1, ys.set k x, by omega, by go_num, h1.1, h1.2, h2.1, hb.grown h2.2 hb.size (by have := Hg.out; simp; omega), Nat.lt_of_lt_of_le hgw h2.2.size⟩
      case measure => simp [intOf]; omega
    · go_wp2
      go_ret
      have := fill_done HY.out hys (by omega)
      subst this
      exact ⟨_, rfl, by rw [← Hg.out, ← HY.out]; exact hown, hb⟩
theorem toStringSR_any (v : Value) (x : XStringS) (w : World) {lo hi : Nat} (h : rStringS.at_ lo hi w v x) (hn : okStringS x) :
    Calls Try.prog 16 #[v] w (RetR rStringS x w) :=
  (toStringS_any v x w (rStringS_arr h) hn).mono fun _ _ ⟨u, he, ho, hb⟩ => ⟨u, he, ho.in_, hb⟩
set_option maxHeartbeats 1000000 in
theorem szStringSR_any (v : Value) (es : XStringS) (left : Int) (w : World) {lo hi : Nat} (h : rStringS.at_ lo hi w v es) (hs : goodStringS es) (hl : 0 ≤ left) (hu : left ≤ 1048576) :
    Calls Try.prog 14 #[v, .int .i64 left] w (Ret (.int .i64 (szOf (sizeStringS es) left)) w) := by
  obtain ⟨b, off, ao, cap, rfl, hnc, hcm, hao, hc⟩ := rStringS_arr h
  unfold maxLen at hcm
  unfold sizeStringS
  clear h
  by_cases h0 : left < es.length
  · go_enter Try.func14, Try.ntmps14
    go_wp2
    go_ret
    exact ret_int (by rw [szOf_neg (by omega)]) (Below.refl _ _)
  have hd : decide (left - (es.length : Int) < 0) = false := by simp; omega
  go_enter Try.func14, Try.ntmps14
  go_wp2
  go_loopw [1, 5] (fun l i wr => ∃ k : Nat, k ≤ es.length ∧ i = .int .i64 k ∧ l = .int .i64 (left - es.length - sumOf szStr (es.take k)) ∧ 0 ≤ left - es.length - sumOf szStr (es.take k) ∧ Below w.heap.size w wr) (fun _ i _ => es.length - (intOf i).toNat)
  case atStart => exact ⟨0, Nat.zero_le _, rfl, by simp [sumOf], by simp [sumOf]; omega, Below.refl _ _⟩
  case round =>
    obtain ⟨k, hk, rfl, rfl, hp, hb⟩ := hrel
    by_cases hlt : k < es.length
    · obtain ⟨hao', hbw⟩ := hao (by omega)
      subst hao'
      obtain ⟨x, hx⟩ : ∃ x, es[k]? = some x := ⟨_, List.getElem?_eq_getElem hlt⟩
      have c0 := eStr_cell (hc.below hb hbw) hx
      have hxs := hs x (List.mem_of_getElem? hx)
      unfold maxLen at hxs
      have hsum := sumOf_take szStr hx
      have hle := sumOf_take_le szStr es (k + 1)
      rw [hsum] at hle
      obtain ⟨p, hpp⟩ : ∃ p, p = left - es.length - sumOf szStr (es.take k) := ⟨_, rfl⟩
      rw [← hpp] at hp ⊢
      have hpu : p ≤ 1048576 := by omega
      have HS : Hid (sumOf szStr (es.take (k + 1)) = sumOf szStr (es.take k) + x.size) := hid hsum
      have HP := hid hpp
      have hle' : ((sumOf szStr (es.take k) : Nat) : Int) + (x.size : Int) ≤ (sumOf szStr es : Nat) := by have : szStr x = x.size := rfl; omega
      have HL := hid hle'
      have HB := hid hb
      clear hao hsum hpp hle hle' hx hs
      by_cases hf : p < x.size
      · have hfd : p - (x.size : Int) < 0 := by omega
        go_wp2
        go_ret
        exact ret_int (by rw [szOf_neg (by have := HP.out; have := HL.out; omega)]) HB.out
      · have hfd : ¬ (p - (x.size : Int) < 0) := by omega
        have hfdd : decide (p - (x.size : Int) < 0) = false := decide_eq_false hfd
        go_wp2
        go_roundw
        case rel => exact ⟨k + 1, by omega, by go_num, by rw [HS.out, HP.out]; congr 1; omega, by rw [HS.out]; have := HP.out; omega, HB.out⟩
        case measure => simp [intOf]; omega
    · have hk' : es.length = k := by omega
      go_wp2
      go_ret
      rw [← hk', List.take_length] at hp
      exact ret_int (by rw [← hk', List.take_length, szOf_pos (by omega)]; omega) hb
set_option maxHeartbeats 400000 in
theorem eqStringSR_any (v1 v2 : Value) (es : XStringS) (w : World) {lo1 hi1 lo2 hi2 : Nat} (h1 : rStringS.at_ lo1 hi1 w v1 es) (h2 : rStringS.at_ lo2 hi2 w v2 es) :
    Calls Try.prog 19 #[v1, v2] w (Ret (.bool true) w) := by
  obtain ⟨b, off, ao, cap, rfl, hnc, hcm, hao, hc⟩ := rStringS_arr h1
  obtain ⟨b2, off2, ao2, cap2, rfl, hnc2, hcm2, hao2, hc2⟩ := rStringS_arr h2
  unfold maxLen at hcm
  clear h1 h2
  go_enter Try.func19, Try.ntmps19
  go_wp2
  go_loopw [5] (fun i wr => ∃ k : Nat, k ≤ es.length ∧ i = .int .i64 k ∧ Below w.heap.size w wr) (fun i _ => es.length - (intOf i).toNat)
  case atStart => exact ⟨0, Nat.zero_le _, rfl, Below.refl _ _⟩
  case round =>
    obtain ⟨k, hk, rfl, hb⟩ := hrel
    by_cases hlt : k < es.length
    · obtain ⟨hao', hbw⟩ := hao (by omega)
      obtain ⟨hao2', hbw2⟩ := hao2 (by omega)
      subst hao' hao2'
      obtain ⟨x, hx⟩ : ∃ x, es[k]? = some x := ⟨_, List.getElem?_eq_getElem hlt⟩
      have c0 := eStr_cell (hc.below hb hbw) hx
      have d0 := eStr_cell (hc2.below hb hbw2) hx
      clear hao hao2
      have hli : (k : Int) < (es.length : Int) := by omega
      go_wp2
      go_region
      go_wp2
      go_roundw
      case rel => exact ⟨k + 1, by omega, by go_num, hb.drew⟩
      case measure => simp [intOf]; omega
    · go_wp2
      go_ret
      exact ret_bool rfl hb
set_option maxHeartbeats 1000000 in
theorem markStringSR_any (v : Value) (es : XStringS) (lo hi : Nat) (k : Int) (w : World) (h : rStringS.own lo hi w v es) (hn : okStringS es) (hk0 : 0 ≤ k) (hk1 : k ≤ 20000000) :
    Calls Try.prog 20 #[v, .int .i64 k] w (RetMark rStringS (mkXStringS k es) (k + cntStringS es) lo hi v w) := by
  replace h : OwnIn eStr 9 lo hi w v es := h
  unfold okStringS at hn
  have hsl : ∃ (ao : Option Addr) (cap g : Nat), v = .slice ao es.length cap ∧ (0 < es.length → ao = some ⟨g, 0, none⟩) := by
    rcases h.1.shape with ⟨rfl, rfl⟩ | ⟨g, cap, rfl, _, _⟩
    · exact ⟨none, 0, 0, rfl, by simp⟩
    · exact ⟨_, cap, g, rfl, fun _ => rfl⟩
  obtain ⟨ao, cap, g, rfl, hao⟩ := hsl
  go_enter Try.func20, Try.ntmps20
  go_wp2
  go_loopw [1, 5] (fun kv iv wr => ∃ (i : Nat) (ys : List ByteArray), i ≤ es.length ∧ iv = .int .i64 i ∧ kv = .int .i64 (k + (i : Int)) ∧ ys.length = es.length ∧ (∀ j, j < i → ys[j]? = (mkStr k es.length)[j]?) ∧
      OwnIn eStr 9 lo hi wr (.slice ao es.length cap) ys ∧ Mk (fun T => T == 9) lo hi w wr) (fun _ i _ => es.length - (intOf i).toNat)
  case atStart => exact ⟨0, es, Nat.zero_le _, rfl, by simp, rfl, by simp, h, Mk.refl _ _ _ _⟩
  case round =>
    clear h
    obtain ⟨i, ys, hk, rfl, rfl, hyl, hys, ho, hch⟩ := hrel
    have HY := hid hyl
    have HYS := hid hys
    clear hyl hys
    by_cases hlt : i < es.length
    · have hao' := hao (by omega)
      subst hao'
      clear hao
      obtain ⟨y, hy⟩ : ∃ y, ys[i]? = some y := ⟨_, List.getElem?_eq_getElem (by rw [HY.out]; exact hlt)⟩
      have Y0 := hid hy
      clear hy
      have O0 := ho
      clear ho
      obtain ⟨u0, hv0⟩ := ownS_slot O0.1 (by simp [HY.out]) hlt
      have hf := O0.1.free (by simp [HY.out])
      go_wp2_with fail
      refine (markText_any _ _ (by omega)).mono ?_
      rintro e w2 ⟨rfl, hb2⟩
      clear hf hv0
      have O0b := (Rep.flat eStr 9).own_below O0 hb2
      obtain ⟨u0, hv0⟩ := ownS_slot O0b.1 (by simp [HY.out]) hlt
      have hf := O0b.1.free (by simp [HY.out])
      have S0 := O0b.set1 (by simp [HY.out]) Y0.out (j := 0) (x' := mt (k + (i : Int))) (u := .string (mt (k + (i : Int)))) (by decide) rfl
      rw [show i * eStr.sz + 0 = i by show i * 1 + 0 = i; omega] at S0
      go_wp2
      go_roundw
      case rel =>
        have h1 := fill_step (xs := mkStr k es.length) (by rw [mkStr_len]; exact HY.out) HYS.out (mkStr_get k es.length i hlt)
        exact ⟨i + 1, ys.set i (mt (k + (i : Int))), by omega, by go_num, by go_num, by rw [h1.1, mkStr_len], h1.2, S0.1, (hch.trans (Mk.of_below hb2)).trans S0.2⟩
      case measure => simp [intOf]; omega
    · obtain rfl : i = es.length := by omega
      have := fill_done (xs := mkStr k es.length) (by rw [mkStr_len]; exact HY.out) HYS.out (by rw [mkStr_len]; exact Nat.le_refl _)
      subst this
      clear HYS
      go_wp2
      go_ret
      exact ⟨rfl, ho, hch⟩
end Go.Proofs.Ythooeaappnkjgaa
