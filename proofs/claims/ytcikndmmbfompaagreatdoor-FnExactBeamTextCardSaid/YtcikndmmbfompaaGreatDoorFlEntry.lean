/- The type Entry: how its values lie in cells, and what the laws' functions over it do: every function here is shown for every argument that can be read. -/
import Derived.Test.YtcikndmmbfompaaGreatDoorRows
import Derived.Test.YtcikndmmbfompaaGreatDoorMark
import Derived.Test.YtcikndmmbfompaaGreatDoorRep
import Derived.Test.YtcikndmmbfompaaGreatDoorReg
import Derived.Test.YtcikndmmbfompaaGreatDoorOpen
namespace Go.Proofs.YtcikndmmbfompaaGreatDoor
open Go.RowKit

structure DEntry where
  word : ByteArray
  cost : Int
def eEntry : Enc DEntry := ⟨fun x => [.string x.word, .int .i64 x.cost], 2, fun _ => rfl, by decide, fun x u hu => by simp at hu; rcases hu with rfl | rfl <;> rfl⟩

theorem eEntry_cells {w : World} {b off : Nat} {es : List DEntry} (h : Cells eEntry w b off es) {k : Nat} {x : DEntry} (hx : es[k]? = some x) :
    w.cell? ⟨b, off + k * 2, none⟩ = some (.string x.word) ∧ w.cell? ⟨b, off + k * 2 + 1, none⟩ = some (.int .i64 x.cost) :=
  ⟨h k x hx 0 _ rfl, h k x hx 1 _ rfl⟩

set_option maxRecDepth 100000 in
set_option maxHeartbeats 400000 in
theorem toEntry_any (x : DEntry) (w : World) :
    Calls Tryz.prog 37 #[.agg #[.string x.word, .int .i64 x.cost]] w (Ret (.agg #[.string x.word, .int .i64 x.cost]) w) := by
  go_enter Tryz.func37, Tryz.ntmps37
  go_wp2
  exact bodyPost_ret (v := .agg #[.string x.word, .int .i64 x.cost]) (by simp [results, Tryz.results37, go_sem]) rfl
    (ret_ret rfl ((((Below.refl _ _).alloc (Nat.le_refl _) _).alloc (by simp) _).alloc (by simp <;> omega) _))
theorem infoEntry : (Tryz.prog.info? 75).map (fun i => (i.zero, i.size, i.bytes)) = some (some (.agg #[.string ByteArray.empty, .int .i64 0]), 2, 24) := by kernel_rfl

set_option maxRecDepth 100000 in
set_option maxHeartbeats 400000 in
theorem toEntryS_any (v : Value) (es : List DEntry) (w : World) (h : Arr eEntry w v es) (hn : es.length ≤ 1048576) :
    Calls Tryz.prog 19 #[v] w (RetOwn eEntry 75 es w) := by
  obtain ⟨b, off, ao, cap, rfl, hnc, hcm, hao, hc⟩ := h
  obtain ⟨i0, hi, hz0, hz1, hz2⟩ := info_parts infoEntry
  go_enter Tryz.func19, Tryz.ntmps19
  go_wp2_with (at_make; refine wpList_make_full _ rfl _ _ 35 rfl w.heap.size 75 i0 _ 2 Tryz.underlying35 hi hz0 hz1 _ _ _ _ es.length rfl rfl rfl rfl (by rw [hz2]; omega) (by unfold maxLen; omega) (Nat.le_refl _) ?_; intro w1 hown hgr)
  have hown := Own.made (E := eEntry) (z := (⟨ByteArray.empty, 0⟩ : DEntry)) hown rfl
  obtain ⟨g, hg⟩ : ∃ g, g = w.heap.size := ⟨_, rfl⟩
  rw [← hg] at hown ⊢
  have hw1 : Below w.heap.size w w1 := (Below.refl _ _).grown hgr (Nat.le_refl _) (by simp)
  have hg1 : g < w1.heap.size := hown.lt.2
  have Hg := hid hg
  clear hg
  go_loopw [4] (fun i wr => ∃ (k : Nat) (ys : List DEntry), k ≤ es.length ∧ i = .int .i64 k ∧ ys.length = es.length ∧ (∀ j, j < k → ys[j]? = es[j]?) ∧
      Own eEntry 75 g wr (.slice (some ⟨g, 0, none⟩) es.length es.length) ys ∧ Below w.heap.size w wr ∧ g < wr.heap.size) (fun i _ => es.length - (intOf i).toNat)
  case atStart => exact ⟨0, _, Nat.zero_le _, rfl, by simp, by simp, hown, hw1, hg1⟩
  case round =>
    clear hown hgr hw1 hg1 hi hz0 hz1 hz2 hnc hcm
    obtain ⟨k, ys, hk, rfl, hyl, hys, hown, hb, hgw⟩ := hrel
    have HY := hid hyl
    clear hyl
    by_cases hlt : k < es.length
    · obtain ⟨hao', hbw⟩ := hao (by omega)
      subst hao'
      obtain ⟨x, hx⟩ : ∃ x, es[k]? = some x := ⟨_, List.getElem?_eq_getElem hlt⟩
      obtain ⟨c0, c1⟩ := eEntry_cells (hc.below hb hbw) hx
      clear hao
      have HYS := hid hys
      clear hys
      go_wp2_with (go_at_call 37; refine (toEntry_any _ _).mono ?_; rintro e w2 ⟨rfl, hb2⟩; have hown2 := hown.below hb2; clear hown; have hw2 := hb2.size; obtain ⟨u0, hu0⟩ := hown2.slot HY.out.symm k hlt 0 (by decide); obtain ⟨u1, hu1⟩ := hown2.slot HY.out.symm k hlt 1 (by decide); have hf := hown2.free HY.out.symm; have hv0 : w2.cell? ⟨g, k * 2, none⟩ = some u0 := hu0; have hv1 : w2.cell? ⟨g, k * 2 + 1, none⟩ = some u1 := hu1; clear hu0 hu1)
      go_roundw
      case rel =>
        have h1 := fill_step HY.out HYS.out hx
        have h2 := hown2.set HY.out.symm k (by rw [HY.out]; exact hlt) x
        exact ⟨k + 1, ys.set k x, by omega, by go_num, h1.1, h1.2, h2.1, (hb.trans (hb2.mono (by rw [← Hg.out]; omega))).grown h2.2 (by have := hb.size; omega) (by have := Hg.out; simp; omega), Nat.lt_of_lt_of_le (Nat.lt_of_lt_of_le hgw hw2) h2.2.size⟩
      case measure => simp [intOf]; omega
    · go_wp2
      go_ret
      have := fill_done HY.out hys (by omega)
      subst this
      exact ⟨_, rfl, by rw [← Hg.out, ← HY.out]; exact hown, hb⟩

def szEntry (x : DEntry) : Nat := x.word.size
def goodEntry (x : DEntry) : Prop := x.word.size ≤ maxLen ∧ (Lit.int .i64 x.cost).wf = true

set_option maxRecDepth 100000 in
set_option maxHeartbeats 400000 in
theorem szEntry_any (x : DEntry) (left : Int) (w : World) (hs : goodEntry x) (hl : 0 ≤ left) (hu : left ≤ 1048576) :
    Calls Tryz.prog 27 #[.agg #[.string x.word, .int .i64 x.cost], .int .i64 left] w (Ret (.int .i64 (szOf (szEntry x) left)) w) := by
  have hs := hs.1
  unfold maxLen at hs
  go_enter Tryz.func27, Tryz.ntmps27
  go_wp2
  · go_ret
    exact ret_int (by rw [szOf_neg (by unfold szEntry; omega)]) ((Below.refl _ _).alloc (Nat.le_refl _) _)
  · go_ret
    exact ret_int (by rw [szOf_pos (by unfold szEntry; omega)]; rfl) ((Below.refl _ _).alloc (Nat.le_refl _) _)
set_option maxRecDepth 100000 in
set_option maxHeartbeats 400000 in
theorem szEntryS_any (v : Value) (es : List DEntry) (left : Int) (w : World) (h : Arr eEntry w v es) (hs : ∀ x ∈ es, goodEntry x) (hl : 0 ≤ left) (hu : left ≤ 1048576) :
    Calls Tryz.prog 13 #[v, .int .i64 left] w (Ret (.int .i64 (szOf (es.length + sumOf szEntry es) left)) w) := by
  obtain ⟨b, off, ao, cap, rfl, hnc, hcm, hao, hc⟩ := h
  unfold maxLen at hcm
  by_cases h0 : left < es.length
  · go_enter Tryz.func13, Tryz.ntmps13
    go_wp2
    go_ret
    exact ret_int (by rw [szOf_neg (by omega)]) (Below.refl _ _)
  have hd : decide (left - (es.length : Int) < 0) = false := by simp; omega
  go_enter Tryz.func13, Tryz.ntmps13
  go_wp2
  go_loopw [1, 5] (fun l i wr => ∃ k : Nat, k ≤ es.length ∧ i = .int .i64 k ∧ l = .int .i64 (left - es.length - sumOf szEntry (es.take k)) ∧ 0 ≤ left - es.length - sumOf szEntry (es.take k) ∧ Below w.heap.size w wr) (fun _ i _ => es.length - (intOf i).toNat)
  case atStart => exact ⟨0, Nat.zero_le _, rfl, by simp [sumOf], by simp [sumOf]; omega, Below.refl _ _⟩
  case round =>
    obtain ⟨k, hk, rfl, rfl, hp, hb⟩ := hrel
    by_cases hlt : k < es.length
    · obtain ⟨hao', hbw⟩ := hao (by omega)
      subst hao'
      obtain ⟨x, hx⟩ : ∃ x, es[k]? = some x := ⟨_, List.getElem?_eq_getElem hlt⟩
      obtain ⟨c0, c1⟩ := eEntry_cells (hc.below hb hbw) hx
      have hxs := hid (hs x (List.mem_of_getElem? hx))
      have hsum := sumOf_take szEntry hx
      have hle := sumOf_take_le szEntry es (k + 1)
      rw [hsum] at hle
      obtain ⟨p, hpp⟩ : ∃ p, p = left - es.length - sumOf szEntry (es.take k) := ⟨_, rfl⟩
      rw [← hpp] at hp ⊢
      have hpu : p ≤ 1048576 := by omega
      have HS : Hid (sumOf szEntry (es.take (k + 1)) = sumOf szEntry (es.take k) + szEntry x) := hid hsum
      have HP := hid hpp
      clear hao hs hsum hpp
      by_cases hf : p < szEntry x
      · go_wp2_with (go_at_call 27; refine (szEntry_any _ _ _ hxs.out (by omega) (by omega)).mono ?_; rintro e w2 ⟨rfl, hb2⟩; rw [szOf_neg hf])
        go_ret
        exact ret_int (by rw [szOf_neg (by have := HP.out; omega)]) (hb.trans (hb2.mono hb.size))
      · go_wp2_with (go_at_call 27; refine (szEntry_any _ _ _ hxs.out (by omega) (by omega)).mono ?_; rintro e w2 ⟨rfl, hb2⟩; rw [szOf_pos (by omega)])
        go_roundw
        case rel => exact ⟨k + 1, by omega, by go_num, by rw [HS.out, HP.out]; congr 1; omega, by rw [HS.out]; have := HP.out; omega, hb.trans (hb2.mono hb.size)⟩
        case measure => simp [intOf]; omega
    · have hk' : es.length = k := by omega
      go_wp2
      go_ret
      rw [← hk', List.take_length] at hp
      exact ret_int (by rw [← hk', List.take_length, szOf_pos (by omega)]; omega) hb

set_option maxRecDepth 100000 in
set_option maxHeartbeats 400000 in
theorem eqEntry_any (x : DEntry) (w : World) :
    Calls Tryz.prog 49 #[.agg #[.string x.word, .int .i64 x.cost], .agg #[.string x.word, .int .i64 x.cost]] w (Ret (.bool true) w) := by
  go_enter Tryz.func49, Tryz.ntmps49
  go_wp2
  go_ret
  exact ret_bool rfl (((Below.refl _ _).alloc (Nat.le_refl _) _).alloc (by simp) _)
set_option maxRecDepth 100000 in
set_option maxHeartbeats 400000 in
theorem eqEntryS_any (v1 v2 : Value) (es : List DEntry) (w : World) (h1 : Arr eEntry w v1 es) (h2 : Arr eEntry w v2 es) :
    Calls Tryz.prog 25 #[v1, v2] w (Ret (.bool true) w) := by
  obtain ⟨b, off, ao, cap, rfl, hnc, hcm, hao, hc⟩ := h1
  obtain ⟨b2, off2, ao2, cap2, rfl, hnc2, hcm2, hao2, hc2⟩ := h2
  unfold maxLen at hcm
  go_enter Tryz.func25, Tryz.ntmps25
  go_wp2
  go_loopw [5] (fun i wr => ∃ k : Nat, k ≤ es.length ∧ i = .int .i64 k ∧ Below w.heap.size w wr) (fun i _ => es.length - (intOf i).toNat)
  case atStart => exact ⟨0, Nat.zero_le _, rfl, Below.refl _ _⟩
  case round =>
    obtain ⟨k, hk, rfl, hb⟩ := hrel
    by_cases hlt : k < es.length
    · obtain ⟨hao', hbw⟩ := hao (by omega)
      obtain ⟨hao2', hbw2⟩ := hao2 (by omega)
      subst hao' hao2'
      obtain ⟨x, hx⟩ : ∃ x, es[k]? = some x := ⟨_, List.getElem?_eq_getElem hlt⟩
      obtain ⟨c0, c1⟩ := eEntry_cells (hc.below hb hbw) hx
      obtain ⟨d0, d1⟩ := eEntry_cells (hc2.below hb hbw2) hx
      have c0 := ext_cell c0
      have c1 := ext_cell c1
      have d0 := ext_cell d0
      have d1 := ext_cell d1
      clear hao hao2
      have hli : (k : Int) < (es.length : Int) := by omega
      go_wp2
      refine wp_region_ext (by kernel_rfl) (by kernel_rfl) ?_
      repeat (go_big_quiet_step (((go_at_call 49; exact ret_ext (eqEntry_any _ _)))))
      refine wpQuiet_nil ?_
      intro _ hw'
      obtain ⟨nq, hw''⟩ := hw'
      subst hw''
      go_wp2
      go_roundw
      case rel => exact ⟨k + 1, by omega, by go_num, hb.trans ((ext_below _ _).mono hb.size)⟩
      case measure => simp [intOf]; omega
    · go_wp2
      go_ret
      exact ret_bool rfl hb

/-- what markTS leaves -/
def mkEntry (k : Int) (n : Nat) : List DEntry := (List.range n).map fun (i : Nat) => ⟨mt (k + 2 * (i : Int)), k + 2 * (i : Int) + 1⟩
theorem mkEntry_len (k : Int) (n : Nat) : (mkEntry k n).length = n := by simp [mkEntry]
theorem mkEntry_get (k : Int) (n i : Nat) (h : i < n) : (mkEntry k n)[i]? = some ⟨mt (k + 2 * (i : Int)), k + 2 * (i : Int) + 1⟩ := by simp [mkEntry, h]

set_option maxRecDepth 100000 in
theorem decEntry (w : World) (cs : List Value) (h : Rd Tryz.prog w 65 cs) : ∃ x : DEntry, cs = eEntry.row x ∧ goodEntry x := by
  obtain ⟨hl, hf⟩ := rd_struct Tryz.underlying65 h
  rw [show Tryz.prog.cellsOf 65 = 2 by kernel_rfl] at hl
  obtain ⟨c0, c1, rfl⟩ : ∃ c0 c1, cs = [c0, c1] := by
    match cs, hl with
    | [c0, c1], _ => exact ⟨c0, c1, rfl⟩
  have h0 : Rd Tryz.prog w 9 (([c0, c1].drop 0).take (Tryz.prog.cellsOf 9)) := hf 0 _ rfl
  have h1 : Rd Tryz.prog w 2 (([c0, c1].drop 1).take (Tryz.prog.cellsOf 2)) := hf 1 _ rfl
  rw [show Tryz.prog.cellsOf 9 = 1 by kernel_rfl] at h0
  obtain ⟨s0, hs0, hg0⟩ := rd_string Tryz.underlying9 h0
  simp at hs0
  subst hs0
  rw [show Tryz.prog.cellsOf 2 = 1 by kernel_rfl] at h1
  obtain ⟨s1, hs1, hg1⟩ := rd_int Tryz.underlying2 h1
  simp at hs1
  subst hs1
  exact ⟨⟨s0, s1⟩, rfl, hg0, hg1⟩
end Go.Proofs.YtcikndmmbfompaaGreatDoor
