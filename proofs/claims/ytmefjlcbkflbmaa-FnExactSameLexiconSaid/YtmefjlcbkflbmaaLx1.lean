import Derived.Test.YtmefjlcbkflbmaaRows
import Derived.Test.YtmefjlcbkflbmaaBase
namespace Go.Proofs.Ytmefjlcbkflbmaa
open Go.RowKit

structure En where
  word : ByteArray
  cost : Int
def enE : Enc En := ⟨fun e => [.string e.word, .int .i64 e.cost], 2, fun _ => rfl, by decide, fun x u hu => by simp at hu; rcases hu with rfl | rfl <;> rfl⟩

theorem enE_cells {w : World} {b off : Nat} {es : List En} (h : Cells enE w b off es) {k : Nat} {x : En} (hx : es[k]? = some x) :
    w.cell? ⟨b, off + k * 2, none⟩ = some (.string x.word) ∧ w.cell? ⟨b, off + k * 2 + 1, none⟩ = some (.int .i64 x.cost) :=
  ⟨h k x hx 0 _ rfl, h k x hx 1 _ rfl⟩

set_option maxHeartbeats 400000 in
theorem toEntry_any (x : En) (w : World) :
    Calls Try.prog 27 #[.agg #[.string x.word, .int .i64 x.cost]] w (Ret (.agg #[.string x.word, .int .i64 x.cost]) w) := by
  go_enter Try.func27, Try.ntmps27
  go_wp2
  exact bodyPost_ret (v := .agg #[.string x.word, .int .i64 x.cost]) (by simp [results, Try.results27, go_sem]) rfl
    ⟨rfl, (((Below.refl _ _).alloc (Nat.le_refl _) _).alloc (by simp) _).alloc (by simp; omega) _⟩

theorem infoEn : (Try.prog.info? 50).map (fun i => (i.zero, i.size, i.bytes)) = some (some (.agg #[.string ByteArray.empty, .int .i64 0]), 2, 24) := by kernel_rfl

set_option maxHeartbeats 400000 in
theorem toEntryS_any (v : Value) (es : List En) (w : World) (h : Arr enE w v es) (hn : es.length ≤ 1048576) :
    Calls Try.prog 33 #[v] w (RetOwn enE 50 es w) := by
  obtain ⟨b, off, ao, cap, rfl, hnc, hcm, hao, hc⟩ := h
  obtain ⟨i0, hi, hz0, hz1, hz2⟩ := info_parts infoEn
  go_enter Try.func33, Try.ntmps33
  go_wp2_with (at_make; refine wpList_make_full _ rfl _ _ 33 rfl w.heap.size 50 i0 _ 2 Try.underlying33 hi hz0 hz1 _ _ _ _ es.length rfl rfl rfl rfl (by rw [hz2]; omega) (by unfold maxLen; omega) (Nat.le_refl _) ?_; intro w1 hown hgr)
  have hown := Own.made (E := enE) (z := (⟨ByteArray.empty, 0⟩ : En)) hown rfl
  obtain ⟨g, hg⟩ : ∃ g, g = w.heap.size := ⟨_, rfl⟩
  rw [← hg] at hown ⊢
  have hw1 : Below w.heap.size w w1 := (Below.refl _ _).grown hgr (Nat.le_refl _) (by simp)
  have hg1 : g < w1.heap.size := by
    rcases hown.2 with ⟨h, _⟩ | ⟨g', _, _, h, _, hh, _⟩
    · simp at h
    · simp at h; obtain ⟨rfl, _⟩ := h; exact (Array.getElem?_eq_some_iff.1 hh).1
  have Hg := hid hg
  clear hg
  go_loopw [4] (fun i wr => ∃ (k : Nat) (ys : List En), k ≤ es.length ∧ i = .int .i64 k ∧ ys.length = es.length ∧ (∀ j, j < k → ys[j]? = es[j]?) ∧
      Own enE 50 g wr (.slice (some ⟨g, 0, none⟩) es.length es.length) ys ∧ Below w.heap.size w wr ∧ g < wr.heap.size) (fun i _ => es.length - (intOf i).toNat)
  case atStart => exact ⟨0, _, Nat.zero_le _, rfl, by simp, by simp, hown, hw1, hg1⟩
  case round =>
    clear hown hgr hw1 hg1 hi hz0 hz1 hz2 hnc hcm
    obtain ⟨k, ys, hk, rfl, hyl, hys, hown, hb, hgw⟩ := hrel
    have HY := hid hyl
    clear hyl
    by_cases hlt : k < es.length
    · obtain ⟨hao', hbw⟩ := hao (by omega)
      subst hao'
      obtain ⟨x, hx⟩ : ∃ x, es[k]? = some x := ⟨_, List.getElem?_eq_getElem hlt⟩
      obtain ⟨c0, c1⟩ := enE_cells (hc.below hb hbw) hx
      clear hao
      have HYS := hid hys
      clear hys
      go_wp2_with (go_at_call 27; refine (toEntry_any _ _).mono ?_; rintro e w2 ⟨rfl, hb2⟩; have hown2 := hown.below hb2; clear hown; have hw2 := hb2.size; obtain ⟨u0, hu0⟩ := hown2.slot HY.out.symm k hlt 0 (by decide); obtain ⟨u1, hu1⟩ := hown2.slot HY.out.symm k hlt 1 (by decide); have hf := hown2.free HY.out.symm; have hu0' : w2.cell? ⟨g, k * 2, none⟩ = some u0 := hu0; have hu1' : w2.cell? ⟨g, k * 2 + 1, none⟩ = some u1 := hu1; clear hu0 hu1)
      go_roundw
      case rel =>
        have h1 := fill_step HY.out HYS.out hx
        have h2 := hown2.set HY.out.symm k (by rw [HY.out]; exact hlt) x
        exact ⟨k + 1, ys.set k x, by omega, by go_num, h1.1, h1.2, h2.1, (hb.trans (hb2.mono (by rw [← Hg.out]; omega))).grown h2.2 (by have := hb.size; omega) (by have := Hg.out; simp; omega), Nat.lt_of_lt_of_le (Nat.lt_of_lt_of_le hgw hw2) h2.2.size⟩
      case measure => simp [intOf]; omega
    · go_wp2
      go_ret
      have := fill_done HY.out hys (by omega)
      subst this
      exact ⟨_, rfl, by rw [← Hg.out, ← HY.out]; exact hown, hb⟩

def szEn (x : En) : Nat := x.word.size

set_option maxHeartbeats 400000 in
theorem szEntry_any (x : En) (left : Int) (w : World) (hs : x.word.size ≤ maxLen) (hl : 0 ≤ left) (hu : left ≤ 1048576) :
    Calls Try.prog 25 #[.agg #[.string x.word, .int .i64 x.cost], .int .i64 left] w (Ret (.int .i64 (szOf (szEn x) left)) w) := by
  unfold maxLen at hs
  go_enter Try.func25, Try.ntmps25
  go_wp2
  · go_ret
    exact ret_int (by rw [szOf_neg (by unfold szEn; omega)]) ((Below.refl _ _).alloc (Nat.le_refl _) _)
  · go_ret
    exact ret_int (by rw [szOf_pos (by unfold szEn; omega)]; rfl) ((Below.refl _ _).alloc (Nat.le_refl _) _)

set_option maxHeartbeats 400000 in
theorem szEntryS_any (v : Value) (es : List En) (left : Int) (w : World) (h : Arr enE w v es) (hs : ∀ x ∈ es, x.word.size ≤ maxLen) (hl : 0 ≤ left) (hu : left ≤ 1048576) :
    Calls Try.prog 31 #[v, .int .i64 left] w (Ret (.int .i64 (szOf (es.length + sumOf szEn es) left)) w) := by
  obtain ⟨b, off, ao, cap, rfl, hnc, hcm, hao, hc⟩ := h
  unfold maxLen at hcm
  by_cases h0 : left < es.length
  · go_enter Try.func31, Try.ntmps31
    go_wp2
    go_ret
    exact ret_int (by rw [szOf_neg (by omega)]) (Below.refl _ _)
  have hd : decide (left - (es.length : Int) < 0) = false := by simp; omega
  go_enter Try.func31, Try.ntmps31
  go_wp2
  go_loopw [1, 5] (fun l i wr => ∃ k : Nat, k ≤ es.length ∧ i = .int .i64 k ∧ l = .int .i64 (left - es.length - sumOf szEn (es.take k)) ∧ 0 ≤ left - es.length - sumOf szEn (es.take k) ∧ Below w.heap.size w wr) (fun _ i _ => es.length - (intOf i).toNat)
  case atStart => exact ⟨0, Nat.zero_le _, rfl, by simp [sumOf], by simp [sumOf]; omega, Below.refl _ _⟩
  case round =>
    obtain ⟨k, hk, rfl, rfl, hp, hb⟩ := hrel
    by_cases hlt : k < es.length
    · obtain ⟨hao', hbw⟩ := hao (by omega)
      subst hao'
      obtain ⟨x, hx⟩ : ∃ x, es[k]? = some x := ⟨_, List.getElem?_eq_getElem hlt⟩
      obtain ⟨c0, c1⟩ := enE_cells (hc.below hb hbw) hx
      have hxs := hs x (List.mem_of_getElem? hx)
      have hsum := sumOf_take szEn hx
      have hle := sumOf_take_le szEn es (k + 1)
      rw [hsum] at hle
      obtain ⟨p, hpp⟩ : ∃ p, p = left - es.length - sumOf szEn (es.take k) := ⟨_, rfl⟩
      rw [← hpp] at hp ⊢
      have hpu : p ≤ 1048576 := by omega
      have HS : Hid (sumOf szEn (es.take (k + 1)) = sumOf szEn (es.take k) + szEn x) := hid hsum
      have HP := hid hpp
      clear hao hs hsum hpp
      by_cases hf : p < szEn x
      · go_wp2_with (go_at_call 25; refine (szEntry_any _ _ _ hxs (by omega) (by omega)).mono ?_; rintro e w2 ⟨rfl, hb2⟩; rw [szOf_neg hf])
        go_ret
        exact ret_int (by rw [szOf_neg (by have := HP.out; omega)]) (hb.trans (hb2.mono hb.size))
      · go_wp2_with (go_at_call 25; refine (szEntry_any _ _ _ hxs (by omega) (by omega)).mono ?_; rintro e w2 ⟨rfl, hb2⟩; rw [szOf_pos (by omega)])
        go_roundw
        case rel => exact ⟨k + 1, by omega, by go_num, by rw [HS.out, HP.out]; congr 1; omega, by rw [HS.out]; have := HP.out; omega, hb.trans (hb2.mono hb.size)⟩
        case measure => simp [intOf]; omega
    · have hk' : es.length = k := by omega
      go_wp2
      go_ret
      rw [← hk', List.take_length] at hp
      exact ret_int (by rw [← hk', List.take_length, szOf_pos (by omega)]; omega) hb
end Go.Proofs.Ytmefjlcbkflbmaa
