/- Slices of strings: how their values lie in memory, and what the laws' functions over them do. -/
import Derived.Test.YtbgjojnjbplblaaGreatDoorRows
import Derived.Test.YtbgjojnjbplblaaGreatDoorMark
import Derived.Test.YtbgjojnjbplblaaGreatDoorRep
import Derived.Test.YtbgjojnjbplblaaGreatDoorReg
import Derived.Test.YtbgjojnjbplblaaGreatDoorOpen
namespace Go.Proofs.YtbgjojnjbplblaaGreatDoor
open Go.ChangeShapes Go.WideShapes Go.ChangeAt Go.RowKit Go.Deep

def eStr : Enc ByteArray := ⟨fun x => [.string x], 1, fun _ => rfl, by decide, fun x u hu => by simp at hu; subst hu; rfl⟩
abbrev XStringS := List ByteArray
def rStringS : Rep XStringS := Rep.flat eStr 9
def goodStringS (x : XStringS) : Prop := ∀ s ∈ x, s.size ≤ maxLen
def okStringS (x : XStringS) : Prop := x.length ≤ 1048576
def szStr (s : ByteArray) : Nat := s.size
def sizeStringS (x : XStringS) : Nat := x.length + sumOf szStr x
theorem okStringS_of {x : XStringS} (h : sizeStringS x ≤ 1048576) : okStringS x := by unfold sizeStringS at h; unfold okStringS; omega
def cntStringS (x : XStringS) : Int := (x.length : Int)
theorem cntStringS_bd {x : XStringS} (h : okStringS x) : 0 ≤ cntStringS x ∧ cntStringS x ≤ 10000000 := by unfold okStringS at h; unfold cntStringS; omega
def mkStr (k : Int) (n : Nat) : List ByteArray := (List.range n).map fun (i : Nat) => mt (k + (i : Int))
theorem mkStr_len (k : Int) (n : Nat) : (mkStr k n).length = n := by simp [mkStr]
theorem mkStr_get (k : Int) (n i : Nat) (h : i < n) : (mkStr k n)[i]? = some (mt (k + (i : Int))) := by simp [mkStr, h]
def mkXStringS (k : Int) (x : XStringS) : XStringS := mkStr k x.length
theorem shapeStringS {lo hi : Nat} {w : World} {v : Value} {x : XStringS} (h : rStringS.at_ lo hi w v x) : ∃ sa sc, v = .slice sa x.length sc := (ArrIn.arr h).isSlice
theorem rStringS_arr {lo hi : Nat} {w : World} {v : Value} {x : XStringS} (h : rStringS.at_ lo hi w v x) : Arr eStr w v x := ArrIn.arr h
theorem rStringS_own {w w' : World} {B : Nat} {u : Value} {x : XStringS} (h : Own eStr 9 B w' u x) (hB : w.heap.size ≤ B) : rStringS.own w.heap.size w'.heap.size w' u x := (h.mono hB).in_
theorem eStr_cell {w : World} {b off : Nat} {es : List ByteArray} (h : Cells eStr w b off es) {k : Nat} {x : ByteArray} (hx : es[k]? = some x) : w.cell? ⟨b, off + k, none⟩ = some (.string x) := by
  have := h k x hx 0 _ rfl
  have e : off + k * eStr.sz + 0 = off + k := by show off + k * 1 + 0 = off + k; omega
  rw [e] at this
  exact this
theorem infoStr : (Tryz.prog.info? 9).map (fun i => (i.zero, i.size, i.bytes)) = some (some (.string ByteArray.empty), 1, 16) := by kernel_rfl
theorem ownS_slot {B g cap n : Nat} {w : World} {xs : List ByteArray} (h : Own eStr 9 B w (.slice (some ⟨g, 0, none⟩) n cap) xs) (hn : n = xs.length) {k : Nat} (hk : k < n) : ∃ u, w.cell? ⟨g, k, none⟩ = some u := by
  obtain ⟨u, hu⟩ := h.slot hn k hk 0 (by decide)
  have e : k * eStr.sz + 0 = k := by show k * 1 + 0 = k; omega
  rw [e] at hu
  exact ⟨u, hu⟩
set_option maxHeartbeats 400000 in
theorem eqStringSR_any (v1 v2 : Value) (es : XStringS) (w : World) {lo1 hi1 lo2 hi2 : Nat} (h1 : rStringS.at_ lo1 hi1 w v1 es) (h2 : rStringS.at_ lo2 hi2 w v2 es) :
    Calls Tryz.prog 29 #[v1, v2] w (Ret (.bool true) w) := by
  obtain ⟨b, off, ao, cap, rfl, hnc, hcm, hao, hc⟩ := rStringS_arr h1
  obtain ⟨b2, off2, ao2, cap2, rfl, hnc2, hcm2, hao2, hc2⟩ := rStringS_arr h2
  unfold maxLen at hcm
  clear h1 h2
  go_enter Tryz.func29, Tryz.ntmps29
  go_wp2
  go_loopw [5] (fun i wr => ∃ k : Nat, k ≤ es.length ∧ i = .int .i64 k ∧ Below w.heap.size w wr) (fun i _ => es.length - (intOf i).toNat)
  case atStart => exact ⟨0, Nat.zero_le _, rfl, Below.refl _ _⟩
  case round =>
    obtain ⟨k, hk, rfl, hb⟩ := hrel
    by_cases hlt : k < es.length
    · obtain ⟨hao', hbw⟩ := hao (by omega)
      obtain ⟨hao2', hbw2⟩ := hao2 (by omega)
      subst hao' hao2'
      obtain ⟨x, hx⟩ : ∃ x, es[k]? = some x := ⟨_, List.getElem?_eq_getElem hlt⟩
      have c0 := eStr_cell (hc.below hb hbw) hx
      have d0 := eStr_cell (hc2.below hb hbw2) hx
      clear hao hao2
      have hli : (k : Int) < (es.length : Int) := by omega
      go_wp2
      go_region
      go_wp2
      go_roundw
      case rel => exact ⟨k + 1, by omega, by go_num, hb.drew⟩
      case measure => simp [intOf]; omega
    · go_wp2
      go_ret
      exact ret_bool rfl hb
set_option maxHeartbeats 1000000 in
theorem markStringSR_any (v : Value) (es : XStringS) (lo hi : Nat) (k : Int) (w : World) (h : rStringS.own lo hi w v es) (hn : okStringS es) (hk0 : 0 ≤ k) (hk1 : k ≤ 20000000) :
    Calls Tryz.prog 31 #[v, .int .i64 k] w (RetMark rStringS (mkXStringS k es) (k + cntStringS es) lo hi v w) := by
  replace h : OwnIn eStr 9 lo hi w v es := h
  unfold okStringS at hn
  have hsl : ∃ (ao : Option Addr) (cap g : Nat), v = .slice ao es.length cap ∧ (0 < es.length → ao = some ⟨g, 0, none⟩) := by
    rcases h.1.shape with ⟨rfl, rfl⟩ | ⟨g, cap, rfl, _, _⟩
    · exact ⟨none, 0, 0, rfl, by simp⟩
    · exact ⟨_, cap, g, rfl, fun _ => rfl⟩
  obtain ⟨ao, cap, g, rfl, hao⟩ := hsl
  go_enter Tryz.func31, Tryz.ntmps31
  go_wp2
  go_loopw [1, 5] (fun kv iv wr => ∃ (i : Nat) (ys : List ByteArray), i ≤ es.length ∧ iv = .int .i64 i ∧ kv = .int .i64 (k + (i : Int)) ∧ ys.length = es.length ∧ (∀ j, j < i → ys[j]? = (mkStr k es.length)[j]?) ∧
      OwnIn eStr 9 lo hi wr (.slice ao es.length cap) ys ∧ Mk (fun T => T == 9) lo hi w wr) (fun _ i _ => es.length - (intOf i).toNat)
  case atStart => exact ⟨0, es, Nat.zero_le _, rfl, by simp, rfl, by simp, h, Mk.refl _ _ _ _⟩
  case round =>
    clear h
    obtain ⟨i, ys, hk, rfl, rfl, hyl, hys, ho, hch⟩ := hrel
    have HY := hid hyl
    have HYS := hid hys
    clear hyl hys
    by_cases hlt : i < es.length
    · have hao' := hao (by omega)
      subst hao'
      clear hao
      obtain ⟨y, hy⟩ : ∃ y, ys[i]? = some y := ⟨_, List.getElem?_eq_getElem (by rw [HY.out]; exact hlt)⟩
      have Y0 := hid hy
      clear hy
      have O0 := ho
      clear ho
      obtain ⟨u0, hv0⟩ := ownS_slot O0.1 (by simp [HY.out]) hlt
      have hf := O0.1.free (by simp [HY.out])
      go_wp2_with fail
      refine (markText_any _ _ (by omega)).mono ?_
      rintro e w2 ⟨rfl, hb2⟩
      clear hf hv0
      have O0b := (Rep.flat eStr 9).own_below O0 hb2
      obtain ⟨u0, hv0⟩ := ownS_slot O0b.1 (by simp [HY.out]) hlt
      have hf := O0b.1.free (by simp [HY.out])
      have S0 := O0b.set1 (by simp [HY.out]) Y0.out (j := 0) (x' := mt (k + (i : Int))) (u := .string (mt (k + (i : Int)))) (by decide) rfl
      rw [show i * eStr.sz + 0 = i by show i * 1 + 0 = i; omega] at S0
      go_wp2
      go_roundw
      case rel =>
        have h1 := fill_step (xs := mkStr k es.length) (by rw [mkStr_len]; exact HY.out) HYS.out (mkStr_get k es.length i hlt)
        exact ⟨i + 1, ys.set i (mt (k + (i : Int))), by omega, by go_num, by go_num, by rw [h1.1, mkStr_len], h1.2, S0.1, (hch.trans (Mk.of_below hb2)).trans S0.2⟩
      case measure => simp [intOf]; omega
    · obtain rfl : i = es.length := by omega
      have := fill_done (xs := mkStr k es.length) (by rw [mkStr_len]; exact HY.out) HYS.out (by rw [mkStr_len]; exact Nat.le_refl _)
      subst this
      clear HYS
      go_wp2
      go_ret
      exact ⟨rfl, ho, hch⟩
set_option maxHeartbeats 1000000 in
theorem heldStringSR_any (v : Value) (x : XStringS) (k : Int) (w : World) {lo hi : Nat} (h : rStringS.at_ lo hi w v (mkXStringS k x)) (hn : okStringS x) (hk0 : 0 ≤ k) (hk1 : k ≤ 20000000) :
    Calls Tryz.prog 33 #[v, .int .i64 k] w (Ret (.int .i64 (k + cntStringS x)) w) := by
  replace h : Arr eStr w v (mkStr k x.length) := rStringS_arr h
  unfold cntStringS
  unfold okStringS at hn
  obtain ⟨n, hnn⟩ : ∃ n, n = x.length := ⟨_, rfl⟩
  rw [← hnn] at h hn ⊢
  clear hnn
  obtain ⟨b, off, ao, cap, rfl, hnc, hcm, hao, hc⟩ := h
  simp only [mkStr_len] at *
  unfold maxLen at hcm
  go_enter Tryz.func33, Tryz.ntmps33
  go_wp2
  go_loopw [1, 5] (fun kv iv wr => ∃ (i : Nat), i ≤ n ∧ iv = .int .i64 i ∧ kv = .int .i64 (k + (i : Int)) ∧ Below w.heap.size w wr) (fun _ i _ => n - (intOf i).toNat)
  case atStart => exact ⟨0, Nat.zero_le _, rfl, by simp, Below.refl _ _⟩
  case round =>
    obtain ⟨i, hk, rfl, rfl, hb⟩ := hrel
    by_cases hlt : i < n
    · obtain ⟨hao', hbw⟩ := hao (by omega)
      subst hao'
      clear hao
      have c0 := eStr_cell (hc.below hb hbw) (mkStr_get k n i hlt)
      have hli : (i : Int) < (n : Int) := by omega
      have x0 := ext_cell c0
      go_wp2
      refine wp_region_ext (by kernel_rfl) (by kernel_rfl) ?_
      repeat (go_big_quiet_step (((go_at_call 50; exact ret_ext (markText_any _ _ (by omega))))))
      refine wpQuiet_nil ?_
      intro _ hw'
      obtain ⟨nq0, hw''⟩ := hw'
      subst hw''
      replace c0 := x0 nq0
      clear x0
      go_wp2
      go_roundw
      case rel => exact ⟨i + 1, by omega, by go_num, by go_num, hb.trans ((ext_below _ nq0).mono hb.size)⟩
      case measure => simp [intOf]; omega
    · obtain rfl : i = n := by omega
      go_wp2
      go_ret
      exact ret_int rfl hb
end Go.Proofs.YtbgjojnjbplblaaGreatDoor
