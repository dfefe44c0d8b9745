/- The code of a training: the two whole calls. -/
import Derived.Test.YtdifhnckhocmdabGreatPcTr
namespace Go.Proofs.YtdifhnckhocmdabGreat
open Go.RowKit

theorem any_not {α : Type} (l : List α) (p : α → Bool) : (l.any fun a => !p a) = !l.all p := List.not_all_eq_any_not.symm
set_option maxRecDepth 100000 in
set_option maxHeartbeats 2000000 in
theorem trainable_any (u1 u2 v : Value) (x : XPerceptron) (l : XSampleS) (w : World) (h1 : Arr eStr w u1 x.1) (h2 : RowsI w u2 x.2) (h3 : Smps w v l) (ok : okPerceptron x) (g : goodPerceptron x) (okl : okSl l) (gl : goodSampleS l) :
    Calls Tryz.prog 29 #[.agg #[u1, u2], v] w (Ret (.int .i64 (trCode x l)) w) := by
  obtain ⟨sv, scv, hv⟩ := shapeSampleS h3.at_
  subst hv
  have hll : l.length ≤ 1048576 := okl.1
  have hxl : x.1.length ≤ 1048576 := ok.1
  obtain ⟨W, hW⟩ : ∃ u, u = (w.alloc (.cells #[u1, u2] 29)) := ⟨_, rfl⟩
  have hbW : Below w.heap.size w W := by rw [hW]; exact belowA1 _ _
  have q1 : Box W (w.heap.size) #[u1, u2] 29 := by
    have hq := Box.new w #[u1, u2] 29
    rw [hW]
    exact hq
  obtain ⟨p1, hp1⟩ : ∃ p, p = w.heap.size := ⟨_, rfl⟩
  rw [← hp1] at q1
  have hge1 : w.heap.size ≤ p1 := by omega
  have hlW : w.heap.size ≤ W.heap.size := hbW.size
  have hlp1 : p1 < W.heap.size := q1.lt
  have HP1 := hid hp1
  have HW := hid hW
  clear hW hp1
  have h1W := h1.below hbW
  have h3W := h3.below hbW
  have m0 := q1.cell (j := 0) rfl
  have CO := implValidPerceptron_any (.agg #[u1, u2]) x W ⟨u1, u2, rfl, h1W.in_, (h2.below hbW).at_⟩ ok g
  have CC1 := fun w' (hb : Below W.heap.size W w') => containsSm_any 54 #[] (fun s => !smpOk s) _ l w' (h3W.below hb) hll (enters_of Tryz.func54 (by kernel_rfl) rfl) (fun k e sa sc w3 he _ hA => trClo1_any e sa sc w3 hA (okl.2 _ _ he) (goodSmp he gl))
  have CC2 := fun w' (hb : Below W.heap.size W w') => containsSm_any 56 #[.pointer (some ⟨p1, 0, none⟩)] (fun s => !known x s) _ l w' (h3W.below hb) hll (enters_of Tryz.func56 (by kernel_rfl) rfl) (fun k e sa sc w3 _ hb3 _ => trClo2_any p1 u1 x.1 e sa sc w3 (cell_later (hb.trans (hb3.mono hb.size)) m0) (h1W.below (hb.trans (hb3.mono hb.size))) hxl)
  simp only [any_not] at CC1 CC2
  cases hp : pcOk x
  · have HZ : Hid (trCode x l = 1) := hid (by simp [trCode, hp])
    rw [hp] at CO
    clear CC1 CC2
    go_enter Tryz.func29, Tryz.ntmps29
    go_wp2_with fail
    rw [← HP1.out, ← HW.out]
    go_wp2_with fail
    refine CO.mono ?_
    rintro e w2 ⟨rfl, hb⟩
    go_wp2_with fail
    go_ret
    exact ret_int HZ.out.symm (hbW.trans (hb.mono hlW))
  rw [hp] at CO
  cases hs : l.all smpOk
  · have HZ : Hid (trCode x l = 1) := hid (by simp [trCode, hs])
    rw [hs] at CC1
    clear CC2
    go_enter Tryz.func29, Tryz.ntmps29
    go_wp2_with fail
    rw [← HP1.out, ← HW.out]
    go_wp2_with fail
    refine CO.mono ?_
    rintro e w2 ⟨rfl, hb⟩
    go_wp2_with fail
    refine (CC1 w2 hb).mono ?_
    rintro e w3 ⟨rfl, hb3⟩
    go_wp2_with fail
    go_ret
    exact ret_int HZ.out.symm (hbW.trans ((hb.trans (hb3.mono hb.size)).mono hlW))
  rw [hs] at CC1
  cases hk : l.all (known x)
  · have HZ : Hid (trCode x l = 3) := hid (by unfold trCode; rw [hp, hs, hk]; rfl)
    rw [hk] at CC2
    go_enter Tryz.func29, Tryz.ntmps29
    go_wp2_with fail
    rw [← HP1.out, ← HW.out]
    go_wp2_with fail
    refine CO.mono ?_
    rintro e w2 ⟨rfl, hb⟩
    go_wp2_with fail
    refine (CC1 w2 hb).mono ?_
    rintro e w3 ⟨rfl, hb3⟩
    replace hb := hb.trans (hb3.mono hb.size)
    go_wp2_with fail
    refine (CC2 w3 hb).mono ?_
    rintro e w4 ⟨rfl, hb4⟩
    replace hb := hb.trans (hb4.mono hb.size)
    go_wp2_with fail
    go_ret
    exact ret_int HZ.out.symm (hbW.trans (hb.mono hlW))
  rw [hk] at CC2
  have HZ : Hid (trCode x l = if 40 < l.length then 2 else 0) := hid (by unfold trCode; rw [hp, hs, hk]; rfl)
  by_cases h40 : 40 < l.length
  · have hd : decide ((40 : Int) < (l.length : Int)) = true := by simp; omega
    have HZ2 := hid (HZ.out.trans (if_pos h40))
    clear h40
    go_enter Tryz.func29, Tryz.ntmps29
    go_wp2_with fail
    rw [← HP1.out, ← HW.out]
    go_wp2_with fail
    refine CO.mono ?_
    rintro e w2 ⟨rfl, hb⟩
    go_wp2_with fail
    refine (CC1 w2 hb).mono ?_
    rintro e w3 ⟨rfl, hb3⟩
    replace hb := hb.trans (hb3.mono hb.size)
    go_wp2_with fail
    refine (CC2 w3 hb).mono ?_
    rintro e w4 ⟨rfl, hb4⟩
    replace hb := hb.trans (hb4.mono hb.size)
    go_wp2_with fail
    go_ret
    exact ret_int HZ2.out.symm (hbW.trans (hb.mono hlW))
  · have hd : decide ((40 : Int) < (l.length : Int)) = false := by simp; omega
    have HZ2 := hid (HZ.out.trans (if_neg h40))
    clear h40
    go_enter Tryz.func29, Tryz.ntmps29
    go_wp2_with fail
    rw [← HP1.out, ← HW.out]
    go_wp2_with fail
    refine CO.mono ?_
    rintro e w2 ⟨rfl, hb⟩
    go_wp2_with fail
    refine (CC1 w2 hb).mono ?_
    rintro e w3 ⟨rfl, hb3⟩
    replace hb := hb.trans (hb3.mono hb.size)
    go_wp2_with fail
    refine (CC2 w3 hb).mono ?_
    rintro e w4 ⟨rfl, hb4⟩
    replace hb := hb.trans (hb4.mono hb.size)
    go_wp2_with fail
    go_ret
    exact ret_int HZ2.out.symm (hbW.trans (hb.mono hlW))
set_option maxRecDepth 100000 in
set_option maxHeartbeats 4000000 in
theorem l12Code_any (p : Nat) (u1 u2 v : Value) (x : XPerceptron) (l : XSampleS) (w : World) (m0 : w.cell? ⟨p, 0, none⟩ = some u1) (m1 : w.cell? ⟨p, 1, none⟩ = some u2) (h1 : Arr eStr w u1 x.1) (h2 : RowsI w u2 x.2) (h3 : Smps w v l) (ok : okPerceptron x) (g : goodPerceptron x) (okl : okSl l) (gl : goodSampleS l) :
    Calls Tryz.prog 24 #[.pointer (some ⟨p, 0, none⟩), v] w (Ret (.int .i64 (trCode x l)) w) := by
  have CO := l12Ok_any p u1 u2 x.1 x.2 w m0 m1 h1 h2 ok.1 ok.2 g
  have hll : l.length ≤ 1048576 := okl.1
  have hxl : x.1.length ≤ 1048576 := ok.1
  have HSM := hid h3
  obtain ⟨b, off, ao, cap, es, rfl, hnc, hcm, hao, hc, hul, hin⟩ := h3.slice
  clear hin hul h3 hc
  unfold maxLen at hcm
  cases hp : pcOk x
  · have HZ : Hid (trCode x l = 1) := hid (by simp [trCode, hp])
    have CO2 : Calls Tryz.prog 46 #[.pointer (some ⟨p, 0, none⟩)] w (Ret (.bool false) w) := hp ▸ CO
    clear CO
    go_enter Tryz.func24, Tryz.ntmps24
    go_wp2_with fail
    refine CO2.mono ?_
    rintro e w2 ⟨rfl, hb⟩
    go_wp2_with fail
    go_ret
    exact ret_int HZ.out.symm hb
  have CO2 : Calls Tryz.prog 46 #[.pointer (some ⟨p, 0, none⟩)] w (Ret (.bool true) w) := hp ▸ CO
  have HP := hid hp
  clear CO hp
  go_enter Tryz.func24, Tryz.ntmps24
  go_wp2_with fail
  refine CO2.mono ?_
  rintro e w2 ⟨rfl, hb2⟩
  go_wp2_with fail
  go_loopw [5] (fun i wr => ∃ k : Nat, k ≤ l.length ∧ i = .int .i64 k ∧ Below w.heap.size w wr ∧ Hid (∀ j a, j < k → l[j]? = some a → smpOk a = true)) (fun i _ => l.length - (intOf i).toNat)
  case atStart => exact ⟨0, Nat.zero_le _, rfl, hb2, hid (fun j e h => by omega)⟩
  case round =>
    clear CO2 hb2
    obtain ⟨k, hk, rfl, hb, HA⟩ := hrel
    by_cases hlt : k < l.length
    · obtain ⟨hao', hbw⟩ := hao (by omega)
      subst hao'
      obtain ⟨s, he⟩ : ∃ s, l[k]? = some s := ⟨_, List.getElem?_eq_getElem hlt⟩
      obtain ⟨b2, off2, cap2, sa, sc, hsl, _, _, c0, c1, hA⟩ := (HSM.out.below hb).get he
      simp only [Value.slice.injEq, Option.some.injEq, Addr.mk.injEq] at hsl
      obtain ⟨⟨rfl, rfl, _⟩, _, rfl⟩ := hsl
      have CS := l12Sample_any b (off + k * 2) s sa sc wr c0 c1 hA (okl.2 _ _ he) (goodSmp he gl)
      have hli : (k : Int) < (l.length : Int) := by omega
      have HE := hid he
      clear he hao hA
      cases hs : smpOk s
      · rw [hs] at CS
        have HZ : Hid (trCode x l = 1) := hid (by
          have : l.all smpOk = false := List.all_eq_false.2 ⟨s, List.mem_of_getElem? HE.out, by rw [hs]; exact Bool.false_ne_true⟩
          simp [trCode, this])
        go_wp2_with fail
        refine CS.mono ?_
        rintro e w3 ⟨rfl, hb3⟩
        go_wp2_with fail
        go_ret
        exact ret_int HZ.out.symm (hb.trans (hb3.mono hb.size))
      · rw [hs] at CS
        go_wp2_with fail
        refine CS.mono ?_
        rintro e w3 ⟨rfl, hb3⟩
        go_wp2_with fail
        go_roundw
        case rel =>
          refine ⟨k + 1, by omega, by go_num, hb.trans (hb3.mono hb.size), hid (fun j a hj ha => ?_)⟩
          by_cases ej : j = k
          · subst ej; rw [HE.out] at ha; obtain rfl := Option.some.inj ha; exact hs
          · exact HA.out j a (by omega) ha
        case measure => simp [intOf]; omega
    · have hls : l.all smpOk = true := by
        rw [List.all_eq_true]
        intro s hs
        obtain ⟨j, hj⟩ := List.mem_iff_getElem?.1 hs
        exact HA.out j s (by have := (List.getElem?_eq_some_iff.1 hj).1; omega) hj
      have HS := hid hls
      have hli : ¬ ((k : Int) < (l.length : Int)) := by omega
      obtain ⟨w0, hw0⟩ : ∃ w0, w0 = wr := ⟨_, rfl⟩
      clear hls
      go_wp2_with fail
      go_loopw [6] (fun i wq => ∃ k : Nat, k ≤ l.length ∧ i = .int .i64 k ∧ Below w.heap.size w wq ∧ Hid (∀ j a, j < k → l[j]? = some a → known x a = true)) (fun i _ => l.length - (intOf i).toNat)
      case atStart => exact ⟨0, Nat.zero_le _, rfl, hb, hid (fun j e h => by omega)⟩
      case round =>
        clear hb hw0 HA hlt hli
        obtain ⟨k, hk, rfl, hb, HA⟩ := hrel
        by_cases hlt : k < l.length
        · obtain ⟨hao', hbw⟩ := hao (by omega)
          subst hao'
          obtain ⟨s, he⟩ : ∃ s, l[k]? = some s := ⟨_, List.getElem?_eq_getElem hlt⟩
          obtain ⟨b2, off2, cap2, sa, sc, hsl, _, _, c0, c1, hA⟩ := (HSM.out.below hb).get he
          simp only [Value.slice.injEq, Option.some.injEq, Addr.mk.injEq] at hsl
          obtain ⟨⟨rfl, rfl, _⟩, _, rfl⟩ := hsl
          have CF := l12Find_any p u1 x.1 s.1 wr (cell_later hb m0) (h1.below hb) hxl
          have hli : (k : Int) < (l.length : Int) := by omega
          have HE := hid he
          have hpb := pos_bd (L := x.1) (s := s.1) hxl
          have hpg := pos_ge (labIx x.1 s.1)
          clear he hao hA
          cases hs : known x s
          · have HZ : Hid (trCode x l = 3) := hid (by
              have : l.all (known x) = false := List.all_eq_false.2 ⟨s, List.mem_of_getElem? HE.out, by rw [hs]; exact Bool.false_ne_true⟩
              unfold trCode; rw [HP.out, HS.out, this]; rfl)
            rw [show (labIx x.1 s.1).isSome = false from hs, decide_eq_false_iff_not] at hpg
            generalize posOf (labIx x.1 s.1) = n at *
            have hn : decide (n < 0) = true := by simp; omega
            go_wp2_with fail
            refine CF.mono ?_
            rintro e w3 ⟨rfl, rfl⟩
            go_wp2_with fail
            go_ret
            exact ret_int HZ.out.symm hb
          · rw [show (labIx x.1 s.1).isSome = true from hs, decide_eq_true_eq] at hpg
            generalize posOf (labIx x.1 s.1) = n at *
            have hn : decide (n < 0) = false := by simp; omega
            go_wp2_with fail
            refine CF.mono ?_
            rintro e w3 ⟨rfl, rfl⟩
            go_wp2_with fail
            go_roundw
            case rel =>
              refine ⟨k + 1, by omega, by go_num, hb, hid (fun j a hj ha => ?_)⟩
              by_cases ej : j = k
              · subst ej; rw [HE.out] at ha; obtain rfl := Option.some.inj ha; exact hs
              · exact HA.out j a (by omega) ha
            case measure => simp [intOf]; omega
        · have hlk : l.all (known x) = true := by
            rw [List.all_eq_true]
            intro s hs
            obtain ⟨j, hj⟩ := List.mem_iff_getElem?.1 hs
            exact HA.out j s (by have := (List.getElem?_eq_some_iff.1 hj).1; omega) hj
          have HZ : Hid (trCode x l = if 40 < l.length then 2 else 0) := hid (by unfold trCode; rw [HP.out, HS.out, hlk]; rfl)
          have hli : ¬ ((k : Int) < (l.length : Int)) := by omega
          clear hlk
          by_cases h40 : 40 < l.length
          · have hd : decide ((40 : Int) < (l.length : Int)) = true := by simp; omega
            have HZ2 := hid (HZ.out.trans (if_pos h40))
            clear h40
            go_wp2_with fail
            go_ret
            exact ret_int HZ2.out.symm hb
          · have hd : decide ((40 : Int) < (l.length : Int)) = false := by simp; omega
            have HZ2 := hid (HZ.out.trans (if_neg h40))
            clear h40
            go_wp2_with fail
            go_ret
            exact ret_int HZ2.out.symm hb
end Go.Proofs.YtdifhnckhocmdabGreat
