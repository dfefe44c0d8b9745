/- Costs by how often words occur: the reference's call. -/
import Derived.Test.YthooeaappnkjgaaCcSpec
import Derived.Test.YthooeaappnkjgaaAppO
import Derived.Deep.Cut
namespace Go.Proofs.Ythooeaappnkjgaa
open Go.RowKit Go.Sort
attribute [local go_sem ↓] Go.wp_at_zero Go.wp_at_succ

/-- the lexicon so far: its box holds a slice that the call owns -/
def FinC (q : Nat) (w0 : World) (z : XLexicon) (w : World) : Prop := ∃ u, Box w q #[u] 44 ∧ Own eEntry 75 (q + 1) w u z ∧ Below q w0 w
theorem FinC.below {q : Nat} {w0 w w' : World} {z : XLexicon} (h : FinC q w0 z w) (hb : Below w.heap.size w w') : FinC q w0 z w' := by
  obtain ⟨u, h1, h2, h3⟩ := h
  exact ⟨u, h1.later hb, h2.below hb, h3.trans (hb.mono (Nat.le_of_lt h1.lt))⟩
theorem grownBoxC {w w' : World} {q : Nat} {cs : Array Value} {T : TypeId} {r : Option Nat} (h : Box w q cs T) (hg : w.grownBy w' r) (hne : r ≠ some q) : Box w' q cs T := (hg.block q h.lt (fun e => hne e.symm)).trans h
def cntE (ws : List ByteArray) (sc : Int) (a : ByteArray) : DEntry := ⟨a, cntCost ws sc a⟩
theorem timesM {ws : List ByteArray} {k : Nat} {a : ByteArray} (h : ws[k]? = some a) : maxN (((ws.take (k + 1))).map (timesS ws)) = max (maxN ((ws.take k).map (timesS ws))) (timesS ws a) := by
  rw [List.take_add_one, h]
  simp only [Option.toList_some, List.map_append, List.map_cons, List.map_nil]
  exact maxN_snoc _ _
theorem maxN_le_len (ws : List ByteArray) (k : Nat) : maxN ((ws.take k).map (timesS ws)) ≤ ws.length := maxN_le fun x hx => by
  obtain ⟨a, _, rfl⟩ := List.mem_map.1 hx
  exact times_le ws a
theorem word_good {a : ByteArray} (h : isWordB a = true) : a.size ≤ 10 := by
  unfold isWordB at h
  rw [Bool.and_eq_true] at h
  have := (inB_true.1 h.2).2
  omega
set_option maxHeartbeats 8000000 in
set_option maxRecDepth 100000 in
theorem specCountCosts_any (v : Value) (ws : XStringS) (sc : Int) (w : World) {lo hi : Nat} (h : rStringS.at_ lo hi w v ws) (ok : okStringS ws) (g : goodStringS ws) :
    Calls Try.prog 15 #[v, .int .i64 sc] w (RetNew rLexicon (cntLx ws sc) #[.int .i64 (cntC ws sc)] w) := by
  have hA := rStringS_arr h
  have ok' : ws.length ≤ 1048576 := ok
  obtain ⟨b, off, ao, cap, rfl, hnc, hcm, hao, hc⟩ := hA
  unfold maxLen at hcm
  have hA : Arr eStr w (.slice ao ws.length cap) ws := rStringS_arr h
  obtain ⟨W, hW⟩ : ∃ u, u = (w.alloc (.cells #[.slice none 0 0] 44)) := ⟨_, rfl⟩
  have hbW : Below w.heap.size w W := by rw [hW]; exact belowA1 _ _
  have q1 : Box W (w.heap.size) #[.slice none 0 0] 44 := by
    have hq := Box.new w #[.slice none 0 0] 44
    rw [hW]
    exact hq
  obtain ⟨p1, hp1⟩ : ∃ p, p = w.heap.size := ⟨_, rfl⟩
  rw [← hp1] at q1
  have hge1 : w.heap.size ≤ p1 := by omega
  have hlW : w.heap.size ≤ W.heap.size := hbW.size
  have hlp1 : p1 < W.heap.size := q1.lt
  have HP1 := hid hp1
  have HW := hid hW
  clear hW hp1
  have hAW := hA.below hbW
  have finish : ∀ (w' : World) (u : Value) (z : XLexicon) (c : Int), Hid (cntLx ws sc = z ∧ cntC ws sc = c) → Own eEntry 75 w.heap.size w' u z → Below w.heap.size w w' → RetNew rLexicon (cntLx ws sc) #[.int .i64 (cntC ws sc)] w (.returned (.tuple #[.agg #[u], .int .i64 c])) w' := by
    intro w' u z c hz ho hb
    rw [hz.out.1, hz.out.2]
    exact ⟨_, rfl, rLxC_new ho (Nat.le_refl _), hb⟩
  have HI : ∀ w', Calls Try.prog 41 #[.int .i64 sc, .int .i64 0, .int .i64 1000000] w' fun en w'' => en = .returned (.bool (inB sc 0 1000000)) ∧ w' = w'' := fun w' => inInC sc w'
  go_enter Try.func15, Try.ntmps15
  go_upto_region 1 with fail
  rw [← HP1.out, ← HW.out]
  go_wp2_with fail
  obtain ⟨pd, hpd⟩ : ∃ p, p = W.heap.size := ⟨_, rfl⟩
  obtain ⟨w1, hw1⟩ : ∃ u, u = W.alloc (.cells #[] 9) := ⟨_, rfl⟩
  rw [← hw1, ← hpd]
  have hb1 : Below W.heap.size W w1 := by rw [hw1]; exact below_alloc _ _
  have hoD : Own eStr 9 pd w1 (.slice (some ⟨pd, 0, none⟩) 0 0) [] := by rw [hw1, hpd]; exact Own.empty _ _ (Nat.le_refl _)
  have hp1d : p1 < pd := by omega
  have hpd1 : pd ≤ w1.heap.size := by rw [hw1, hpd]; simp
  have hbE : Below w.heap.size w w1 := hbW.trans (hb1.mono hlW)
  have bx := q1.later hb1
  clear hw1 hpd q1
  go_loopw [8] (fun i wr => ∃ k : Nat, k ≤ ws.length ∧ i = .int .i64 k ∧ w1 = wr ∧ ∀ j a, j < k → ws[j]? = some a → isWordB a = true) (fun i _ => ws.length - (intOf i).toNat)
  case atStart => exact ⟨0, Nat.zero_le _, rfl, rfl, fun j a h => by omega⟩
  case round =>
    obtain ⟨k, hk, rfl, rfl, hall⟩ := hrel
    have HA := hid hall
    clear hall
    by_cases hlt : k < ws.length
    · have hli : (k : Int) < (ws.length : Int) := by omega
      obtain ⟨hao', hbw⟩ := hao (by omega)
      subst hao'
      obtain ⟨a, ha⟩ : ∃ a, ws[k]? = some a := ⟨_, List.getElem?_eq_getElem hlt⟩
      have c0 := eStr_cell (hc.below hbE hbw) ha
      have hga := g a (List.mem_of_getElem? ha)
      unfold maxLen at hga
      have HE := hid ha
      clear ha hao
      cases hw : isWordB a
      · have HZ : Hid (cntLx ws sc = [] ∧ cntC ws sc = 7) := by
          have hf : ws.all isWordB = false := by rw [List.all_eq_false]; exact ⟨a, List.mem_of_getElem? HE.out, by simp [hw]⟩
          show _ ∧ _
          simp [cntLx, cntC, cntOk, hf]
        have HW := specWordC hga hw
        have b0 := bx.cell (j := 0) rfl
        have bf := bx.free
        go_wp2_with (go_at_call 40; refine (HW _).mono ?_; rintro en w' ⟨rfl, rfl⟩)
        refine bodyPost_ret (v := .tuple #[.agg #[.slice none 0 0], .int .i64 7]) (by simp [results, Try.results15, go_sem, b0]) rfl (finish _ _ _ _ HZ (Own.nil _ _ _) ?_)
        exact hbE.setCell hge1 _
      · have HW := specWordC hga hw
        go_wp2_with (go_at_call 40; refine (HW _).mono ?_; rintro en w' ⟨rfl, rfl⟩)
        go_roundw
        case rel =>
          refine ⟨k + 1, by omega, by go_num, by trivial, fun j a' hj ha' => ?_⟩
          by_cases ej : j = k
          · subst ej; rw [HE.out] at ha'; obtain rfl := Option.some.inj ha'; exact hw
          · exact HA.out j a' (by omega) ha'
        case measure => simp [intOf]; omega
    · obtain rfl : k = ws.length := by omega
      have hli : ¬ ((ws.length : Int) < (ws.length : Int)) := by omega
      have HALL : Hid (ws.all isWordB = true) := hid (List.all_eq_true.2 fun a ha => by
        obtain ⟨j, hj⟩ := List.mem_iff_getElem?.1 ha
        exact HA.out j a (List.getElem?_eq_some_iff.1 hj).1 hj)
      have HWD := hid (show ∀ a ∈ ws, a.size ≤ 10 from fun a ha => word_good (List.all_eq_true.1 HALL.out a ha))
      cases hin : inB sc 0 1000000
      · have HZ : Hid (cntLx ws sc = [] ∧ cntC ws sc = 2) := by show _ ∧ _; simp [cntLx, cntC, cntOk, HALL.out, hin]
        rw [hin] at HI
        have b0 := bx.cell (j := 0) rfl
        have bf := bx.free
        go_wp2_with (go_at_call 41; refine (HI _).mono ?_; rintro en w' ⟨rfl, rfl⟩)
        refine bodyPost_ret (v := .tuple #[.agg #[.slice none 0 0], .int .i64 2]) (by simp [results, Try.results15, go_sem, b0]) rfl (finish _ _ _ _ HZ (Own.nil _ _ _) ?_)
        exact hbE.setCell hge1 _
      rw [hin] at HI
      obtain ⟨hs0, hs1⟩ := inB_true.1 hin
      have HIN := hid hin
      clear hin
      go_wp2_with (go_at_call 41; refine (HI _).mono ?_; rintro en w' ⟨rfl, rfl⟩)
      clear HI hli
      go_loopw [6, 7, 9] (fun u m i wr => ∃ k : Nat, k ≤ ws.length ∧ i = .int .i64 k ∧ m = .int .i64 (maxN ((ws.take k).map (timesS ws))) ∧ Own eStr 9 pd wr u (difS (ws.take k)) ∧ Below pd w1 wr) (fun _ _ i _ => ws.length - (intOf i).toNat)
      case atStart => exact ⟨0, Nat.zero_le _, rfl, rfl, hoD, Below.refl _ _⟩
      case round =>
        clear hoD
        obtain ⟨k, hk, rfl, rfl, hoD, hbl⟩ := hrel
        have hpdr : pd ≤ wr.heap.size := by
          have := hbl.size
          omega
        have hbr := hbE.trans (hbl.mono (by omega))
        have hAr := hA.below hbr
        have hM := maxN_le_len ws k
        obtain ⟨M, hMe⟩ : ∃ M, M = maxN ((ws.take k).map (timesS ws)) := ⟨_, rfl⟩
        by_cases hlt : k < ws.length
        · have hli : (k : Int) < (ws.length : Int) := by omega
          obtain ⟨hao', hbw⟩ := hao (by omega)
          subst hao'
          obtain ⟨a, ha⟩ : ∃ a, ws[k]? = some a := ⟨_, List.getElem?_eq_getElem hlt⟩
          have c0 := eStr_cell (hc.below hbr hbw) ha
          have hT := timesM ha
          have hD := difS_take ha
          have hdl := difS_len (ws.take k)
          rw [List.length_take] at hdl
          have htl := times_le ws a
          obtain ⟨T, hTe⟩ : ∃ T, T = timesS ws a := ⟨_, rfl⟩
          rw [← hMe, ← hTe] at hT
          have CI := l11Insert_any _ (difS (ws.take k)) a pd wr hoD (by omega) (difS_strict _) hpdr
          rw [← hD] at CI
          have CT := fun w' (hb : Below wr.heap.size wr w') => l16Times_any _ ws a w' (hAr.below hb) ok'
          rw [← hTe] at CT htl
          rw [← hMe] at hM ⊢
          have CM := fun w' => l00Max_any (M : Int) (T : Int) w'
          have hmx : max (M : Int) (T : Int) = ((max M T : Nat) : Int) := by omega
          have HT := hid hT
          have HMX := hid hmx
          clear ha hao hT hD hMe hTe hmx hoD
          go_wp2_with (go_at_call 42; refine CI.mono ?_; rintro en w2 ⟨u2, rfl, ho2, hb2⟩; have c2 := cell_later hb2 c0)
          refine (CT w2 hb2).mono ?_
          rintro en w3 ⟨rfl, rfl⟩
          go_wp2_with (go_at_call 43; refine (CM _).mono ?_; rintro en w3 ⟨rfl, rfl⟩)
          rw [HMX.out]
          go_roundw
          case rel => exact ⟨k + 1, by omega, by go_num, by rw [HT.out], ho2, hbl.trans (hb2.mono hpdr)⟩
          case measure => simp [intOf]; omega
        · obtain rfl : k = ws.length := by omega
          have hli : ¬ ((ws.length : Int) < (ws.length : Int)) := by omega
          rw [List.take_length] at *
          obtain ⟨da, dc, hud⟩ := hoD.isSlice
          subst hud
          have hdl := difS_len ws
          have hMm : M = mostS ws := hMe
          rw [← hMe] at hM ⊢
          have bxr := bx.below hbl hp1d
          have b0 := bxr.cell (j := 0) rfl
          have bf := bxr.free
          by_cases h60 : (difS ws).length ≤ 60
          case neg =>
            have HZ : Hid (cntLx ws sc = [] ∧ cntC ws sc = 5) := by show _ ∧ _; simp [cntLx, cntC, cntOk, HALL.out, HIN.out, h60]
            have h60i : (60 : Int) < ((difS ws).length : Int) := by omega
            clear hMe hMm
            go_wp2_with fail
            refine bodyPost_ret (v := .tuple #[.agg #[.slice none 0 0], .int .i64 5]) (by simp [results, Try.results15, go_sem, b0]) rfl (finish _ _ _ _ HZ (Own.nil _ _ _) ?_)
            exact hbr.setCell hge1 _
          have HZ : Hid (cntLx ws sc = (difS ws).map (cntE ws sc) ∧ cntC ws sc = 0) := by
            show _ ∧ _
            have : cntOk ws sc = true := by unfold cntOk; rw [HALL.out, HIN.out]; simpa using h60
            refine ⟨by unfold cntLx; rw [if_pos this]; rfl, by simp [cntC, HALL.out, HIN.out, h60]⟩
          have h60i : ¬ ((60 : Int) < ((difS ws).length : Int)) := by omega
          obtain ⟨D, hDe⟩ : ∃ D, D = difS ws := ⟨_, rfl⟩
          have HDE := hid hDe
          rw [← hDe] at hoD hdl h60 h60i HZ ⊢
          have hDm : ∀ a ∈ D, a ∈ ws := fun a ha => (difS_mem ws a).1 (by rw [← hDe]; exact ha)
          have HDM := hid hDm
          have HMM := hid hMm
          clear hDe hDm hMe hMm
          obtain ⟨q, hq⟩ : ∃ q, q = wr.heap.size := ⟨_, rfl⟩
          obtain ⟨w4, hw4⟩ : ∃ w4, w4 = wr.alloc (.cells #[.slice none 0 0] 44) := ⟨_, rfl⟩
          have hx4 : FinC q w4 [] w4 := by rw [hw4, hq]; exact ⟨_, Box.new _ _ _, Own.nil _ _ _, Below.refl _ _⟩
          have hb4 : Below wr.heap.size wr w4 := by rw [hw4]; exact below_alloc _ _
          have hbx4 := bxr.later hb4
          have hDA := hoD.arr.below hb4
          have hbr4 := hbr.trans (hb4.mono (by have := hbr.size; omega))
          have hpq : p1 < q := by have := bxr.lt; omega
          have hrq : wr.heap.size ≤ q := by omega
          have hwq : w.heap.size ≤ q := by have := hbr.size; omega
          have hq4 : q < w4.heap.size := by rw [hw4, hq]; simp
          obtain ⟨db, doff, dao, dcap, hdv, hdnc, hdcm, hdao, hdc⟩ := hDA
          simp only [Value.slice.injEq] at hdv
          obtain ⟨rfl, _, rfl⟩ := hdv
          have hDA := hoD.arr.below hb4
          have hdbq : 0 < D.length → db < q := fun h0 => by
            obtain ⟨b', off', ao', cap', hv', _, _, hao2, _⟩ := hoD.arr
            simp only [Value.slice.injEq] at hv'
            obtain ⟨rfl, _, rfl⟩ := hv'
            have h1 := (hao2 h0)
            have h2 := (hdao h0)
            rw [h1.1] at h2
            have h3 := h2.1
            cases h3
            rw [hq]; exact h1.2
          have hwsq : ∀ (u : World), Below q w4 u → Arr eStr u (.slice ao ws.length cap) ws := fun u hb => hA.below (hbr4.trans (hb.mono hwq))
          have hAd : ∀ (u : World), Below q w4 u → ∀ (k : Nat) (a : ByteArray), D[k]? = some a → 0 < D.length → u.cell? ⟨db, doff + k, none⟩ = some (.string a) := fun u hb k a ha h0 => below_cell hb (hdbq h0) (eStr_cell hdc ha)
          have HADD := hid hAd
          have HWSQ := hid hwsq
          have HW4 := hid hw4
          have HQ := hid hq
          clear hw4 hq hoD hAd hwsq b0 bf bx bxr
          go_wp2_with fail
          rw [← HQ.out, ← HW4.out]
          go_loopw [11] (fun i wr => ∃ k : Nat, k ≤ D.length ∧ i = .int .i64 k ∧ FinC q w4 ((D.take k).map (cntE ws sc)) wr) (fun i _ => D.length - (intOf i).toNat)
          case atStart => exact ⟨0, Nat.zero_le _, rfl, hx4⟩
          case round =>
            clear hx4
            obtain ⟨k, hk, rfl, u, hbx, hoE, hbl⟩ := hrel
            have hlk : ((D.take k).map (cntE ws sc)).length = k := by rw [List.length_map, List.length_take]; omega
            obtain ⟨oa, oc, hu⟩ := hoE.isSlice
            rw [hlk] at hu
            subst hu
            have a1 := hbx.cell (j := 0) rfl
            have hbr5 := hbr4.trans (hbl.mono hwq)
            by_cases hlt : k < D.length
            · have hli : (k : Int) < (D.length : Int) := by omega
              obtain ⟨hdao', hdbw⟩ := hdao (by omega)
              subst hdao'
              obtain ⟨a, ha⟩ : ∃ a, D[k]? = some a := ⟨_, List.getElem?_eq_getElem hlt⟩
              have c0 := HADD.out wr hbl k a ha (by omega)
              have haw := HDM.out a (List.mem_of_getElem? ha)
              have htl := most_ge haw
              have htp := times_pos haw
              have HTK := hid (show ((D.take k).map (cntE ws sc)) ++ [cntE ws sc a] = (D.take (k + 1)).map (cntE ws sc) by rw [List.take_add_one, ha]; simp)
              have CT := fun w' (hb : Below wr.heap.size wr w') => l16Times_any (.slice ao ws.length cap) ws a w' ((HWSQ.out wr hbl).below hb) ok'
              obtain ⟨T, hTe⟩ : ∃ T, T = timesS ws a := ⟨_, rfl⟩
              rw [← hTe] at CT htl htp
              rw [← HMM.out] at htl
              obtain ⟨d, hd⟩ : ∃ d : Int, d = (M : Int) - (T : Int) := ⟨_, rfl⟩
              have hd0 : 0 ≤ d ∧ d ≤ 1048576 := by omega
              have hP := mul_bd hs0 hs1 hd0.1 hd0.2
              obtain ⟨P, hPe⟩ : ∃ P, P = sc * d := ⟨_, rfl⟩
              rw [← hPe] at hP
              obtain ⟨C, hCe⟩ : ∃ C, C = P.tdiv (M : Int) := ⟨_, rfl⟩
              have hC0 : 0 ≤ C ∧ C ≤ P := by
                rw [hCe]
                have hMp : (0 : Int) < (M : Int) := by omega
                refine ⟨Int.tdiv_nonneg hP.1 (by omega), ?_⟩
                rw [Int.tdiv_eq_ediv_of_nonneg hP.1]
                exact Int.ediv_le_self _ hP.1
              have HCE : Hid (cntE ws sc a = ⟨a, C⟩) := hid (by unfold cntE cntCost; rw [← HMM.out, ← hTe, ← hd, ← hPe, ← hCe])
              have w14 : IntKind.i64.wrap ((M : Int) - (T : Int)) = d := by rw [← hd]; exact IntWalk.i64_in _ (by omega)
              have w15 : IntKind.i64.wrap (sc * d) = P := by rw [← hPe]; exact IntWalk.i64_in _ (by omega)
              have w17 : IntKind.i64.wrap (P.tdiv (M : Int)) = C := by rw [← hCe]; exact IntWalk.i64_in _ (by omega)
              have v14 : wrap64 ((M : Int) - (T : Int)) = d := by rw [← hd]; unfold wrap64; omega
              have v15 : wrap64 (sc * d) = P := by rw [← hPe]; unfold wrap64; omega
              have v17 : wrap64 (P.tdiv (M : Int)) = C := by rw [← hCe]; unfold wrap64; omega
              have hMn : ¬ (M = 0) := by omega
              have hMz : ¬ ((M : Int) = 0) := by omega
              have hMb : ((M : Int) == 0) = false := by rw [beq_eq_false_iff_ne]; exact hMz
              have HO := hid hoE
              have HBX := hid hbx
              have HBL := hid hbl
              have hlt' := hbx.lt
              clear ha hdao hTe hd hPe hCe hoE hbx hbl haw
              go_wp2_with fail
              refine wp_region_stg 20 22 (fun c w' => match c with | 0 => Below wr.heap.size wr w' | 1 => (Box w' q #[.slice oa k oc] 44 ∧ Below q wr w') | _ => FinC q w4 ((D.take (k + 1)).map (cntE ws sc)) w') (fun c i v w' => match i with
                    | 0 => v = .pointer (some ⟨q, 0, none⟩)
                    | 1 => v = .slice oa k oc
                    | 2 => v = .slice (some ⟨db, doff, none⟩) D.length dc
                    | 3 => v = .int .i64 k
                    | 4 => v = .pointer (some ⟨db, doff + k, none⟩)
                    | 5 => v = .string a
                    | 6 => v = .int .i64 sc
                    | 7 => v = .int .i64 M
                    | 8 => v = .slice ao ws.length cap
                    | 9 => v = .slice (some ⟨db, doff, none⟩) D.length dc
                    | 10 => v = .int .i64 k
                    | 11 => v = .pointer (some ⟨db, doff + k, none⟩)
                    | 12 => v = .string a
                    | 13 => v = .int .i64 T
                    | 14 => v = .int .i64 d
                    | 15 => v = .int .i64 P
                    | 16 => v = .int .i64 M
                    | 17 => v = .int .i64 C
                    | 18 => v = .agg #[.string a, .int .i64 C]
                    | 19 => (match c with | 0 => (Arr eEntry w' v [(⟨a, C⟩ : DEntry)]) | 1 => True | _ => True)
                    | 20 => (match c with | 0 => True | 1 => (Own eEntry 75 (q + 1) w' v ((D.take (k + 1)).map (cntE ws sc))) | _ => True)
                    | 21 => v = .pointer (some ⟨q, 0, none⟩)
                    | 22 => (match c with | 0 => True | 1 => True | _ => True)
                    | _ => True) (by kernel_rfl) (by kernel_rfl) (by kernel_rfl) (by kernel_rfl) (by kernel_rfl) ?_ ?_ ?_ ?_ ?_ ?_ (by decide) ?_
              · exact (Below.refl _ wr).drew
              · intro c w w' h hb
                match c, h with
                | 0, h => exact Below.trans (B := wr.heap.size) h (hb.mono (Below.size h))
                | 1, h => exact ⟨h.1.later hb, h.2.trans (hb.mono (Nat.le_of_lt h.1.lt))⟩
                | (k + 2), h => exact (FinC.below h hb)
              · intro c i v w w' h hb
                match i, h with
                | 0, h => exact h
                | 1, h => exact h
                | 2, h => exact h
                | 3, h => exact h
                | 4, h => exact h
                | 5, h => exact h
                | 6, h => exact h
                | 7, h => exact h
                | 8, h => exact h
                | 9, h => exact h
                | 10, h => exact h
                | 11, h => exact h
                | 12, h => exact h
                | 13, h => exact h
                | 14, h => exact h
                | 15, h => exact h
                | 16, h => exact h
                | 17, h => exact h
                | 18, h => exact h
                | 19, h =>
                  match c, h with
                  | 0, h => exact h.below hb
                  | 1, h => exact trivial
                  | (k + 2), h => exact trivial
                | 20, h =>
                  match c, h with
                  | 0, h => exact trivial
                  | 1, h => exact h.below hb
                  | (k + 2), h => exact trivial
                | 21, h => exact h
                | 22, h =>
                  match c, h with
                  | 0, h => exact trivial
                  | 1, h => exact trivial
                  | (k + 2), h => exact trivial
                | (k + 23), h => exact h
              · refine ⟨?_, ?_, ?_, ?_, ?_, ?_, ?_, ?_, ?_, ?_, ?_, ?_, ?_, ?_, ?_, ?_, ?_, ?_, ?_, ?_, ?_, ?_, ?_, trivial⟩
                · refine .inr (.inr ⟨fun _ => ?_, can_no (by kernel_rfl), can_no (by kernel_rfl)⟩)
                  · intro ρ w' hbw ht hcs hfn hgl hdep G hG
                    replace hbw : Below wr.heap.size wr w' := hbw
                    refine ⟨fun _ => ?_, fun h => by cases h⟩
                    have s10 : ρ (.tmp 10) = .pointer (some ⟨q, 0, none⟩) := ht 10 rfl
                    clear ht hdep hgl
                    go_simp
                    exact hG _ _ (Below.refl _ _) rfl
                · refine .inr (.inr ⟨fun _ => ?_, can_no (by kernel_rfl), can_no (by kernel_rfl)⟩)
                  · intro ρ w' hbw ht hcs hfn hgl hdep G hG
                    replace hbw : Below wr.heap.size wr w' := hbw
                    refine ⟨fun _ => ?_, fun h => by cases h⟩
                    have s61 : ρ (.tmp 61) = .pointer (some ⟨q, 0, none⟩) := hdep ⟨0, .data⟩ (by simp) rfl 61 rfl
                    have a1 := cell_later hbw a1
                    have c0 := cell_later hbw c0
                    clear ht hdep hgl
                    go_simp
                    exact hG _ _ (Below.refl _ _) rfl
                · refine .inr (.inr ⟨fun _ => ?_, can_no (by kernel_rfl), can_no (by kernel_rfl)⟩)
                  · intro ρ w' hbw ht hcs hfn hgl hdep G hG
                    replace hbw : Below wr.heap.size wr w' := hbw
                    refine ⟨fun _ => ?_, fun h => by cases h⟩
                    have s6 : ρ (.tmp 6) = .slice (some ⟨db, doff, none⟩) D.length dc := ht 6 rfl
                    clear ht hdep hgl
                    go_simp
                    exact hG _ _ (Below.refl _ _) rfl
                · refine .inr (.inr ⟨fun _ => ?_, can_no (by kernel_rfl), can_no (by kernel_rfl)⟩)
                  · intro ρ w' hbw ht hcs hfn hgl hdep G hG
                    replace hbw : Below wr.heap.size wr w' := hbw
                    refine ⟨fun _ => ?_, fun h => by cases h⟩
                    have s11 : ρ (.tmp 11) = .int .i64 k := ht 11 rfl
                    clear ht hdep hgl
                    go_simp
                    exact hG _ _ (Below.refl _ _) rfl
                · refine .inr (.inr ⟨fun _ => ?_, can_no (by kernel_rfl), can_no (by kernel_rfl)⟩)
                  · intro ρ w' hbw ht hcs hfn hgl hdep G hG
                    replace hbw : Below wr.heap.size wr w' := hbw
                    refine ⟨fun _ => ?_, fun h => by cases h⟩
                    have s63 : ρ (.tmp 63) = .slice (some ⟨db, doff, none⟩) D.length dc := hdep ⟨2, .data⟩ (by simp) rfl 63 rfl
                    have s64 : ρ (.tmp 64) = .int .i64 k := hdep ⟨3, .data⟩ (by simp) rfl 64 rfl
                    clear ht hdep hgl
                    go_simp
                    exact hG _ _ (Below.refl _ _) rfl
                · refine .inr (.inr ⟨fun _ => ?_, can_no (by kernel_rfl), can_no (by kernel_rfl)⟩)
                  · intro ρ w' hbw ht hcs hfn hgl hdep G hG
                    replace hbw : Below wr.heap.size wr w' := hbw
                    refine ⟨fun _ => ?_, fun h => by cases h⟩
                    have s65 : ρ (.tmp 65) = .pointer (some ⟨db, doff + k, none⟩) := hdep ⟨4, .data⟩ (by simp) rfl 65 rfl
                    have a1 := cell_later hbw a1
                    have c0 := cell_later hbw c0
                    clear ht hdep hgl
                    go_simp
                    exact hG _ _ (Below.refl _ _) rfl
                · refine .inr (.inr ⟨fun _ => ?_, can_no (by kernel_rfl), can_no (by kernel_rfl)⟩)
                  · intro ρ w' hbw ht hcs hfn hgl hdep G hG
                    replace hbw : Below wr.heap.size wr w' := hbw
                    refine ⟨fun _ => ?_, fun h => by cases h⟩
                    have s1 : ρ (.tmp 1) = .int .i64 sc := ht 1 rfl
                    clear ht hdep hgl
                    go_simp
                    exact hG _ _ (Below.refl _ _) rfl
                · refine .inr (.inr ⟨fun _ => ?_, can_no (by kernel_rfl), can_no (by kernel_rfl)⟩)
                  · intro ρ w' hbw ht hcs hfn hgl hdep G hG
                    replace hbw : Below wr.heap.size wr w' := hbw
                    refine ⟨fun _ => ?_, fun h => by cases h⟩
                    have s7 : ρ (.tmp 7) = .int .i64 M := ht 7 rfl
                    clear ht hdep hgl
                    go_simp
                    exact hG _ _ (Below.refl _ _) rfl
                · refine .inr (.inr ⟨fun _ => ?_, can_no (by kernel_rfl), can_no (by kernel_rfl)⟩)
                  · intro ρ w' hbw ht hcs hfn hgl hdep G hG
                    replace hbw : Below wr.heap.size wr w' := hbw
                    refine ⟨fun _ => ?_, fun h => by cases h⟩
                    have s0 : ρ (.tmp 0) = .slice ao ws.length cap := ht 0 rfl
                    clear ht hdep hgl
                    go_simp
                    exact hG _ _ (Below.refl _ _) rfl
                · refine .inr (.inr ⟨fun _ => ?_, can_no (by kernel_rfl), can_no (by kernel_rfl)⟩)
                  · intro ρ w' hbw ht hcs hfn hgl hdep G hG
                    replace hbw : Below wr.heap.size wr w' := hbw
                    refine ⟨fun _ => ?_, fun h => by cases h⟩
                    have s6 : ρ (.tmp 6) = .slice (some ⟨db, doff, none⟩) D.length dc := ht 6 rfl
                    clear ht hdep hgl
                    go_simp
                    exact hG _ _ (Below.refl _ _) rfl
                · refine .inr (.inr ⟨fun _ => ?_, can_no (by kernel_rfl), can_no (by kernel_rfl)⟩)
                  · intro ρ w' hbw ht hcs hfn hgl hdep G hG
                    replace hbw : Below wr.heap.size wr w' := hbw
                    refine ⟨fun _ => ?_, fun h => by cases h⟩
                    have s11 : ρ (.tmp 11) = .int .i64 k := ht 11 rfl
                    clear ht hdep hgl
                    go_simp
                    exact hG _ _ (Below.refl _ _) rfl
                · refine .inr (.inr ⟨fun _ => ?_, can_no (by kernel_rfl), can_no (by kernel_rfl)⟩)
                  · intro ρ w' hbw ht hcs hfn hgl hdep G hG
                    replace hbw : Below wr.heap.size wr w' := hbw
                    refine ⟨fun _ => ?_, fun h => by cases h⟩
                    have s70 : ρ (.tmp 70) = .slice (some ⟨db, doff, none⟩) D.length dc := hdep ⟨9, .data⟩ (by simp) rfl 70 rfl
                    have s71 : ρ (.tmp 71) = .int .i64 k := hdep ⟨10, .data⟩ (by simp) rfl 71 rfl
                    clear ht hdep hgl
                    go_simp
                    exact hG _ _ (Below.refl _ _) rfl
                · refine .inr (.inr ⟨fun _ => ?_, can_no (by kernel_rfl), can_no (by kernel_rfl)⟩)
                  · intro ρ w' hbw ht hcs hfn hgl hdep G hG
                    replace hbw : Below wr.heap.size wr w' := hbw
                    refine ⟨fun _ => ?_, fun h => by cases h⟩
                    have s72 : ρ (.tmp 72) = .pointer (some ⟨db, doff + k, none⟩) := hdep ⟨11, .data⟩ (by simp) rfl 72 rfl
                    have a1 := cell_later hbw a1
                    have c0 := cell_later hbw c0
                    clear ht hdep hgl
                    go_simp
                    exact hG _ _ (Below.refl _ _) rfl
                · refine .inr (.inr ⟨fun _ => ?_, can_no (by kernel_rfl), can_no (by kernel_rfl)⟩)
                  · intro ρ w' hbw ht hcs hfn hgl hdep G hG
                    replace hbw : Below wr.heap.size wr w' := hbw
                    refine ⟨fun _ => ?_, fun h => by cases h⟩
                    have s69 : ρ (.tmp 69) = .slice ao ws.length cap := hdep ⟨8, .data⟩ (by simp) rfl 69 rfl
                    have s73 : ρ (.tmp 73) = .string a := hdep ⟨12, .data⟩ (by simp) rfl 73 rfl
                    clear ht hdep hgl
                    go_simp
                    exact (CT w' hbw).mono fun e w'' ⟨he, hw⟩ => ⟨_, he, hG _ _ (hw ▸ Below.refl _ _) rfl⟩
                · refine .inr (.inr ⟨fun _ => ?_, can_no (by kernel_rfl), can_no (by kernel_rfl)⟩)
                  · intro ρ w' hbw ht hcs hfn hgl hdep G hG
                    replace hbw : Below wr.heap.size wr w' := hbw
                    refine ⟨fun _ => ?_, fun h => by cases h⟩
                    have s68 : ρ (.tmp 68) = .int .i64 M := hdep ⟨7, .data⟩ (by simp) rfl 68 rfl
                    have s74 : ρ (.tmp 74) = .int .i64 T := hdep ⟨13, .data⟩ (by simp) rfl 74 rfl
                    clear ht hdep hgl
                    go_simp
                    exact hG _ _ (Below.refl _ _) rfl
                · refine .inr (.inr ⟨fun _ => ?_, can_no (by kernel_rfl), can_no (by kernel_rfl)⟩)
                  · intro ρ w' hbw ht hcs hfn hgl hdep G hG
                    replace hbw : Below wr.heap.size wr w' := hbw
                    refine ⟨fun _ => ?_, fun h => by cases h⟩
                    have s67 : ρ (.tmp 67) = .int .i64 sc := hdep ⟨6, .data⟩ (by simp) rfl 67 rfl
                    have s75 : ρ (.tmp 75) = .int .i64 d := hdep ⟨14, .data⟩ (by simp) rfl 75 rfl
                    clear ht hdep hgl
                    go_simp
                    exact hG _ _ (Below.refl _ _) rfl
                · refine .inr (.inr ⟨fun _ => ?_, can_no (by kernel_rfl), can_no (by kernel_rfl)⟩)
                  · intro ρ w' hbw ht hcs hfn hgl hdep G hG
                    replace hbw : Below wr.heap.size wr w' := hbw
                    refine ⟨fun _ => ?_, fun h => by cases h⟩
                    have s7 : ρ (.tmp 7) = .int .i64 M := ht 7 rfl
                    clear ht hdep hgl
                    go_simp
                    exact hG _ _ (Below.refl _ _) rfl
                · refine .inr (.inr ⟨fun _ => ?_, can_no (by kernel_rfl), can_no (by kernel_rfl)⟩)
                  · intro ρ w' hbw ht hcs hfn hgl hdep G hG
                    replace hbw : Below wr.heap.size wr w' := hbw
                    refine ⟨fun _ => ?_, fun h => by cases h⟩
                    have s76 : ρ (.tmp 76) = .int .i64 P := hdep ⟨15, .data⟩ (by simp) rfl 76 rfl
                    have s77 : ρ (.tmp 77) = .int .i64 M := hdep ⟨16, .data⟩ (by simp) rfl 77 rfl
                    clear ht hdep hgl
                    go_simp
                    exact hG _ _ (Below.refl _ _) rfl
                · refine .inr (.inr ⟨fun _ => ?_, can_no (by kernel_rfl), can_no (by kernel_rfl)⟩)
                  · intro ρ w' hbw ht hcs hfn hgl hdep G hG
                    replace hbw : Below wr.heap.size wr w' := hbw
                    refine ⟨fun _ => ?_, fun h => by cases h⟩
                    have s66 : ρ (.tmp 66) = .string a := hdep ⟨5, .data⟩ (by simp) rfl 66 rfl
                    have s78 : ρ (.tmp 78) = .int .i64 C := hdep ⟨17, .data⟩ (by simp) rfl 78 rfl
                    clear ht hdep hgl
                    go_simp
                    exact hG _ _ (Below.refl _ _) rfl
                · refine .inr (.inr ⟨fun _ => ?_, can_no (by kernel_rfl), can_no (by kernel_rfl)⟩)
                  · intro ρ w' hbw ht hcs hfn hgl hdep G hG
                    replace hbw : Below wr.heap.size wr w' := hbw
                    refine ⟨fun _ => ?_, fun h => by cases h⟩
                    have s79 : ρ (.tmp 79) = .agg #[.string a, .int .i64 C] := hdep ⟨18, .data⟩ (by simp) rfl 79 rfl
                    clear ht hdep hgl
                    go_simp
                    exact hG _ _ (below_alloc _ _) (arr_block1 (E := eEntry) (n := 1) [(⟨a, C⟩ : DEntry)] #[.string a, .int .i64 C] rfl rfl (by decide) (by simp))
                · exact .inl rfl
                · refine .inr (.inr ⟨fun _ => ?_, fun _ => ?_, can_no (by kernel_rfl)⟩)
                  · intro ρ w' hbw ht hcs hfn hgl hdep G hG
                    replace hbw : Below wr.heap.size wr w' := hbw
                    refine ⟨fun _ => ?_, fun h => by cases h⟩
                    have s10 : ρ (.tmp 10) = .pointer (some ⟨q, 0, none⟩) := ht 10 rfl
                    clear ht hdep hgl
                    go_simp
                    exact hG _ _ (Below.refl _ _) rfl
                  · intro ρ w' hbw ht hcs hfn hgl hdep G hG
                    replace hbw : (Box w' q #[.slice oa k oc] 44 ∧ Below q wr w') := hbw
                    refine ⟨fun _ => ?_, fun h => by cases h⟩
                    have s10 : ρ (.tmp 10) = .pointer (some ⟨q, 0, none⟩) := ht 10 rfl
                    clear ht hdep hgl
                    go_simp
                    exact hG _ _ (Below.refl _ _) rfl
                · exact .inr (.inl rfl)
              · intro o ho
                obtain rfl := Option.some.inj ho
                intro ρ w' hbw ht hcs hfn hgl hdep G hG
                replace hbw : Below wr.heap.size wr w' := hbw
                refine ⟨fun _ => ?_, fun h => by cases h⟩
                have s62 : ρ (.tmp 62) = .slice oa k oc := hdep ⟨1, .data⟩ (by simp) rfl 62 rfl
                have d80 := hdep ⟨19, .data⟩ (by simp) rfl 80 rfl
                clear ht hdep hgl
                refine upon_appO _ _ 42 (by rfl) (q + 1) 75 _ 24 infEntC Try.underlying42 rfl _ ((D.take k).map (cntE ws sc)) s62 (HO.out.below hbw) [(⟨a, C⟩ : DEntry)] d80 (by unfold maxLen; simp <;> omega) (by simp <;> omega) (by have := hbw.size; omega) ?_
                intro v' wA hoA hgA hlA
                refine hG _ _ ⟨grownBoxC (HBX.out.later hbw) hgA (by intro hh; have := (World.ownsRow.lt (HO.out.below hbw) q hh).1; omega), (hbw.mono (Nat.le_of_lt hlt')).grown hgA (by have := hbw.size; omega) (fun kk hh => by have := (World.ownsRow.lt (HO.out.below hbw) kk hh).1; omega)⟩ (by rw [← HTK.out, HCE.out]; exact hoA) ?_
                intro j u hj hne h
                match j, h with
                | 0, h => exact h
                | 1, h => exact h
                | 2, h => exact h
                | 3, h => exact h
                | 4, h => exact h
                | 5, h => exact h
                | 6, h => exact h
                | 7, h => exact h
                | 8, h => exact h
                | 9, h => exact h
                | 10, h => exact h
                | 11, h => exact h
                | 12, h => exact h
                | 13, h => exact h
                | 14, h => exact h
                | 15, h => exact h
                | 16, h => exact h
                | 17, h => exact h
                | 18, h => exact h
                | 19, h => exact trivial
                | 20, h => exact absurd rfl hne
                | 21, h => exact h
                | 22, h => exact trivial
                | (k + 23), h => exact h
              · intro o ho
                obtain rfl := Option.some.inj ho
                intro ρ w' hbw ht hcs hfn hgl hdep G hG
                replace hbw : (Box w' q #[.slice oa k oc] 44 ∧ Below q wr w') := hbw
                refine ⟨fun _ => ?_, fun h => by cases h⟩
                have s82 : ρ (.tmp 82) = .pointer (some ⟨q, 0, none⟩) := hdep ⟨21, .data⟩ (by simp) rfl 82 rfl
                have d81 := hdep ⟨20, .data⟩ (by simp) rfl 81 rfl
                clear ht hdep hgl
                have h81 : Own eEntry 75 (q + 1) w' (ρ (.tmp 81)) ((D.take (k + 1)).map (cntE ws sc)) := d81
                obtain ⟨ua, uc, hu⟩ := h81.isSlice
                rw [show ((D.take (k + 1)).map (cntE ws sc)).length = k + 1 by rw [List.length_map, List.length_take]; omega] at hu
                rw [hu] at h81
                have f0 := hbw.1.cell (j := 0) rfl
                have ff := hbw.1.free
                have hx := hid (show FinC q w4 ((D.take (k + 1)).map (cntE ws sc)) (w'.setCell ⟨q, 0, none⟩ (.slice ua (k + 1) uc)) from ⟨_, hbw.1.set 0 _, h81.setBelow (Nat.lt_succ_self q) _, (HBL.out.trans hbw.2).setCell (Nat.le_refl _) _⟩)
                clear h81
                go_simp
                refine hG _ _ hx.out trivial ?_
                intro j u hj hne h
                match j, h with
                | 0, h => exact h
                | 1, h => exact h
                | 2, h => exact h
                | 3, h => exact h
                | 4, h => exact h
                | 5, h => exact h
                | 6, h => exact h
                | 7, h => exact h
                | 8, h => exact h
                | 9, h => exact h
                | 10, h => exact h
                | 11, h => exact h
                | 12, h => exact h
                | 13, h => exact h
                | 14, h => exact h
                | 15, h => exact h
                | 16, h => exact h
                | 17, h => exact h
                | 18, h => exact h
                | 19, h => exact trivial
                | 20, h => exact trivial
                | 21, h => exact h
                | 22, h => exact trivial
                | (k + 23), h => exact h
              intro xx w6 hF hx
              clear hx
              simp only [putAll, Act.put, List.setIfInBounds_toArray, List.set_cons_succ, List.set_cons_zero, Nat.zero_add, Nat.reduceAdd]
              go_wp2_with fail
              go_roundw
              case rel => exact ⟨k + 1, by omega, by go_num, hF⟩
              case measure => simp [intOf]; omega
            · obtain rfl : k = D.length := by omega
              have hli : ¬ ((D.length : Int) < (D.length : Int)) := by omega
              have bxr := hbx4.below hbl hpq
              have b0 := bxr.cell (j := 0) rfl
              have bf := bxr.free
              rw [List.take_length] at hoE
              go_wp2_with fail
              refine bodyPost_ret (v := .tuple #[.agg #[.slice oa D.length oc], .int .i64 0]) (by simp [results, Try.results15, go_sem, b0]) rfl (finish _ _ _ _ HZ ((hoE.setBelow (a := ⟨p1, 0, none⟩) (by show p1 < q + 1; omega) _).mono (by omega)) ?_)
              exact hbr5.setCell hge1 _
end Go.Proofs.Ythooeaappnkjgaa
