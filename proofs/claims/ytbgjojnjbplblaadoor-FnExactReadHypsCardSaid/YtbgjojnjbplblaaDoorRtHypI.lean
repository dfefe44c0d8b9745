/- Hypotheses read from their text: the implementation's call. -/
import Derived.Test.YtbgjojnjbplblaaDoorRtLib
import Derived.Test.YtbgjojnjbplblaaDoorRtHypS
namespace Go.Proofs.YtbgjojnjbplblaaDoor
open Go.RowKit

def candTH (P : List (List UInt8)) (k : Nat) : XHypS := (P.take k).map candH
theorem candTH_len {P : List (List UInt8)} {k : Nat} (h : k ≤ P.length) : (candTH P k).length = k := by unfold candTH; rw [List.length_map, List.length_take]; omega
theorem candTH_next {P : List (List UInt8)} {k : Nat} {p : List UInt8} (hp : P[k]? = some p) : candTH P k ++ [candH p] = candTH P (k + 1) := by
  unfold candTH
  rw [List.take_add_one, hp, Option.toList_some, List.map_append]
  rfl
theorem candTH_all (P : List (List UInt8)) : candTH P P.length = P.map candH := by unfold candTH; rw [List.take_length]
set_option maxRecDepth 100000 in
set_option maxHeartbeats 8000000 in
theorem implReadHyps_any (s : ByteArray) (w : World) (hs : s.size ≤ 1048576) (ht : TabR w) : Calls Tryd.prog 11 #[.string s] w (RetNew rHypS (rdHy s) #[.bool (rdHyB s)] w) := by
  have finish : ∀ (w' : World) (u : Value) (z : XHypS) (c : Bool), Hid (rdHy s = z ∧ rdHyB s = c) → Own eHyp 52 w.heap.size w' u z → Below w.heap.size w w' → RetNew rHypS (rdHy s) #[.bool (rdHyB s)] w (.returned (.tuple #[u, .bool c])) w' := by
    intro w' u z c hz ho hb
    rw [hz.out.1, hz.out.2]
    exact ⟨_, rfl, rHypS_own ho (Nat.le_refl _), hb⟩
  cases hno : eqS s noneS with
  | true =>
    have hq : (s.toList == [110, 111, 110, 101]) = true := by rw [← noneS_list]; exact hno
    have HZ := hid (rdHy_some (readHy_none hno))
    have CV := implValidHyps_any (.slice none 0 0) [] w (Own.nil (E := eHyp) 52 w 0).arr.in_ (by simp [okHypS]) (fun e he => by cases he)
    rw [validHy_nil] at CV
    have CT := fun (w' : World) (hb : Below w.heap.size w w') => implHypsText_any (.slice none 0 0) [] w' (Own.nil (E := eHyp) 52 w' 0).arr.in_ (by simp [okHypS]) (fun e he => by cases he) (ht.below hb).tab
    rw [hypS_nil] at CT
    have hq2 : (noneS.toList == s.toList) = true := by
      rw [beq_iff_eq] at hq ⊢
      rw [noneS_list]
      exact hq.symm
    clear hno
    go_enter Tryd.func11, Tryd.ntmps11
    go_wp2_with fail
    refine CV.mono ?_
    rintro en w2 ⟨rfl, hb2⟩
    go_wp2_with fail
    refine (CT w2 hb2).mono ?_
    rintro en w3 ⟨rfl, hb3⟩
    go_wp2_with fail
    go_ret2
    exact finish _ _ _ _ HZ (Own.nil _ _ _) (hb2.trans (hb3.mono hb2.size))
  | false =>
    have hq : (s.toList == [110, 111, 110, 101]) = false := by rw [← noneS_list]; exact hno
    obtain ⟨P, hP⟩ : ∃ P, P = splL 32 s.data.toList := ⟨_, rfl⟩
    have hif := readHy_iff s hno
    have CW := wordsOf_any s w hs ht.max
    obtain ⟨hn1, hn2⟩ := splB_len 32 s
    have hPB : splB 32 s = ofS P := by rw [hP]; rfl
    rw [hPB] at hn1 hn2 CW
    have hPl : (ofS P).length = P.length := ofS_len P
    rw [hPl] at hn1 hn2
    have hps0 : ∀ p ∈ P, p.length ≤ 1048576 := fun p hp => by
      rw [hP] at hp
      have h2 := splL_plen hp
      have h3 : s.data.toList.length = s.size := by rw [Array.length_toList]; rfl
      omega
    have hgd : goodHypS (P.map candH) := by rw [hP]; exact goodCandH hs
    rw [← hP] at hif
    have HIF := hid hif
    have HPL := hid hPl
    have HPS := hid hps0
    have HGD := hid hgd
    clear hno hP hif hPl hps0 hgd hPB
    go_enter Tryd.func11, Tryd.ntmps11
    go_wp2_with fail
    refine CW.mono ?_
    rintro en w1 ⟨v1, rfl, hs1, hbw⟩
    obtain ⟨la, lc, hv1⟩ := hs1.isSlice
    rw [HPL.out] at hv1
    subst hv1
    have hx1 : Own eHyp 52 w.heap.size w1 (.slice none 0 0) [] := Own.nil _ _ _
    clear CW
    go_wp2_with fail
    go_loopw [4, 17] (fun u i wr => ∃ k : Nat, k ≤ P.length ∧ i = .int .i64 k ∧ Own eHyp 52 w.heap.size wr u (candTH P k) ∧ Own eStr 9 w.heap.size wr (.slice la P.length lc) (ofS P) ∧ Below w.heap.size w wr) (fun _ i _ => P.length - (intOf i).toNat)
    case atStart => exact ⟨0, Nat.zero_le _, rfl, hx1, hs1, hbw⟩
    case round =>
      clear hx1 hs1 hbw
      obtain ⟨k, hk, rfl, hoE, hoS, hbr⟩ := hrel
      have hXl : (candTH P k).length = k := candTH_len hk
      obtain ⟨oa, oc, hu⟩ := hoE.isSlice
      rw [hXl] at hu
      subst hu
      have hbrs := hbr.size
      have htr := ht.below hbr
      by_cases hlt : k < P.length
      · have hli : (k : Int) < (P.length : Int) := by omega
        obtain ⟨p, hp⟩ : ∃ p, P[k]? = some p := ⟨_, List.getElem?_eq_getElem hlt⟩
        obtain ⟨g, cap, hv, hg, c0⟩ := own_str hoS (ofS_get hp)
        simp only [Value.slice.injEq] at hv
        obtain ⟨rfl, hx1, rfl⟩ := hv
        clear hx1
        obtain ⟨pb, hpb⟩ : ∃ pb : ByteArray, pb = ⟨p.toArray⟩ := ⟨_, rfl⟩
        have hpl : pb.data.toList = p := by rw [hpb]
        rw [← hpb] at c0
        have hps : pb.size ≤ 1048576 := by
          have h1 := HPS.out p (List.mem_of_getElem? hp)
          rw [hpb]
          show p.toArray.size ≤ _
          simpa using h1
        have CC := cutR_any 58 pb wr hps htr.max
        rw [hpl] at CC
        obtain ⟨wb, hwb⟩ : ∃ wb : ByteArray, wb = ⟨(Lib.cut p [58]).1.toArray⟩ := ⟨_, rfl⟩
        obtain ⟨cb, hcb⟩ : ∃ cb : ByteArray, cb = ⟨(Lib.cut p [58]).2.1.toArray⟩ := ⟨_, rfl⟩
        have hcl : cb.data.toList = (Lib.cut p [58]).2.1 := by rw [hcb]
        have hcs : cb.size ≤ 1048576 := by
          have h1 := HPS.out p (List.mem_of_getElem? hp)
          have h2 := cut_len2 p 58
          rw [hcb]
          show (Lib.cut p [58]).2.1.toArray.size ≤ _
          rw [List.size_toArray]
          omega
        rw [← hwb, ← hcb] at CC
        obtain ⟨n, hn⟩ : ∃ n, n = rdNv cb.data.toList := ⟨_, rfl⟩
        obtain ⟨f, hf⟩ : ∃ f, f = rdNb cb.data.toList := ⟨_, rfl⟩
        have CD := fun w' (hb : Below wr.heap.size wr w') => ReadDecimal_any cb w' hcs (htr.below hb)
        rw [← hn, ← hf] at CD
        have HE := hid (show candTH P k ++ [(⟨wb, n⟩ : DHyp)] = candTH P (k + 1) by
          rw [← candTH_next hp]
          congr 1
          show [_] = [candH p]
          unfold candH
          rw [← hwb, ← hcl, hn])
        have HOE := hid hoE
        have HOS := hid hoS
        have HXL := hid hXl
        generalize (Lib.cut p [58]).2.2 = bb at *
        clear hp hpb hpl hps hwb hcb hcl hn hf hcs hoE hoS hXl
        go_wp2_with fail
        refine CC.mono ?_
        rintro en w2 ⟨rfl, hb2⟩
        go_wp2_with fail
        refine (CD w2 hb2).mono ?_
        rintro en w3 ⟨rfl, hb3⟩
        have hb23 := hb2.trans (hb3.mono hb2.size)
        have hoE3 := HOE.out.below hb23
        have hoS3 := HOS.out.below hb23
        have hbr3 := hbr.trans (hb23.mono hbrs)
        have hbs3 := hbr3.size
        clear CC CD
        go_wp2_with (at_builtin; refine wpList_appA rfl _ _ 30 rfl w.heap.size 52 _ 24 infHypR Tryd.underlying30 rfl _ (candTH P k) (by rfl) (hoE3.alloc _) _ [(⟨wb, n⟩ : DHyp)] (by rfl) (arr_block (E := eHyp) (n := 1) [(⟨wb, n⟩ : DHyp)] #[.string wb, .int .i64 n] rfl rfl (by decide)) (by have := HXL.out; unfold maxLen; simp <;> omega) (by have := HXL.out; simp <;> omega) (by simp <;> omega) ?_)
        intro u6 w6 ho6 hb6 ht6
        rw [HE.out] at ho6
        have hoS6 := (hoS3.alloc (.cells #[.string wb, .int .i64 n] 52)).typedR ht6 rfl
        have hbr6 := (hbr3.alloc hbs3 (.cells #[.string wb, .int .i64 n] 52)).trans hb6
        go_wp2_with fail
        go_roundw
        case rel => exact ⟨k + 1, by omega, by go_num, ho6, hoS6, hbr6⟩
        case measure => simp [intOf]; omega
      · obtain rfl : k = P.length := by omega
        have hli : ¬ ((P.length : Int) < (P.length : Int)) := by omega
        rw [candTH_all] at hoE hXl
        obtain ⟨X, hX⟩ : ∃ X, X = P.map candH := ⟨_, rfl⟩
        have hif := HIF.out
        have gX := HGD.out
        rw [← hX] at hoE hXl hif gX
        rw [← hXl] at hoE
        have hat : ∀ (w' : World), Below wr.heap.size wr w' → rHypS.at_ 0 w'.heap.size w' (.slice oa X.length oc) X := fun w' hb => (hoE.arr.below hb).in_
        have CV := implValidHyps_big _ X wr (hat wr (Below.refl _ _)) (by omega) gX
        have HXL := hid hXl
        clear hX hXl
        cases hv : validHy X
        · have HZ := hid (rdHy_none (show readHy s = none by rw [hif, hv]; rfl))
          rw [hv] at CV
          go_wp2_with fail
          rw [← HXL.out]
          refine CV.mono ?_
          rintro en w2 ⟨rfl, hb2⟩
          go_wp2_with fail
          go_ret2
          exact finish _ _ _ _ HZ (Own.nil _ _ _) (hbr.trans (hb2.mono hbr.size))
        · rw [hv] at CV
          have hN8 := hypN_ok hv
          have CT := fun (w' : World) (hb : Below wr.heap.size wr w') => implHypsText_any _ X w' (hat w' hb) (by unfold okHypS; omega) gX (htr.below hb).tab
          obtain ⟨TX, hTX⟩ : ∃ TX, TX = hypS X := ⟨_, rfl⟩
          rw [← hTX] at CT
          cases hq : eqS TX s
          · have HZ := hid (rdHy_none (show readHy s = none by rw [hif, hv, ← hTX, hq]; rfl))
            have hq' : (TX.toList == s.toList) = false := hq
            clear hif hTX hq
            go_wp2_with fail
            rw [← HXL.out]
            refine CV.mono ?_
            rintro en w2 ⟨rfl, hb2⟩
            go_wp2_with fail
            refine (CT w2 hb2).mono ?_
            rintro en w3 ⟨rfl, hb3⟩
            go_wp2_with fail
            go_ret2
            exact finish _ _ _ _ HZ (Own.nil _ _ _) (hbr.trans ((hb2.trans (hb3.mono hb2.size)).mono hbr.size))
          · have HZ := hid (rdHy_some (show readHy s = some X by rw [hif, hv, ← hTX, hq]; rfl))
            have hq' : (TX.toList == s.toList) = true := hq
            clear hif hTX hq
            go_wp2_with fail
            rw [← HXL.out]
            refine CV.mono ?_
            rintro en w2 ⟨rfl, hb2⟩
            go_wp2_with fail
            refine (CT w2 hb2).mono ?_
            rintro en w3 ⟨rfl, hb3⟩
            have ho3 := hoE.below (hb2.trans (hb3.mono hb2.size))
            go_wp2_with fail
            go_ret2
            exact finish _ _ _ _ HZ ho3 (hbr.trans ((hb2.trans (hb3.mono hb2.size)).mono hbr.size))
end Go.Proofs.YtbgjojnjbplblaaDoor
