/- How often words occur: the reference's calls. -/
import Derived.Test.YthooeaappnkjgaaCcPlain
import Derived.Test.YthooeaappnkjgaaStr
import Derived.Test.YthooeaappnkjgaaApp
import Derived.Test.YthooeaappnkjgaaWrStringS
import Derived.Test.YthooeaappnkjgaaWrLexicon
import Derived.Test.YthooeaappnkjgaaLtPut
import Derived.Test.YthooeaappnkjgaaReg
namespace Go.Proofs.Ythooeaappnkjgaa
open Go.RowKit Go.Sort
attribute [local go_sem ↓] Go.wp_at_zero Go.wp_at_succ

theorem infEntC : (Try.prog.info? 75).map (fun i => (i.zero, i.size, i.bytes)) = some (some (.agg #[.string ByteArray.empty, .int .i64 0]), eEntry.sz, 24) := by kernel_rfl
theorem rLxC_new {w w' : World} {B : Nat} {u : Value} {x : XLexicon} (h : Own eEntry 75 B w' u x) (hB : w.heap.size ≤ B) : rLexicon.own w.heap.size w'.heap.size w' (.agg #[u]) x :=
  ⟨u, rfl, (h.mono hB).in_⟩
theorem specWordC {s : ByteArray} {b : Bool} (hs : s.size ≤ 9223372036854775807) (h : isWordB s = b) (w : World) : Calls Try.prog 40 #[.string s] w fun e w' => e = .returned (.bool b) ∧ w = w' := by
  subst h; exact specIsWord_any _ _ hs
theorem inInC (n : Int) (w : World) : Calls Try.prog 41 #[.int .i64 n, .int .i64 0, .int .i64 1000000] w fun e w' => e = .returned (.bool (inB n 0 1000000)) ∧ w = w' := l00In_any _ _ _ _
/-- the cost of a word -/
def cntCost (ws : List ByteArray) (sc : Int) (a : ByteArray) : Int := (sc * ((mostS ws : Int) - (timesS ws a : Int))).tdiv (mostS ws : Int)
def cntOk (ws : List ByteArray) (sc : Int) : Bool := ws.all isWordB && inB sc 0 1000000 && decide ((difS ws).length ≤ 60)
def cntLx (ws : List ByteArray) (sc : Int) : XLexicon := if cntOk ws sc then (difS ws).map fun a => ⟨a, cntCost ws sc a⟩ else []
def cntC (ws : List ByteArray) (sc : Int) : Int := if ws.all isWordB then (if inB sc 0 1000000 then (if (difS ws).length ≤ 60 then 0 else 5) else 2) else 7
theorem okCnt {ws : List ByteArray} {sc : Int} : okLexicon (cntLx ws sc) := by
  unfold cntLx okLexicon
  split
  · rename_i h
    unfold cntOk at h
    rw [Bool.and_eq_true, decide_eq_true_eq] at h
    rw [List.length_map]
    have := h.2
    omega
  · simp
theorem arrT_dropS {w : World} {b off n c k : Nat} {xs : List ByteArray} (h : Arr eStr w (.slice (some ⟨b, off, none⟩) n c) xs) (hm : k ≤ n) :
    Arr eStr w (.slice (if c = k then some ⟨b, off, none⟩ else some ⟨b, off + k, none⟩) (n - k) (c - k)) (xs.drop k) := by
  have h1 := arrS_drop h hm
  rw [Option.map_some, Addr.add_lit, show k * eStr.sz = k from Nat.mul_one k] at h1
  exact h1
theorem mul_bd {a b c d : Int} (h0 : 0 ≤ a) (h1 : a ≤ c) (h2 : 0 ≤ b) (h3 : b ≤ d) : 0 ≤ a * b ∧ a * b ≤ c * d :=
  ⟨Int.mul_nonneg h0 h2, Int.mul_le_mul h1 h3 h2 (by omega)⟩

set_option maxHeartbeats 1000000 in
theorem l16Times_any (v : Value) (ws : List ByteArray) (s : ByteArray) (w : World) (h : Arr eStr w v ws) (ok : ws.length ≤ 1048576) :
    Calls Try.prog 44 #[v, .string s] w fun e w' => e = .returned (.int .i64 (timesS ws s)) ∧ w = w' := by
  obtain ⟨b, off, ao, cap, rfl, hnc, hcm, hao, hc⟩ := h
  unfold maxLen at hcm
  go_enter Try.func44, Try.ntmps44
  go_wp2
  go_loopw [5, 6] (fun t i wr => ∃ k : Nat, k ≤ ws.length ∧ i = .int .i64 k ∧ t = .int .i64 (timesS (ws.take k) s) ∧ w = wr) (fun _ i _ => ws.length - (intOf i).toNat)
  case atStart => exact ⟨0, Nat.zero_le _, rfl, rfl, rfl⟩
  case round =>
    obtain ⟨k, hk, rfl, rfl, rfl⟩ := hrel
    by_cases hlt : k < ws.length
    · obtain ⟨hao', hbw⟩ := hao (by omega)
      subst hao'
      obtain ⟨a, ha⟩ : ∃ a, ws[k]? = some a := ⟨_, List.getElem?_eq_getElem hlt⟩
      have c0 := eStr_cell hc ha
      have hli : (k : Int) < (ws.length : Int) := by omega
      have htk : timesS (ws.take (k + 1)) s = timesS (ws.take k) s + if eqS a s then 1 else 0 := by
        unfold timesS
        rw [List.take_add_one, ha, List.countP_append]
        show List.countP _ _ + List.countP _ [a] = _
        rw [List.countP_singleton]
      have hle := times_le (ws.take k) s
      rw [List.length_take] at hle
      obtain ⟨T, hT⟩ : ∃ T, T = timesS (ws.take k) s := ⟨_, rfl⟩
      rw [← hT] at hle htk ⊢
      have HT := hid htk
      clear ha hao htk hT
      cases hq : eqS a s
      · have hq' : (a.toList == s.toList) = false := hq
        have HQ := hid hq
        clear hq
        go_wp2_with fail
        go_roundw
        case rel => exact ⟨k + 1, by omega, by go_num, by rw [HT.out, HQ.out]; simp, by trivial⟩
        case measure => simp [intOf]; omega
      · have hq' : (a.toList == s.toList) = true := hq
        have HQ := hid hq
        clear hq
        go_wp2_with fail
        go_roundw
        case rel => exact ⟨k + 1, by omega, by go_num, by rw [HT.out, HQ.out]; go_num, by trivial⟩
        case measure => simp [intOf]; omega
    · obtain rfl : k = ws.length := by omega
      have hli : ¬ ((ws.length : Int) < (ws.length : Int)) := by omega
      rw [List.take_length]
      go_wp2_with fail
      go_ret
      exact ⟨rfl, rfl⟩
theorem le_not (a t : ByteArray) : (Op.bytesLess a.toList t.toList || a.toList == t.toList) = !ltB t a := by
  show (ltB a t || eqS a t) = _
  cases h1 : ltB t a with
  | true =>
    have h2 : ltB a t = false := ltB_asymm h1
    have h3 : eqS a t = false := by
      rw [eqS_false]; rintro rfl
      rw [ltB_self] at h1; cases h1
    rw [h2, h3]; rfl
  | false =>
    cases h2 : eqS a t with
    | true => simp
    | false => rw [ltB_tot h1 (eqS_false.1 h2)]; rfl
theorem strict_any_pos {x : List ByteArray} (hs : StrictS x) {t : ByteArray} {k : Nat} (hk : posE ltB t x x.length = k) : x.any (fun a => eqS a t) = (decide (0 < k) && (match x[k - 1]? with | some a => eqS a t | none => false)) := by
  have hle : k ≤ x.length := by rw [← hk]; exact posE_le _ _ _ _
  cases hx : x.any (fun a => eqS a t) with
  | false =>
    symm
    rw [Bool.and_eq_false_iff]
    right
    cases ha : x[k - 1]? with
    | none => rfl
    | some a =>
      have h1 := List.any_eq_false.1 hx a (List.mem_of_getElem? ha)
      simpa using h1
  | true =>
    obtain ⟨a, ha, he⟩ := List.any_eq_true.1 hx
    obtain ⟨j, hj⟩ := List.mem_iff_getElem?.1 ha
    have e : a = t := eqS_iff.1 he
    subst e
    have hjk : j < k := by
      rcases Nat.lt_or_ge j k with h | h
      · exact h
      · have := posE_above ltB a x x.length (Nat.le_refl _) j a (by omega) (List.getElem?_eq_some_iff.1 hj).1 hj
        rw [ltB_self] at this; cases this
    obtain ⟨b, hb⟩ : ∃ b, x[k - 1]? = some b := ⟨_, List.getElem?_eq_getElem (by omega)⟩
    have hstop := posE_stop ltB a x x.length (Nat.le_refl _) b (by omega) (by rw [hk]; exact hb)
    rw [hb]
    symm
    rw [Bool.and_eq_true]
    refine ⟨by simp; omega, ?_⟩
    by_cases ej : j = k - 1
    · subst ej; rw [hj] at hb; cases hb; exact he
    · obtain ⟨i1, r1⟩ := List.getElem?_eq_some_iff.1 hj
      obtain ⟨i2, r2⟩ := List.getElem?_eq_some_iff.1 hb
      have h1 := List.pairwise_iff_getElem.1 hs j (k - 1) i1 i2 (by omega)
      rw [r1, r2, hstop] at h1
      cases h1
set_option maxHeartbeats 4000000 in
set_option maxRecDepth 100000 in
theorem l11Insert_any (v : Value) (x : List ByteArray) (t : ByteArray) (B : Nat) (w : World) (h : Own eStr 9 B w v x) (ok : x.length ≤ 1048576) (hs : StrictS x) (hB : B ≤ w.heap.size) :
    Calls Try.prog 42 #[v, .string t] w fun en w' => ∃ u, en = .returned u ∧ Own eStr 9 B w' u (insD x t) ∧ Below w.heap.size w w' := by
  have hA := h.arr
  obtain ⟨b, off, ao, cap, rfl, hnc, hcm, hao, hc⟩ := hA
  unfold maxLen at hcm
  have hA := h.arr
  have HO := hid h
  clear h
  go_enter Try.func42, Try.ntmps42
  go_wp2
  go_loopw [5] (fun i wr => ∃ k : Nat, k ≤ x.length ∧ i = .int .i64 k ∧ w = wr ∧ Hid (posE ltB t x x.length = posE ltB t x k)) (fun i _ => (intOf i).toNat)
  case atStart => exact ⟨x.length, Nat.le_refl _, rfl, rfl, hid rfl⟩
  case round =>
    obtain ⟨k, hk, rfl, rfl, HP⟩ := hrel
    by_cases hk0 : 0 < k
    · have hki : (0 : Int) < (k : Int) := by omega
      have hk1 : (0 : Int) ≤ (k : Int) - 1 := by omega
      have hk2 : (k : Int) - 1 < (x.length : Int) := by omega
      have et : ((k : Int) - 1).toNat = k - 1 := by omega
      obtain ⟨hao', hbw⟩ := hao (by omega)
      subst hao'
      obtain ⟨a, ha⟩ : ∃ a, x[k - 1]? = some a := ⟨_, List.getElem?_eq_getElem (by omega)⟩
      have c0 := eStr_cell hc ha
      have hpk : posE ltB t x k = if ltB t a then posE ltB t x (k - 1) else k := by
        obtain ⟨m, rfl⟩ : ∃ m, k = m + 1 := ⟨k - 1, by omega⟩
        rw [Nat.add_sub_cancel] at ha ⊢
        conv => lhs; unfold posE
        simp only [ha]
      cases hlt : ltB t a
      · have hl' : (Op.bytesLess a.toList t.toList || a.toList == t.toList) = true := by rw [le_not, hlt]; rfl
        have HPK := hid (show posE ltB t x x.length = k by rw [HP.out, hpk, hlt]; rfl)
        have hany := strict_any_pos hs HPK.out
        rw [ha] at hany
        replace hany : x.any (fun a => eqS a t) = (decide (0 < k) && eqS a t) := hany
        cases hq : eqS a t
        · have hq' : (a.toList == t.toList) = false := hq
          have hb1 : Op.bytesLess a.toList t.toList = true := ltB_tot hlt (eqS_false.1 hq)
          clear hl'
          have HIN : Hid (insD x t = x.take k ++ t :: x.drop k) := hid (by
            unfold insD
            rw [hany, hq]
            simp only [Bool.and_false, Bool.false_eq_true, if_false]
            unfold insE
            rw [HPK.out])
          clear ha hao hpk hlt hany hq
          have hkl : (k : Int) ≤ (x.length : Int) := by omega
          have hkc : (k : Int) ≤ (cap : Int) := by omega
          have hk00 : (0 : Int) ≤ (k : Int) := by omega
          go_wp2_with (at_builtin; refine wpList_appA rfl _ _ 40 rfl w.heap.size 9 _ 16 infoStr Try.underlying40 rfl _ [] (by rfl) (Own.empty _ _ (Nat.le_refl _)) _ (x.take k) (by rfl) ((arrA_take hA hk).below (below_alloc _ _)) (by unfold maxLen; simp <;> omega) (by simp <;> omega) (by simp) ?_)
          intro v1 w1 ho1 hb1 _
          have HB1 : Below w.heap.size w w1 := (below_alloc _ _).trans hb1
          have z1 := HB1.size
          have hl1 : (x.take k).length = k := by rw [List.length_take]; omega
          have HL1 := hid hl1
          clear hl1
          go_wp2_with (at_builtin; refine wpList_appA rfl _ _ 40 rfl w.heap.size 9 _ 16 infoStr Try.underlying40 rfl _ (x.take k) (by rfl) (ho1.alloc _) _ [t] (by rfl) (arr_block (E := eStr) (n := 1) [t] #[.string t] rfl rfl (by decide)) (by have := HL1.out; unfold maxLen; simp <;> omega) (by have := HL1.out; simp <;> omega) (by simp <;> omega) ?_)
          intro v2 w2 ho2 hb2 _
          have HB2 : Below w.heap.size w w2 := (HB1.alloc z1 _).trans hb2
          have hA2 := hA.below HB2
          have z2 := HB2.size
          go_wp2_with (at_builtin; refine wpList_appA rfl _ _ 40 rfl w.heap.size 9 _ 16 infoStr Try.underlying40 rfl _ (x.take k ++ [t]) (by rfl) ho2 _ (x.drop k) (by rfl) (by first | exact arrT_dropS hA2 hk | exact arrS_drop hA2 hk | (have hD := arrT_dropS hA2 hk; rw [if_pos rfl] at hD; exact hD) | (have hD := arrT_dropS hA2 hk; rw [if_pos (by assumption)] at hD; exact hD) | (have hD := arrT_dropS hA2 hk; rw [if_neg (by assumption)] at hD; exact hD) | (have hD := arrT_dropS hA2 hk; simpa using hD)) (by have := HL1.out; unfold maxLen; simp <;> omega) (by have := HL1.out; simp <;> omega) (by omega) ?_)
          all_goals intro v3 w3 ho3 hb3 _
          all_goals go_wp2_with fail
          all_goals go_ret
          all_goals exact ⟨_, rfl, by rw [HIN.out]; simpa using ho3.mono hB, HB2.trans (hb3.mono (Nat.le_refl _))⟩
        · have hq' : (a.toList == t.toList) = true := hq
          have HIN : Hid (insD x t = x) := hid (by
            unfold insD
            rw [hany, hq]
            simp [hk0])
          clear ha hao hpk hlt hany hq
          go_wp2_with fail
          go_ret
          exact ⟨_, rfl, by rw [HIN.out]; exact HO.out, Below.refl _ _⟩
      · have hl' : (Op.bytesLess a.toList t.toList || a.toList == t.toList) = false := by rw [le_not, hlt]; rfl
        have hb1 : Op.bytesLess a.toList t.toList = false := (Bool.or_eq_false_iff.1 hl').1
        have hq' : (a.toList == t.toList) = false := (Bool.or_eq_false_iff.1 hl').2
        clear hl'
        have HPK := hid (show posE ltB t x x.length = posE ltB t x (k - 1) by rw [HP.out, hpk, hlt]; rfl)
        clear ha hao hpk hlt
        go_wp2_with fail
        go_roundw
        case rel => exact ⟨k - 1, by omega, by go_num, by trivial, HPK⟩
        case measure => simp [intOf]; omega
    · obtain rfl : k = 0 := by omega
      have HPK := hid (show posE ltB t x x.length = 0 by rw [HP.out]; rfl)
      have HIN : Hid (insD x t = x.take 0 ++ t :: x.drop 0) := hid (by
        have hany := strict_any_pos hs HPK.out
        unfold insD
        rw [hany]
        simp only [Nat.lt_irrefl, decide_false, Bool.false_and, Bool.false_eq_true, if_false]
        unfold insE
        rw [HPK.out])
      have hA0 := arrA_take hA (Nat.zero_le x.length)
      have hkl : (0 : Int) ≤ (x.length : Int) := by omega
      have hkc : (0 : Int) ≤ (cap : Int) := by omega
      go_wp2_with (at_builtin; refine wpList_appA rfl _ _ 40 rfl w.heap.size 9 _ 16 infoStr Try.underlying40 rfl _ [] (by rfl) (Own.empty _ _ (Nat.le_refl _)) _ (x.take 0) (by rfl) (hA0.below (below_alloc _ _)) (by unfold maxLen; simp <;> omega) (by simp <;> omega) (by simp) ?_)
      intro v1 w1 ho1 hb1 _
      have HB1 : Below w.heap.size w w1 := (below_alloc _ _).trans hb1
      have z1 := HB1.size
      go_wp2_with (at_builtin; refine wpList_appA rfl _ _ 40 rfl w.heap.size 9 _ 16 infoStr Try.underlying40 rfl _ (x.take 0) (by rfl) (ho1.alloc _) _ [t] (by rfl) (arr_block (E := eStr) (n := 1) [t] #[.string t] rfl rfl (by decide)) (by unfold maxLen; simp <;> omega) (by simp <;> omega) (by simp <;> omega) ?_)
      intro v2 w2 ho2 hb2 _
      have HB2 : Below w.heap.size w w2 := (HB1.alloc z1 _).trans hb2
      have hA2 := hA.below HB2
      have z2 := HB2.size
      go_wp2_with (at_builtin; refine wpList_appA rfl _ _ 40 rfl w.heap.size 9 _ 16 infoStr Try.underlying40 rfl _ (x.take 0 ++ [t]) (by rfl) ho2 _ (x.drop 0) (by rfl) (by first | exact hA2 | exact arrT_dropS hA2 (Nat.zero_le _) | (rw [List.drop_zero]; exact hA2)) (by unfold maxLen; simp <;> omega) (by simp <;> omega) (by omega) ?_)
      all_goals intro v3 w3 ho3 hb3 _
      all_goals go_wp2_with fail
      all_goals go_ret
      all_goals exact ⟨_, rfl, by rw [HIN.out]; simpa using ho3.mono hB, HB2.trans (hb3.mono (Nat.le_refl _))⟩
end Go.Proofs.Ythooeaappnkjgaa
