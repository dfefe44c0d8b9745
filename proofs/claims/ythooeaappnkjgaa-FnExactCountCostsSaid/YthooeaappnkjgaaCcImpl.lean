/- Costs by how often words occur: the implementation's call. -/
import Derived.Test.YthooeaappnkjgaaCcSpec2
import Derived.Test.YthooeaappnkjgaaCcSort
import Derived.Test.YthooeaappnkjgaaClo
import Derived.Deep.Cut
import Derived.Deep.DrawnRows
import Derived.StillTailTactics
import Derived.IntWalk
namespace Go.Proofs.Ythooeaappnkjgaa
open Go.RowKit Go.Sort
attribute [local go_sem ↓] Go.wp_at_zero Go.wp_at_succ

set_option maxHeartbeats 1000000 in
theorem indexStr_any (c : FuncId) (q : ByteArray → Bool) (v : Value) (x : List ByteArray) (w : World) (h : Arr eStr w v x) (ok : x.length ≤ 1048576) (hen : Enters c)
    (hf : ∀ (a : ByteArray) (w' : World), a ∈ x → Calls Try.prog c #[.string a] w' (Ret (.bool (q a)) w')) :
    Calls Try.prog 67 #[v, .func (.func c) #[] #[]] w (Ret (.int .i64 (posOf (x.findIdx? q))) w) := by
  obtain ⟨b, off, ao, cap, rfl, hnc, hcm, hao, hc⟩ := h
  unfold maxLen at hcm
  go_enter Try.func67, Try.ntmps67
  go_wp2
  go_loopw [5, 8] (fun _ i wr => ∃ k : Nat, k ≤ x.length ∧ i = .int .i64 k ∧ Below w.heap.size w wr ∧ ∀ j a, j < k → x[j]? = some a → q a = false) (fun _ i _ => x.length - (intOf i).toNat)
  case atStart => exact ⟨0, Nat.zero_le _, rfl, Below.refl _ _, fun j e h => by omega⟩
  case round =>
    obtain ⟨k, hk, rfl, hb, hall⟩ := hrel
    have HA := hid hall
    clear hall
    by_cases hlt : k < x.length
    · obtain ⟨hao', hbw⟩ := hao (by omega)
      subst hao'
      obtain ⟨e, he⟩ : ∃ e, x[k]? = some e := ⟨_, List.getElem?_eq_getElem hlt⟩
      have c0 := eStr_cell (hc.below hb hbw) he
      have hli : (k : Int) < (x.length : Int) := by omega
      have HE := hid he
      have HF := hid (fun w' => hf e w' (List.mem_of_getElem? he))
      clear he hao hf
      have hcf : ∀ (args : Array Value) (w : World), (callFunc c args).run Try.prog w = .ok (.enter c args) w := hen
      cases hq : q e
      · go_wp2_with fail
        refine (HF.out _).mono ?_
        rintro e2 w2 ⟨rfl, hb2⟩
        rw [hq]
        go_wp2
        go_roundw
        case rel =>
          refine ⟨k + 1, by omega, by go_num, hb.trans (hb2.mono hb.size), fun j a hj ha => ?_⟩
          by_cases ej : j = k
          · subst ej; rw [HE.out] at ha; obtain rfl := Option.some.inj ha; exact hq
          · exact HA.out j a (by omega) ha
        case measure => simp [intOf]; omega
      · go_wp2_with fail
        refine (HF.out _).mono ?_
        rintro e2 w2 ⟨rfl, hb2⟩
        rw [hq]
        go_wp2
        go_ret
        exact ret_int (by rw [find_some HE.out hq HA.out]; rfl) (hb.trans (hb2.mono hb.size))
    · have HV := hid (find_none (x := x) (q := q) fun j a hj => HA.out j a (by omega))
      clear hao hf
      go_wp2
      go_ret
      exact ret_int (by rw [HV.out]; rfl) hb
set_option maxHeartbeats 400000 in
theorem containsStr_any (c : FuncId) (q : ByteArray → Bool) (v : Value) (x : List ByteArray) (w : World) (h : Arr eStr w v x) (ok : x.length ≤ 1048576) (hen : Enters c)
    (hf : ∀ (a : ByteArray) (w' : World), a ∈ x → Calls Try.prog c #[.string a] w' (Ret (.bool (q a)) w')) :
    Calls Try.prog 45 #[v, .func (.func c) #[] #[]] w (Ret (.bool (x.any q)) w) := by
  have HF := hid hf
  have HN := hid hen
  clear hf hen
  rw [← pos_any]
  go_enter Try.func45, Try.ntmps45
  go_wp2_with (go_at_call 67; refine (indexStr_any _ _ _ _ _ h ok HN.out HF.out).mono ?_; rintro e w' ⟨rfl, hb⟩)
  go_ret
  exact ret_bool rfl hb
theorem cntClo_any (a : ByteArray) (w : World) (hs : a.size ≤ 9223372036854775807) : Calls Try.prog 46 #[.string a] w (Ret (.bool (!isWordB a)) w) := by
  go_enter Try.func46, Try.ntmps46
  go_wp2_with fail
  refine (implIsWord_any a w hs).mono ?_
  rintro e w' ⟨rfl, hb⟩
  go_wp2_with fail
  go_ret
  exact ret_bool rfl hb
theorem cntClo_enters : Enters 46 := enters_of Try.func46 (by kernel_rfl) rfl
theorem infStrC : (Try.prog.info? 9).map (fun i => (i.zero, i.size, i.bytes)) = some (some (.string ByteArray.empty), eStr.sz, 16) := by kernel_rfl
set_option maxHeartbeats 1000000 in
theorem cloneStrC (v : Value) (x : XStringS) (w : World) (h : Arr eStr w v x) (ok : x.length ≤ 1048576) :
    Calls Try.prog 49 #[v] w fun e w' => ∃ u, e = .returned u ∧ Own eStr 9 w.heap.size w' u x ∧ Below w.heap.size w w' := by
  obtain ⟨b, off, ao, cap, rfl, hnc, hcm, hao, hc⟩ := h
  unfold maxLen at hcm
  have q22 : ∀ (w : World) (a : Option Addr) (n c n' c' : Nat), (binOp .eql 40 (.slice a n c) (.slice none n' c')).run Try.prog w = .ok (.bool a.isNone) w := fun w a n c n' c' => Lib.run_eql_slice_nil w _ _ a n c n' c' Try.underlying40
  cases ao with
  | none =>
    have hx : x = [] := by
      cases x with
      | nil => rfl
      | cons a t => have := (hao (by simp)).1; simp at this
    subst hx
    go_enter Try.func49, Try.ntmps49
    go_wp2
    go_ret
    exact ⟨_, rfl, Own.nil _ _ _, Below.refl _ _⟩
  | some ad =>
    go_enter Try.func49, Try.ntmps49
    go_wp2_with (at_builtin; refine wpList_appE rfl _ _ 40 rfl w.heap.size 9 _ 16 infStrC Try.underlying40 rfl _ _ rfl (Own.empty _ _ (Nat.le_refl _)) ad x.length cap x rfl rfl ?qc2 (by unfold maxLen; simp; omega) (by simp; omega) (by simp) ?_)
    case qc2 =>
      intro j u hu
      have hlen := (List.getElem?_eq_some_iff.1 hu).1
      rw [Enc.flat_len] at hlen
      have hpos : 0 < x.length := by
        cases x with
        | nil => simp at hlen
        | cons a t => simp
      obtain ⟨h1, h2⟩ := hao hpos
      cases h1
      rw [Addr.add_lit]
      exact flat_cells (hc.below (below_alloc w _) h2) j u hu
    intro u w1 ho hb1
    go_wp2
    go_ret
    exact ⟨_, rfl, by simpa using ho, (below_alloc _ _).trans hb1⟩
/-- an entry with how often its word occurs -/
def runE (p : ByteArray × Nat) : DEntry := ⟨p.1, (p.2 : Int)⟩
def fillE (ws : List ByteArray) (sc : Int) (L : List DEntry) (k : Nat) : List DEntry := (L.take k).map (fun e => cntE ws sc e.word) ++ L.drop k
theorem fill_len (ws : List ByteArray) (sc : Int) (L : List DEntry) {k : Nat} (h : k ≤ L.length) : (fillE ws sc L k).length = L.length := by
  unfold fillE; simp; omega
theorem fill_get {ws : List ByteArray} {sc : Int} {L : List DEntry} {k : Nat} {e : DEntry} (h : L[k]? = some e) : (fillE ws sc L k)[k]? = some e := by
  have hk := (List.getElem?_eq_some_iff.1 h).1
  unfold fillE
  rw [List.getElem?_append_right (by simp; omega)]
  simp only [List.length_map, List.length_take, List.getElem?_drop]
  rw [show k + (k - min k L.length) = k by omega, h]
theorem fill_next {ws : List ByteArray} {sc : Int} {L : List DEntry} {k : Nat} {e : DEntry} (h : L[k]? = some e) : (fillE ws sc L k).set k (cntE ws sc e.word) = fillE ws sc L (k + 1) := by
  have hk := (List.getElem?_eq_some_iff.1 h).1
  have hl : ((L.take k).map fun e => cntE ws sc e.word).length = k := by simp; omega
  have e1 : L.drop k = e :: L.drop (k + 1) := by
    rw [List.drop_eq_getElem_cons hk]
    congr 1
    exact (List.getElem?_eq_some_iff.1 h).2
  unfold fillE
  rw [List.set_append_right (h := by omega), hl, Nat.sub_self, e1, List.set_cons_zero, List.take_add_one, h]
  simp
theorem fill_all {ws : List ByteArray} {sc : Int} {L : List DEntry} : fillE ws sc L L.length = L.map fun e => cntE ws sc e.word := by
  unfold fillE; simp
/-- the cost of one entry is stored -/
theorem own_cost {B g n cap k : Nat} {w : World} {L : List DEntry} (h : Own eEntry 75 B w (.slice (some ⟨g, 0, none⟩) n cap) L) (hn : n = L.length) {e : DEntry} (he : L[k]? = some e) (c : Int) :
    Own eEntry 75 B (w.setCell ⟨g, k * 2 + 1, none⟩ (.int .i64 c)) (.slice (some ⟨g, 0, none⟩) n cap) (L.set k ⟨e.word, c⟩) := by
  subst hn
  have hk := (List.getElem?_eq_some_iff.1 he).1
  have h1 := (World.ownsRow.stored h (k * 2 + 1) (.int .i64 c)).1
  have h2 : (eEntry.flat L).set (k * 2 + 1) (.int .i64 c) = eEntry.flat (L.set k ⟨e.word, c⟩) := by
    rw [Enc.flat_set eEntry L k _ hk]
    have h3 : (eEntry.flat L)[k * 2]? = some (.string e.word) := eEntry.flat_get L k e 0 he (by decide)
    refine List.ext_getElem? fun i => ?_
    rw [setFrom_get, List.getElem?_set]
    have hl : (eEntry.flat L).length = L.length * 2 := eEntry.flat_len L
    have hr : (eEntry.row ⟨e.word, c⟩) = [.string e.word, .int .i64 c] := rfl
    have hz : eEntry.sz = 2 := rfl
    rw [hl, hr, hz]
    by_cases h4 : i = k * 2
    · subst h4
      rw [if_neg (by omega), h3]
      simp
    · by_cases h5 : i = k * 2 + 1
      · subst h5
        rw [if_pos rfl, if_pos (by omega)]
        simp
        omega
      · rw [if_neg (by omega)]
        simp
        omega
  unfold Own
  rw [List.length_set, ← h2]
  exact h1
theorem Box.later_set {w : World} {q g o : Nat} {cs : Array Value} {T : TypeId} {u : Value} (h : Box w q cs T) (hne : q ≠ g) : Box (w.setCell ⟨g, o, none⟩ u) q cs T := by
  unfold Box at *
  rw [Below.heap_setCell _ _ _ _ (by exact hne)]
  exact h
/-- the inner loop's count -/
def RunAt (S : List ByteArray) (k0 : Nat) (a : ByteArray) (n k : Nat) : Prop := (n = 0 ∧ k = k0) ∨ (0 < n ∧ runsS (S.drop k0) = addRun a n (runsS (S.drop k)))
theorem RunAt.step {S : List ByteArray} {k0 : Nat} {a : ByteArray} {n k : Nat} (h : RunAt S k0 a n k) (hk : S[k]? = some a) : RunAt S k0 a (n + 1) (k + 1) := by
  right
  refine ⟨Nat.succ_pos _, ?_⟩
  rcases h with ⟨rfl, rfl⟩ | ⟨_, h⟩
  · rw [runs_drop hk]
  · rw [h, runs_drop hk, addRun_two]
theorem RunAt.fin {S : List ByteArray} {k0 : Nat} {a : ByteArray} {n k : Nat} (h : RunAt S k0 a n k) (h0 : 0 < n) (hk : ∀ b, S[k]? = some b → eqS b a = false) : runsS (S.drop k0) = (a, n) :: runsS (S.drop k) := by
  rcases h with ⟨rfl, _⟩ | ⟨_, h⟩
  · omega
  · rw [h, addRun_end hk]
set_option maxHeartbeats 8000000 in
set_option maxRecDepth 100000 in
theorem implCountCosts_any (v : Value) (ws : XStringS) (sc : Int) (w : World) {lo hi : Nat} (h : rStringS.at_ lo hi w v ws) (ok : okStringS ws) (g : goodStringS ws) :
    Calls Try.prog 17 #[v, .int .i64 sc] w (RetNew rLexicon (cntLx ws sc) #[.int .i64 (cntC ws sc)] w) := by
  have hA := rStringS_arr h
  have ok' : ws.length ≤ 1048576 := ok
  obtain ⟨ao, cap, hvv⟩ := hA.isSlice
  subst hvv
  obtain ⟨W, hW⟩ : ∃ u, u = (w.alloc (.cells #[.slice none 0 0] 44)) := ⟨_, rfl⟩
  have hbW : Below w.heap.size w W := by rw [hW]; exact belowA1 _ _
  have q1 : Box W (w.heap.size) #[.slice none 0 0] 44 := by
    have hq := Box.new w #[.slice none 0 0] 44
    rw [hW]
    exact hq
  obtain ⟨p1, hp1⟩ : ∃ p, p = w.heap.size := ⟨_, rfl⟩
  rw [← hp1] at q1
  have hge1 : w.heap.size ≤ p1 := by omega
  have hlW : w.heap.size ≤ W.heap.size := hbW.size
  have hlp1 : p1 < W.heap.size := q1.lt
  have HP1 := hid hp1
  have HW := hid hW
  clear hW hp1
  have hAW := hA.below hbW
  have finish : ∀ (w' : World) (u : Value) (z : XLexicon) (c : Int), Hid (cntLx ws sc = z ∧ cntC ws sc = c) → Own eEntry 75 w.heap.size w' u z → Below w.heap.size w w' → RetNew rLexicon (cntLx ws sc) #[.int .i64 (cntC ws sc)] w (.returned (.tuple #[.agg #[u], .int .i64 c])) w' := by
    intro w' u z c hz ho hb
    rw [hz.out.1, hz.out.2]
    exact ⟨_, rfl, rLxC_new ho (Nat.le_refl _), hb⟩
  have HI : ∀ w', Calls Try.prog 48 #[.int .i64 sc] w' fun en w'' => en = .returned (.bool (inB sc 0 1000000)) ∧ w' = w'' := fun w' => isCost_any sc w'
  have CV := containsStr_any _ (fun a => !isWordB a) _ ws W hAW ok' cntClo_enters fun a w' ha => cntClo_any a w' (g a ha)
  have hany : ws.any (fun a => !isWordB a) = !(ws.all isWordB) := by rw [List.all_eq_not_any_not]; simp
  rw [hany] at CV
  cases hv : ws.all isWordB
  · have HZ : Hid (cntLx ws sc = [] ∧ cntC ws sc = 7) := by show _ ∧ _; simp [cntLx, cntC, cntOk, hv]
    rw [hv] at CV
    go_enter Try.func17, Try.ntmps17
    go_wp2_with fail
    rw [← HP1.out, ← HW.out]
    refine CV.mono ?_
    rintro en w2 ⟨rfl, hb⟩
    have q1' := q1.later hb
    have b0 := q1'.cell (j := 0) rfl
    have bf := q1'.free
    go_wp2_with fail
    refine bodyPost_ret (v := .tuple #[.agg #[.slice none 0 0], .int .i64 7]) (by simp [results, Try.results17, go_sem, b0]) rfl (finish _ _ _ _ HZ (Own.nil _ _ _) ?_)
    exact (hbW.trans (hb.mono hlW)).setCell hge1 _
  rw [hv] at CV
  have HALL := hid hv
  clear hv hany
  cases hin : inB sc 0 1000000
  · have HZ : Hid (cntLx ws sc = [] ∧ cntC ws sc = 2) := by show _ ∧ _; simp [cntLx, cntC, cntOk, HALL.out, hin]
    rw [hin] at HI
    go_enter Try.func17, Try.ntmps17
    go_wp2_with fail
    rw [← HP1.out, ← HW.out]
    refine CV.mono ?_
    rintro en w2 ⟨rfl, hb⟩
    have q1' := q1.later hb
    have b0 := q1'.cell (j := 0) rfl
    have bf := q1'.free
    go_wp2_with (go_at_call 48; refine (HI _).mono ?_; rintro en w' ⟨rfl, rfl⟩)
    refine bodyPost_ret (v := .tuple #[.agg #[.slice none 0 0], .int .i64 2]) (by simp [results, Try.results17, go_sem, b0]) rfl (finish _ _ _ _ HZ (Own.nil _ _ _) ?_)
    exact (hbW.trans (hb.mono hlW)).setCell hge1 _
  rw [hin] at HI
  obtain ⟨hs0, hs1⟩ := inB_true.1 hin
  have HIN := hid hin
  clear hin
  obtain ⟨S, hS⟩ : ∃ S, S = srtS ws := ⟨_, rfl⟩
  have HSP := hid (show S.Perm ws by rw [hS]; exact srt_perm ws)
  have HRD := hid (show runsS S = (difS ws).map fun a => (a, timesS ws a) by rw [hS]; exact runs_dif (srt_perm ws) (srt_sorted ws))
  have HMR := hid (show maxN ((runsS S).map (·.2)) = mostS ws by rw [hS]; exact most_runs (srt_perm ws) (srt_sorted ws))
  have hsl : S.length ≤ 1048576 := by have := HSP.out.length_eq; omega
  have HS := hid hS
  go_enter Try.func17, Try.ntmps17
  go_wp2_with fail
  rw [← HP1.out, ← HW.out]
  refine CV.mono ?_
  rintro en w2 ⟨rfl, hb⟩
  go_wp2_with (go_at_call 48; refine (HI _).mono ?_; rintro en w' ⟨rfl, rfl⟩)
  refine (cloneStrC _ ws w2 (hAW.below hb) ok').mono ?_
  rintro en w3 ⟨us, rfl, ho3, hb3⟩
  have hs23 := hb3.size
  go_wp2_with fail
  refine (sortStr_any us w2.heap.size ws w3 ho3 ok' hs23).mono ?_
  rintro en w4 ⟨rfl, ho4, hb4⟩
  rw [← hS] at ho4
  have hbs := hb.size
  have hb34 : Below W.heap.size W w4 := hb.trans (((hb3.trans hb4)).mono hbs)
  have bx4 := q1.later hb34
  have hbE := hbW.trans (hb34.mono hlW)
  have hAS := ho4.arr
  obtain ⟨sb, soff, sao, scap, hsv, hsnc, hscm, hsao, hsc⟩ := hAS
  subst hsv
  unfold maxLen at hscm
  clear CV HI hS ho3 hb3 hb4 hb q1 hAW
  go_wp2_with fail
  obtain ⟨q, hq⟩ : ∃ q, q = w4.heap.size := ⟨_, rfl⟩
  obtain ⟨w5, hw5⟩ : ∃ u, u = w4.alloc (.cells #[.slice none 0 0] 44) := ⟨_, rfl⟩
  rw [← hw5, ← hq]
  have hx5 : FinC q w5 [] w5 := by rw [hw5, hq]; exact ⟨_, Box.new _ _ _, Own.nil _ _ _, Below.refl _ _⟩
  have hb5 : Below w4.heap.size w4 w5 := by rw [hw5]; exact below_alloc _ _
  have bx5 := bx4.later hb5
  have hp1q : p1 < q := by have := bx4.lt; omega
  have hwq : w.heap.size ≤ q := by have := hbE.size; omega
  have hbE5 := hbE.trans (hb5.mono (by omega))
  have hsbq : ∀ (u : World), Below q w5 u → ∀ (k : Nat) (a : ByteArray), S[k]? = some a → 0 < S.length → sao = some ⟨sb, soff, none⟩ ∧ u.cell? ⟨sb, soff + k, none⟩ = some (.string a) := fun u hb k a ha h0 => by
    obtain ⟨h1, h2⟩ := hsao h0
    have h3 := below_cell hb5 h2 (eStr_cell hsc ha)
    exact ⟨h1, below_cell hb (by omega) h3⟩
  have HSB := hid hsbq
  clear hw5 hq hsbq hsao hsc ho4 bx4
  go_loopw [8, 9] (fun m i wr => ∃ (k : Nat) (done : List (ByteArray × Nat)), k ≤ S.length ∧ i = .int .i64 k ∧ m = .int .i64 (maxN (done.map (·.2))) ∧ Hid (runsS S = done ++ runsS (S.drop k)) ∧ done.length ≤ k ∧ FinC q w5 (done.map runE) wr) (fun _ i _ => S.length - (intOf i).toNat)
  case atStart => exact ⟨0, [], Nat.zero_le _, rfl, rfl, hid (by simp), Nat.le_refl _, hx5⟩
  case round =>
    clear hx5
    obtain ⟨k, done, hk, rfl, rfl, HR, hdk, hx⟩ := hrel
    obtain ⟨M, hM⟩ : ∃ M, M = maxN (done.map (·.2)) := ⟨_, rfl⟩
    have hML : M ≤ S.length := by
      rw [hM]
      refine maxN_le fun x hx => ?_
      obtain ⟨p, hp, rfl⟩ := List.mem_map.1 hx
      have h1 : p ∈ runsS S := by rw [HR.out]; exact List.mem_append_left _ hp
      rw [HRD.out] at h1
      obtain ⟨a, _, rfl⟩ := List.mem_map.1 h1
      have := times_le ws a
      have := HSP.out.length_eq
      show timesS ws a ≤ S.length
      omega
    rw [← hM]
    have HM := hid hM
    clear hM
    by_cases hlt : k < S.length
    · have hli : (k : Int) < (S.length : Int) := by omega
      obtain ⟨a, ha⟩ : ∃ a, S[k]? = some a := ⟨_, List.getElem?_eq_getElem hlt⟩
      obtain ⟨u, hbx, hoE, hbl⟩ := hx
      obtain ⟨hsao', c0⟩ := HSB.out wr hbl k a ha (by omega)
      subst hsao'
      have HA := hid ha
      obtain ⟨oa, oc, hu⟩ := hoE.isSlice
      rw [List.length_map] at hu
      subst hu
      have a1 := hbx.cell (j := 0) rfl
      have HBX := hid hbx
      have HOE := hid hoE
      have HBL := hid hbl
      clear ha hbx hoE hbl
      go_wp2_with fail
      go_loopw [9, 10] (fun i n wi => ∃ (j c : Nat), j ≤ S.length ∧ k ≤ j ∧ i = .int .i64 j ∧ n = .int .i64 c ∧ c = j - k ∧ wr = wi ∧ Hid (RunAt S k a c j)) (fun i _ _ => S.length - (intOf i).toNat)
      case atStart => exact ⟨k, 0, hk, Nat.le_refl _, rfl, rfl, by omega, rfl, hid (.inl ⟨rfl, rfl⟩)⟩
      case round =>
        obtain ⟨j, c, hj, hkj, rfl, rfl, hcj, rfl, HRA⟩ := hrel
        have hcS : c ≤ 1048576 := by omega
        have HCJ := hid hcj
        clear hcj
        by_cases hjl : j < S.length
        · have hji : (j : Int) < (S.length : Int) := by omega
          obtain ⟨b, hb⟩ : ∃ b, S[j]? = some b := ⟨_, List.getElem?_eq_getElem hjl⟩
          obtain ⟨_, cj⟩ := HSB.out wr HBL.out j b hb (by omega)
          cases hq : eqS b a
          · have hq' : (b.toList == a.toList) = false := hq
            have hc0 : 0 < c := by
              rcases Nat.eq_zero_or_pos c with h0 | h0
              · exfalso
                have hjk : j = k := by have := HCJ.out; omega
                subst hjk
                rw [HA.out] at hb
                obtain rfl := Option.some.inj hb
                rw [eqS_iff.2 rfl] at hq; cases hq
              · exact h0
            have HFIN := hid (HRA.out.fin hc0 (fun b' hb' => by rw [hb] at hb'; obtain rfl := Option.some.inj hb'; exact hq))
            clear hb hq
            obtain ⟨M', hM'⟩ : ∃ M', M' = max M c := ⟨_, rfl⟩
            have HMX := hid (show maxN ((done ++ [(a, c)]).map (·.2)) = M' by rw [List.map_append]; show maxN (done.map (·.2) ++ [c]) = M'; rw [maxN_snoc, ← HM.out, hM'])
            have HRX := hid (show runsS S = (done ++ [(a, c)]) ++ runsS (S.drop j) by rw [HR.out, HFIN.out, List.append_assoc]; rfl)
            have HDX := hid (show done.map runE ++ [(⟨a, (c : Int)⟩ : DEntry)] = (done ++ [(a, c)]).map runE by rw [List.map_append]; rfl)
            have hrq : q + 1 ≤ wr.heap.size := HBX.out.lt
            have hdl : (done.map runE).length = done.length := List.length_map _
            have HM' := hid hM'
            clear hM'
            go_wp2_with (at_builtin; refine wpList_appA rfl _ _ 42 rfl (q + 1) 75 _ 24 infEntC Try.underlying42 rfl _ (done.map runE) (by rfl) (HOE.out.alloc _) _ [(⟨a, (c : Int)⟩ : DEntry)] (by rfl) (arr_block (E := eEntry) (n := 1) [(⟨a, (c : Int)⟩ : DEntry)] #[.string a, .int .i64 c] rfl rfl (by decide)) (by unfold maxLen; simp <;> omega) (by simp <;> omega) (by simp <;> omega) ?_)
            intro u1 w1 ho1 hb1 _
            obtain ⟨ua, uc, hu1⟩ := ho1.isSlice
            rw [HDX.out] at hu1 ho1
            rw [show ((done ++ [(a, c)]).map runE).length = done.length + 1 by simp] at hu1
            subst hu1
            have bx1 := (HBX.out.alloc (.cells #[.string a, .int .i64 c] 75)).below hb1 (Nat.lt_succ_self q)
            have f0 := bx1.cell (j := 0) rfl
            have ff := bx1.free
            have HF1 := hid (show FinC q w5 ((done ++ [(a, c)]).map runE) (w1.setCell ⟨q, 0, none⟩ (.slice ua (done.length + 1) uc)) from ⟨_, bx1.set 0 _, ho1.setBelow (Nat.lt_succ_self q) _, ((HBL.out.alloc (by omega) _).trans (hb1.mono (Nat.le_succ q))).setCell (Nat.le_refl _) _⟩)
            clear ho1 hb1
            go_wp2_with fail
            all_goals go_roundw
            all_goals first | exact ⟨j, done ++ [(a, c)], by omega, rfl, by rw [HMX.out, HM'.out]; exact congrArg _ (by omega), HRX, by have := HCJ.out; simp; omega, HF1.out⟩ | (have := HCJ.out; simp [intOf]; omega)
          · have hq' : (b.toList == a.toList) = true := hq
            have hba : b = a := eqS_iff.1 hq
            have HST := hid (HRA.out.step (by rw [← hba]; exact hb))
            clear hb hq hba
            go_wp2_with fail
            go_roundw
            case rel => exact ⟨j + 1, c + 1, by omega, by omega, by go_num, by go_num, by have := HCJ.out; omega, by trivial, HST⟩
            case measure => simp [intOf]; omega
        · obtain rfl : j = S.length := by omega
          have hji : ¬ ((S.length : Int) < (S.length : Int)) := by omega
          have hc0 : 0 < c := by have := HCJ.out; omega
          have HFIN := hid (HRA.out.fin hc0 (fun b' hb' => by have := (List.getElem?_eq_some_iff.1 hb').1; omega))
          obtain ⟨M', hM'⟩ : ∃ M', M' = max M c := ⟨_, rfl⟩
          have HMX := hid (show maxN ((done ++ [(a, c)]).map (·.2)) = M' by rw [List.map_append]; show maxN (done.map (·.2) ++ [c]) = M'; rw [maxN_snoc, ← HM.out, hM'])
          have HRX := hid (show runsS S = (done ++ [(a, c)]) ++ runsS (S.drop S.length) by rw [HR.out, HFIN.out, List.append_assoc]; rfl)
          have HDX := hid (show done.map runE ++ [(⟨a, (c : Int)⟩ : DEntry)] = (done ++ [(a, c)]).map runE by rw [List.map_append]; rfl)
          have hrq : q + 1 ≤ wr.heap.size := HBX.out.lt
          have hdl : (done.map runE).length = done.length := List.length_map _
          have HM' := hid hM'
          clear hM'
          go_wp2_with (at_builtin; refine wpList_appA rfl _ _ 42 rfl (q + 1) 75 _ 24 infEntC Try.underlying42 rfl _ (done.map runE) (by rfl) (HOE.out.alloc _) _ [(⟨a, (c : Int)⟩ : DEntry)] (by rfl) (arr_block (E := eEntry) (n := 1) [(⟨a, (c : Int)⟩ : DEntry)] #[.string a, .int .i64 c] rfl rfl (by decide)) (by unfold maxLen; simp <;> omega) (by simp <;> omega) (by simp <;> omega) ?_)
          intro u1 w1 ho1 hb1 _
          obtain ⟨ua, uc, hu1⟩ := ho1.isSlice
          rw [HDX.out] at hu1 ho1
          rw [show ((done ++ [(a, c)]).map runE).length = done.length + 1 by simp] at hu1
          subst hu1
          have bx1 := (HBX.out.alloc (.cells #[.string a, .int .i64 c] 75)).below hb1 (Nat.lt_succ_self q)
          have f0 := bx1.cell (j := 0) rfl
          have ff := bx1.free
          have HF1 := hid (show FinC q w5 ((done ++ [(a, c)]).map runE) (w1.setCell ⟨q, 0, none⟩ (.slice ua (done.length + 1) uc)) from ⟨_, bx1.set 0 _, ho1.setBelow (Nat.lt_succ_self q) _, ((HBL.out.alloc (by omega) _).trans (hb1.mono (Nat.le_succ q))).setCell (Nat.le_refl _) _⟩)
          clear ho1 hb1
          go_wp2_with fail
          all_goals go_roundw
          all_goals first | exact ⟨S.length, done ++ [(a, c)], by omega, rfl, by rw [HMX.out, HM'.out]; exact congrArg _ (by omega), HRX, by have := HCJ.out; simp; omega, HF1.out⟩ | (have := HCJ.out; simp [intOf]; omega)
    · obtain rfl : k = S.length := by omega
      have hli : ¬ ((S.length : Int) < (S.length : Int)) := by omega
      have hdone : runsS S = done := by
        have h1 := HR.out
        rw [List.drop_length] at h1
        simpa [runsS] using h1
      have hMm : M = mostS ws := by rw [HM.out, ← hdone]; exact HMR.out
      have hdR : done = (difS ws).map fun a => (a, timesS ws a) := by rw [← hdone]; exact HRD.out
      obtain ⟨L, hL⟩ : ∃ L, L = done.map runE := ⟨_, rfl⟩
      have hLL : L = (difS ws).map fun a => (⟨a, (timesS ws a : Int)⟩ : DEntry) := by rw [hL, hdR, List.map_map]; rfl
      have hLl : L.length = (difS ws).length := by rw [hLL, List.length_map]
      rw [← hL] at hx
      obtain ⟨u, hbx, hoE, hbl⟩ := hx
      obtain ⟨oa, oc, hu⟩ := hoE.isSlice
      subst hu
      have a1 := hbx.cell (j := 0) rfl
      have bxr := bx5.below hbl hp1q
      have b0 := bxr.cell (j := 0) rfl
      have bf := bxr.free
      have hbr := hbE5.trans (hbl.mono hwq)
      have hLm : ∀ e ∈ L, e.word ∈ ws ∧ e.cost = (timesS ws e.word : Int) := fun e he => by
        rw [hLL] at he
        obtain ⟨a, ha, rfl⟩ := List.mem_map.1 he
        exact ⟨(difS_mem ws a).1 ha, rfl⟩
      have HLM := hid hLm
      have HMM := hid hMm
      clear hL hdR hdone hLm hMm
      by_cases h60 : L.length ≤ 60
      case neg =>
        have HZ : Hid (cntLx ws sc = [] ∧ cntC ws sc = 5) := by
          have : ¬ (difS ws).length ≤ 60 := by omega
          show _ ∧ _; simp [cntLx, cntC, cntOk, HALL.out, HIN.out, this]
        have h60i : (60 : Int) < (L.length : Int) := by omega
        clear hLL hLl
        go_wp2_with fail
        refine bodyPost_ret (v := .tuple #[.agg #[.slice none 0 0], .int .i64 5]) (by simp [results, Try.results17, go_sem, b0]) rfl (finish _ _ _ _ HZ (Own.nil _ _ _) ?_)
        exact hbr.setCell hge1 _
      have HZ : Hid (cntLx ws sc = L.map (fun e => cntE ws sc e.word) ∧ cntC ws sc = 0) := by
        show _ ∧ _
        have h1 : (difS ws).length ≤ 60 := by omega
        have : cntOk ws sc = true := by unfold cntOk; rw [HALL.out, HIN.out]; simpa using h1
        refine ⟨by unfold cntLx; rw [if_pos this, hLL, List.map_map]; rfl, by simp [cntC, HALL.out, HIN.out, h1]⟩
      have h60i : ¬ ((60 : Int) < (L.length : Int)) := by omega
      clear hLL hLl b0 bf bxr
      go_wp2_with fail
      go_loopw [68] (fun i wq => ∃ k : Nat, k ≤ L.length ∧ i = .int .i64 k ∧ Box wq q #[.slice oa L.length oc] 44 ∧ Own eEntry 75 (q + 1) wq (.slice oa L.length oc) (fillE ws sc L k) ∧ Below q w5 wq) (fun i _ => L.length - (intOf i).toNat)
      case atStart => exact ⟨0, Nat.zero_le _, rfl, hbx, by simpa [fillE] using hoE, hbl⟩
      case round =>
        clear hbx hoE hbl a1
        obtain ⟨k, hk, rfl, hbx, hoE, hbl⟩ := hrel
        by_cases hlt : k < L.length
        · have hli : (k : Int) < (L.length : Int) := by omega
          obtain ⟨e, he⟩ : ∃ e, L[k]? = some e := ⟨_, List.getElem?_eq_getElem hlt⟩
          have hfl := fill_len ws sc L hk
          have hfg := fill_get (ws := ws) (sc := sc) he
          obtain ⟨ew, ec⟩ := HLM.out e (List.mem_of_getElem? he)
          rcases hoE.shape with ⟨hn, h0⟩ | ⟨gg, cc, hn, hgB, hgl⟩
          · rw [h0] at hfl; simp at hfl; omega
          simp only [Value.slice.injEq] at hn
          obtain ⟨rfl, hx1, rfl⟩ := hn
          clear hx1
          have hgg := hoE.lt
          obtain ⟨b', off', ao', cap', hv', hnc', hcm', hao2, hcc⟩ := hoE.arr
          simp only [Value.slice.injEq] at hv'
          obtain ⟨rfl, hx1, rfl⟩ := hv'
          clear hx1
          have h9 := (hao2 (by omega)).1
          cases h9
          obtain ⟨c0, c1⟩ := eEntry_cells hcc hfg
          rw [Nat.zero_add] at c0 c1
          have htl := most_ge ew
          have htp := times_pos ew
          rw [ec] at c1
          obtain ⟨T, hTe⟩ : ∃ T, T = timesS ws e.word := ⟨_, rfl⟩
          rw [← hTe] at c1 htl htp
          rw [← HMM.out] at htl
          obtain ⟨d, hd⟩ : ∃ d : Int, d = (M : Int) - (T : Int) := ⟨_, rfl⟩
          have hd0 : 0 ≤ d ∧ d ≤ 1048576 := by omega
          have hP := mul_bd hs0 hs1 hd0.1 hd0.2
          obtain ⟨P, hPe⟩ : ∃ P, P = sc * d := ⟨_, rfl⟩
          rw [← hPe] at hP
          obtain ⟨C, hCe⟩ : ∃ C, C = P.tdiv (M : Int) := ⟨_, rfl⟩
          have hC0 : 0 ≤ C ∧ C ≤ P := by
            rw [hCe]
            refine ⟨Int.tdiv_nonneg hP.1 (by omega), ?_⟩
            rw [Int.tdiv_eq_ediv_of_nonneg hP.1]
            exact Int.ediv_le_self _ hP.1
          have HCE : Hid (cntE ws sc e.word = ⟨e.word, C⟩) := hid (by unfold cntE cntCost; rw [← HMM.out, ← hTe, ← hd, ← hPe, ← hCe])
          have w14 : IntKind.i64.wrap ((M : Int) - (T : Int)) = d := by rw [← hd]; exact IntWalk.i64_in _ (by omega)
          have w15 : IntKind.i64.wrap (sc * d) = P := by rw [← hPe]; exact IntWalk.i64_in _ (by omega)
          have w17 : IntKind.i64.wrap (P.tdiv (M : Int)) = C := by rw [← hCe]; exact IntWalk.i64_in _ (by omega)
          have v14 : wrap64 ((M : Int) - (T : Int)) = d := by rw [← hd]; unfold wrap64; omega
          have v15 : wrap64 (sc * d) = P := by rw [← hPe]; unfold wrap64; omega
          have v17 : wrap64 (P.tdiv (M : Int)) = C := by rw [← hCe]; unfold wrap64; omega
          have hMn : ¬ (M = 0) := by omega
          have hMz : ¬ ((M : Int) = 0) := by omega
          have HNX := hid (fill_next (ws := ws) (sc := sc) he)
          have HSET := hid (own_cost (hoE.alloc (.cells #[.string e.word, .int .i64 T] 75)) hfl.symm hfg C)
          have HBX := hid hbx
          have HBL := hid hbl
          have f1 := hbx.cell (j := 0) rfl
          have hlq := hbx.lt
          have fr := hoE.free hfl.symm
          have HFL := hid hfl.symm
          have HOEA := hid (hoE.alloc (.cells #[.string e.word, .int .i64 T] 75))
          have g0 := cell_alloc c0 (.cells #[.string e.word, .int .i64 T] 75)
          have g1 := cell_alloc c1 (.cells #[.string e.word, .int .i64 T] 75)
          have g2 := cell_alloc f1 (.cells #[.string e.word, .int .i64 T] 75)
          clear he hfg ew ec hTe hd hPe hCe hoE hbx hbl hcc hao2 hfl hnc'
          go_wp2_with fail
          obtain ⟨pe, hpe⟩ : ∃ pe, pe = wr.heap.size := ⟨_, rfl⟩
          obtain ⟨w1, hw1⟩ : ∃ w1, w1 = wr.alloc (.cells #[.string e.word, .int .i64 T] 75) := ⟨_, rfl⟩
          have z1 : w1.cell? ⟨pe, 1, none⟩ = some (.int .i64 T) := by rw [hw1, hpe]; simp
          have fr1 : ∀ o, w1.frozen? ⟨gg, o, none⟩ = false := fun o => by
            rw [hw1]; exact HOEA.out.free HFL.out o
          have HBX1 := hid (HBX.out.alloc (.cells #[.string e.word, .int .i64 T] 75))
          have HBL1 := hid (HBL.out.alloc (Nat.le_of_lt hlq) (.cells #[.string e.word, .int .i64 T] 75))
          rw [← hw1] at g0 g1 g2 HSET HBX1 HBL1
          rw [← hw1, ← hpe]
          clear hw1 hpe fr c0 c1 f1
          refine wp_region_still_tail 13 (by kernel_rfl) (by kernel_rfl) ?_
          simp only [List.take_succ_cons, List.take_zero, List.drop_succ_cons, List.drop_zero]
          repeat (first | still_step)
          refine wpStill_nil ?_
          change wpList _ _ _ _ _ (World.drew _)
          go_wp2_with fail
          go_roundw
          case rel =>
            refine ⟨k + 1, by omega, by go_num, ?_, ?_, ?_⟩
            · exact Box.later_set HBX1.out (by omega)
            · rw [← HNX.out, HCE.out]; exact HSET.out
            · refine (HBL1.out.setCell ?_ _).drew
              show q ≤ gg
              omega
          case measure => simp [intOf]; omega
        · obtain rfl : k = L.length := by omega
          have hli : ¬ ((L.length : Int) < (L.length : Int)) := by omega
          have bxr := bx5.below hbl hp1q
          have b0 := bxr.cell (j := 0) rfl
          have bf := bxr.free
          have a1 := hbx.cell (j := 0) rfl
          rw [fill_all] at hoE
          have hbr5 := hbE5.trans (hbl.mono hwq)
          go_wp2_with fail
          refine bodyPost_ret (v := .tuple #[.agg #[.slice oa L.length oc], .int .i64 0]) (by simp [results, Try.results17, go_sem, b0]) rfl (finish _ _ _ _ HZ ((hoE.setBelow (a := ⟨p1, 0, none⟩) (by show p1 < q + 1; omega) _).mono (by omega)) ?_)
          exact hbr5.setCell hge1 _
end Go.Proofs.Ythooeaappnkjgaa
