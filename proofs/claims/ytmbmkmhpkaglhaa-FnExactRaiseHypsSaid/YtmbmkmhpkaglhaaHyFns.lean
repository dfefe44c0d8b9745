/- The first hypothesis, the margin, the cost of a label: what the calls return. -/
import Derived.Test.YtmbmkmhpkaglhaaHyValid2
import Derived.Test.YtmbmkmhpkaglhaaApp2
import Derived.IntWalk
namespace Go.Proofs.Ytmbmkmhpkaglhaa
open Go.RowKit

def hy0 : DHyp := ⟨ByteArray.empty, 0⟩
def bestHy (x : List DHyp) : DHyp := if validHy x then x.headD hy0 else hy0
def bestC (x : List DHyp) : Int := if validHy x then (if x.length = 0 then 3 else 0) else 1
def marginHy (x : List DHyp) : Int := if validHy x then (match x with | a :: b :: _ => b.cost - a.cost | _ => 0) else 0
def marginC (x : List DHyp) : Int := if validHy x then (if x.length < 2 then 6 else 0) else 1
def isLab (s : ByteArray) (e : DHyp) : Bool := eqS e.label s
def costHy (x : List DHyp) (s : ByteArray) : Int := if validHy x then (match x.findIdx? (isLab s) with | none => 0 | some k => (x.getD k hy0).cost) else 0
def costC (x : List DHyp) (s : ByteArray) : Int := if validHy x then (match x.findIdx? (isLab s) with | none => 3 | some _ => 0) else 1
theorem find_get {α : Type} {x : List α} {q : α → Bool} {k : Nat} (h : x.findIdx? q = some k) : ∃ e, x[k]? = some e := by
  rw [List.findIdx?_eq_some_iff_getElem] at h
  obtain ⟨hk, _, _⟩ := h
  exact ⟨x[k], List.getElem?_eq_getElem hk⟩
theorem hy_bd {x : List DHyp} (h : validHy x = true) {k : Nat} {e : DHyp} (he : x[k]? = some e) : 0 ≤ e.cost ∧ e.cost ≤ 1000000 := by
  cases hi : inB e.cost 0 1000000 with
  | true => exact inB_true.1 hi
  | false => rw [allHy_at he (by simp [hyOk, hi])] at h; cases h

set_option maxHeartbeats 1000000 in
theorem specBestHyp_any (v : Value) (x : XHypS) (w : World) {lo hi : Nat} (h : rHypS.at_ lo hi w v x) (ok : okHypS x) (g : goodHypS x) :
    Calls Try.prog 14 #[v] w (Ret (.tuple #[.agg #[.string (bestHy x).label, .int .i64 (bestHy x).cost], .int .i64 (bestC x)]) w) := by
  have hR := h
  replace h := rHypS_arr h
  obtain ⟨sa, sc, hv⟩ := h.isSlice
  subst hv
  obtain ⟨W, hW⟩ : ∃ W, W = w.alloc (.cells #[.string ⟨#[]⟩, .int .i64 0] 30) := ⟨_, rfl⟩
  have hbW : Below w.heap.size w W := by rw [hW]; exact below_alloc _ _
  have q : Box W w.heap.size #[.string ⟨#[]⟩, .int .i64 0] 30 := by rw [hW]; exact Box.new _ _ _
  have hA := h.below hbW
  have hRW := rHypS.at_below hR hbW
  obtain ⟨p, hp⟩ : ∃ p, p = w.heap.size := ⟨_, rfl⟩
  rw [← hp] at q
  have hge : w.heap.size ≤ p := by omega
  have HP := hid hp
  have HW := hid hW
  clear hp hW h hR
  have key : ∀ b, validHy x = b → ∀ c, (x.length = 0 ↔ c = true) → Calls Try.prog 14 #[.slice sa x.length sc] w (Ret (.tuple #[.agg #[.string (bestHy x).label, .int .i64 (bestHy x).cost], .int .i64 (bestC x)]) w) := by
    intro b hvb c hc
    cases b
    · have HB : Hid (bestHy x = hy0 ∧ bestC x = 1) := by show _ ∧ _; simp [bestHy, bestC, hvb]
      go_enter Try.func14, Try.ntmps14
      go_wp2_with fail
      rw [← HP.out, ← HW.out]
      refine (l13Ok_any _ x _ hA ok g).mono ?_
      rintro e w2 ⟨rfl, hb⟩
      rw [hvb]
      have q' := q.later hb
      have b0 := q'.cell (j := 0) rfl
      have b1 := q'.cell (j := 1) rfl
      have bf := q'.free
      go_wp2_with fail
      refine bodyPost_ret (v := .tuple #[.agg #[.string ⟨#[]⟩, .int .i64 0], .int .i64 1]) (by simp [results, Try.results14, go_sem, b0, b1]) rfl (ret_ret (by rw [HB.out.1, HB.out.2]; rfl) ?_)
      exact ((hbW.trans (hb.mono hbW.size)).setCell hge _).setCell hge _
    · cases c
      · have hl : 0 < x.length := by
          rcases Nat.eq_zero_or_pos x.length with h0 | h0
          · have := hc.1 h0; cases this
          · exact h0
        obtain ⟨a, ha⟩ : ∃ a, x[0]? = some a := ⟨_, List.getElem?_eq_getElem hl⟩
        have HB : Hid (bestHy x = a ∧ bestC x = 0) := by
          show _ ∧ _
          have h1 : x.length ≠ 0 := by omega
          have h2 : x.headD hy0 = a := by
            cases x with
            | nil => simp at hl
            | cons y ys => simpa using ha
          rw [bestHy, bestC, hvb]
          exact ⟨h2, if_neg h1⟩
        have hli : (0 : Int) < (x.length : Int) := by omega
        have hne : ((x.length : Int) == 0) = false := by rw [beq_eq_false_iff_ne]; omega
        clear hc
        obtain ⟨b, off, ao, cap, hv, hnc, hcm, hao, hcc⟩ := hA
        simp only [Value.slice.injEq, true_and] at hv
        obtain ⟨rfl, rfl⟩ := hv
        obtain ⟨rfl, hbl⟩ := hao hl
        unfold maxLen at hcm
        go_enter Try.func14, Try.ntmps14
        go_wp2_with fail
        rw [← HP.out, ← HW.out]
        have hA : Arr eHyp W (.slice (some ⟨b, off, none⟩) x.length sc) x := ⟨b, off, _, sc, rfl, hnc, by unfold maxLen; exact hcm, fun _ => ⟨rfl, hbl⟩, hcc⟩
        refine (l13Ok_any _ x _ hA ok g).mono ?_
        rintro e w2 ⟨rfl, hb⟩
        rw [hvb]
        clear hA
        obtain ⟨c0, c1⟩ := eHyp_cells (hcc.below hb hbl) ha
        have HA := hid ha
        clear ha
        simp only [Nat.zero_mul, Nat.add_zero] at c0 c1
        have q' := q.later hb
        have b0 := q'.cell (j := 0) rfl
        have b1 := q'.cell (j := 1) rfl
        have bf := q'.free
        go_wp2_with fail
        refine bodyPost_ret (v := .tuple #[.agg #[.string a.label, .int .i64 a.cost], .int .i64 0]) (by simp [results, Try.results14, go_sem, b0, b1]) rfl (ret_ret (by rw [HB.out.1, HB.out.2]) ?_)
        exact ((hbW.trans (hb.mono hbW.size)).setCell hge _).setCell hge _
      · have hl : x.length = 0 := hc.2 rfl
        have HB : Hid (bestHy x = hy0 ∧ bestC x = 3) := by
          show _ ∧ _
          obtain rfl : x = [] := List.length_eq_zero_iff.1 hl
          simp [bestHy, bestC, hvb]
        have hne : ((x.length : Int) == 0) = true := by rw [beq_iff_eq]; omega
        clear hc hl
        go_enter Try.func14, Try.ntmps14
        go_wp2_with fail
        rw [← HP.out, ← HW.out]
        refine (l13Ok_any _ x _ hA ok g).mono ?_
        rintro e w2 ⟨rfl, hb⟩
        rw [hvb]
        have q' := q.later hb
        have b0 := q'.cell (j := 0) rfl
        have b1 := q'.cell (j := 1) rfl
        have bf := q'.free
        go_wp2_with fail
        refine bodyPost_ret (v := .tuple #[.agg #[.string ⟨#[]⟩, .int .i64 0], .int .i64 3]) (by simp [results, Try.results14, go_sem, b0, b1]) rfl (ret_ret (by rw [HB.out.1, HB.out.2]; rfl) ?_)
        exact ((hbW.trans (hb.mono hbW.size)).setCell hge _).setCell hge _
  by_cases h0 : x.length = 0
  · exact key _ rfl true ⟨fun _ => rfl, fun _ => h0⟩
  · exact key _ rfl false ⟨fun h => absurd h h0, fun h => by cases h⟩
set_option maxHeartbeats 1000000 in
theorem specMarginOf_any (v : Value) (x : XHypS) (w : World) {lo hi : Nat} (h : rHypS.at_ lo hi w v x) (ok : okHypS x) (g : goodHypS x) :
    Calls Try.prog 17 #[v] w (Ret (.tuple #[.int .i64 (marginHy x), .int .i64 (marginC x)]) w) := by
  have hRW := h
  replace h := rHypS_arr h
  have hA := h
  obtain ⟨b, off, ao, cap, rfl, hnc, hcm, hao, hcc⟩ := h
  unfold maxLen at hcm
  have ok' : x.length ≤ 1048576 := ok
  cases hvb : validHy x
  · have HB : Hid (marginHy x = 0 ∧ marginC x = 1) := by show _ ∧ _; simp [marginHy, marginC, hvb]
    go_enter Try.func17, Try.ntmps17
    go_wp2_with fail
    refine (l13Ok_any _ x _ hA ok g).mono ?_
    rintro e w2 ⟨rfl, hb⟩
    rw [hvb]
    go_wp2
    go_ret2
    exact ⟨by rw [HB.out.1, HB.out.2]; rfl, hb⟩
  by_cases hl : x.length < 2
  · have HB : Hid (marginHy x = 0 ∧ marginC x = 6) := by
      show _ ∧ _
      simp [marginHy, marginC, hvb, hl]
      match x, hl with
      | [], _ => rfl
      | [_], _ => rfl
      | _ :: _ :: _, h => simp at h; omega
    have hli : (x.length : Int) < 2 := by omega
    go_enter Try.func17, Try.ntmps17
    go_wp2_with fail
    refine (l13Ok_any _ x _ hA ok g).mono ?_
    rintro e w2 ⟨rfl, hb⟩
    rw [hvb]
    go_wp2
    go_ret2
    exact ⟨by rw [HB.out.1, HB.out.2]; rfl, hb⟩
  obtain ⟨a, ha⟩ : ∃ a, x[0]? = some a := ⟨_, List.getElem?_eq_getElem (by omega)⟩
  obtain ⟨a2, ha2⟩ : ∃ a, x[1]? = some a := ⟨_, List.getElem?_eq_getElem (by omega)⟩
  have HB : Hid (marginHy x = a2.cost - a.cost ∧ marginC x = 0) := by
    show _ ∧ _
    simp [marginHy, marginC, hvb, hl]
    match x, ha, ha2 with
    | y :: z :: _, h1, h2 => simp at h1 h2; subst h1 h2; simp
  have hli : (2 : Int) ≤ (x.length : Int) := by omega
  have hl0 : (0 : Int) < (x.length : Int) := by omega
  have hl1 : (1 : Int) < (x.length : Int) := by omega
  have hl2 : ¬ (x.length : Int) < 2 := by omega
  obtain ⟨n1, n2⟩ := hy_bd hvb ha
  obtain ⟨n3, n4⟩ := hy_bd hvb ha2
  obtain ⟨hao', hbl⟩ := hao (by omega)
  subst hao'
  clear hao
  go_enter Try.func17, Try.ntmps17
  go_wp2_with fail
  refine (l13Ok_any _ x _ hA ok g).mono ?_
  rintro e w2 ⟨rfl, hb⟩
  rw [hvb]
  obtain ⟨c0, c1⟩ := eHyp_cells (hcc.below hb hbl) ha
  obtain ⟨d0, d1⟩ := eHyp_cells (hcc.below hb hbl) ha2
  clear ha ha2
  simp only [Nat.zero_mul, Nat.add_zero, Nat.one_mul] at c0 c1 d0 d1
  have hwr : IntKind.i64.wrap (a2.cost - a.cost) = a2.cost - a.cost := IntWalk.i64_in _ (by omega)
  go_wp2
  have x_c1 := ext_cell c1
  have x_d1 := ext_cell d1
  refine wp_region_ext (by kernel_rfl) (by kernel_rfl) ?_
  repeat (go_big_quiet_step (fail))
  refine wpQuiet_nil ?_
  intro _ hw'
  obtain ⟨nq, hw''⟩ := hw'
  subst hw''
  replace c1 := x_c1 nq
  replace d1 := x_d1 nq
  clear x_c1 x_d1
  replace hb := hb.trans ((ext_below _ nq).mono hb.size)
  clear hwr
  go_wp2
  go_ret2
  exact ⟨by rw [HB.out.1, HB.out.2]; rfl, hb⟩
set_option maxHeartbeats 1000000 in
theorem implBestHyp_any (v : Value) (x : XHypS) (w : World) {lo hi : Nat} (h : rHypS.at_ lo hi w v x) (ok : okHypS x) (g : goodHypS x) :
    Calls Try.prog 15 #[v] w (Ret (.tuple #[.agg #[.string (bestHy x).label, .int .i64 (bestHy x).cost], .int .i64 (bestC x)]) w) := by
  have hR := h
  replace h := rHypS_arr h
  obtain ⟨sa, sc, hv⟩ := h.isSlice
  subst hv
  obtain ⟨W, hW⟩ : ∃ W, W = w.alloc (.cells #[.string ⟨#[]⟩, .int .i64 0] 30) := ⟨_, rfl⟩
  have hbW : Below w.heap.size w W := by rw [hW]; exact below_alloc _ _
  have q : Box W w.heap.size #[.string ⟨#[]⟩, .int .i64 0] 30 := by rw [hW]; exact Box.new _ _ _
  have hA := h.below hbW
  have hRW := rHypS.at_below hR hbW
  obtain ⟨p, hp⟩ : ∃ p, p = w.heap.size := ⟨_, rfl⟩
  rw [← hp] at q
  have hge : w.heap.size ≤ p := by omega
  have HP := hid hp
  have HW := hid hW
  clear hp hW h hR
  have key : ∀ b, validHy x = b → ∀ c, (x.length = 0 ↔ c = true) → Calls Try.prog 15 #[.slice sa x.length sc] w (Ret (.tuple #[.agg #[.string (bestHy x).label, .int .i64 (bestHy x).cost], .int .i64 (bestC x)]) w) := by
    intro b hvb c hc
    cases b
    · have HB : Hid (bestHy x = hy0 ∧ bestC x = 1) := by show _ ∧ _; simp [bestHy, bestC, hvb]
      go_enter Try.func15, Try.ntmps15
      go_wp2_with fail
      rw [← HP.out, ← HW.out]
      refine (implValidHyps_any _ x _ hRW ok g).mono ?_
      rintro e w2 ⟨rfl, hb⟩
      rw [hvb]
      have q' := q.later hb
      have b0 := q'.cell (j := 0) rfl
      have b1 := q'.cell (j := 1) rfl
      have bf := q'.free
      go_wp2_with fail
      refine bodyPost_ret (v := .tuple #[.agg #[.string ⟨#[]⟩, .int .i64 0], .int .i64 1]) (by simp [results, Try.results15, go_sem, b0, b1]) rfl (ret_ret (by rw [HB.out.1, HB.out.2]; rfl) ?_)
      exact ((hbW.trans (hb.mono hbW.size)).setCell hge _).setCell hge _
    · cases c
      · have hl : 0 < x.length := by
          rcases Nat.eq_zero_or_pos x.length with h0 | h0
          · have := hc.1 h0; cases this
          · exact h0
        obtain ⟨a, ha⟩ : ∃ a, x[0]? = some a := ⟨_, List.getElem?_eq_getElem hl⟩
        have HB : Hid (bestHy x = a ∧ bestC x = 0) := by
          show _ ∧ _
          have h1 : x.length ≠ 0 := by omega
          have h2 : x.headD hy0 = a := by
            cases x with
            | nil => simp at hl
            | cons y ys => simpa using ha
          rw [bestHy, bestC, hvb]
          exact ⟨h2, if_neg h1⟩
        have hli : (0 : Int) < (x.length : Int) := by omega
        have hne : ((x.length : Int) == 0) = false := by rw [beq_eq_false_iff_ne]; omega
        clear hc
        obtain ⟨b, off, ao, cap, hv, hnc, hcm, hao, hcc⟩ := hA
        simp only [Value.slice.injEq, true_and] at hv
        obtain ⟨rfl, rfl⟩ := hv
        obtain ⟨rfl, hbl⟩ := hao hl
        unfold maxLen at hcm
        go_enter Try.func15, Try.ntmps15
        go_wp2_with fail
        rw [← HP.out, ← HW.out]
        have hA : Arr eHyp W (.slice (some ⟨b, off, none⟩) x.length sc) x := ⟨b, off, _, sc, rfl, hnc, by unfold maxLen; exact hcm, fun _ => ⟨rfl, hbl⟩, hcc⟩
        refine (implValidHyps_any _ x _ hRW ok g).mono ?_
        rintro e w2 ⟨rfl, hb⟩
        rw [hvb]
        clear hA
        obtain ⟨c0, c1⟩ := eHyp_cells (hcc.below hb hbl) ha
        have HA := hid ha
        clear ha
        simp only [Nat.zero_mul, Nat.add_zero] at c0 c1
        have q' := q.later hb
        have b0 := q'.cell (j := 0) rfl
        have b1 := q'.cell (j := 1) rfl
        have bf := q'.free
        go_wp2_with fail
        refine bodyPost_ret (v := .tuple #[.agg #[.string a.label, .int .i64 a.cost], .int .i64 0]) (by simp [results, Try.results15, go_sem, b0, b1]) rfl (ret_ret (by rw [HB.out.1, HB.out.2]) ?_)
        exact ((hbW.trans (hb.mono hbW.size)).setCell hge _).setCell hge _
      · have hl : x.length = 0 := hc.2 rfl
        have HB : Hid (bestHy x = hy0 ∧ bestC x = 3) := by
          show _ ∧ _
          obtain rfl : x = [] := List.length_eq_zero_iff.1 hl
          simp [bestHy, bestC, hvb]
        have hne : ((x.length : Int) == 0) = true := by rw [beq_iff_eq]; omega
        clear hc hl
        go_enter Try.func15, Try.ntmps15
        go_wp2_with fail
        rw [← HP.out, ← HW.out]
        refine (implValidHyps_any _ x _ hRW ok g).mono ?_
        rintro e w2 ⟨rfl, hb⟩
        rw [hvb]
        have q' := q.later hb
        have b0 := q'.cell (j := 0) rfl
        have b1 := q'.cell (j := 1) rfl
        have bf := q'.free
        go_wp2_with fail
        refine bodyPost_ret (v := .tuple #[.agg #[.string ⟨#[]⟩, .int .i64 0], .int .i64 3]) (by simp [results, Try.results15, go_sem, b0, b1]) rfl (ret_ret (by rw [HB.out.1, HB.out.2]; rfl) ?_)
        exact ((hbW.trans (hb.mono hbW.size)).setCell hge _).setCell hge _
  by_cases h0 : x.length = 0
  · exact key _ rfl true ⟨fun _ => rfl, fun _ => h0⟩
  · exact key _ rfl false ⟨fun h => absurd h h0, fun h => by cases h⟩
set_option maxHeartbeats 1000000 in
theorem implMarginOf_any (v : Value) (x : XHypS) (w : World) {lo hi : Nat} (h : rHypS.at_ lo hi w v x) (ok : okHypS x) (g : goodHypS x) :
    Calls Try.prog 18 #[v] w (Ret (.tuple #[.int .i64 (marginHy x), .int .i64 (marginC x)]) w) := by
  have hRW := h
  replace h := rHypS_arr h
  have hA := h
  obtain ⟨b, off, ao, cap, rfl, hnc, hcm, hao, hcc⟩ := h
  unfold maxLen at hcm
  have ok' : x.length ≤ 1048576 := ok
  cases hvb : validHy x
  · have HB : Hid (marginHy x = 0 ∧ marginC x = 1) := by show _ ∧ _; simp [marginHy, marginC, hvb]
    go_enter Try.func18, Try.ntmps18
    go_wp2_with fail
    refine (implValidHyps_any _ x _ hRW ok g).mono ?_
    rintro e w2 ⟨rfl, hb⟩
    rw [hvb]
    go_wp2
    go_ret2
    exact ⟨by rw [HB.out.1, HB.out.2]; rfl, hb⟩
  by_cases hl : x.length < 2
  · have HB : Hid (marginHy x = 0 ∧ marginC x = 6) := by
      show _ ∧ _
      simp [marginHy, marginC, hvb, hl]
      match x, hl with
      | [], _ => rfl
      | [_], _ => rfl
      | _ :: _ :: _, h => simp at h; omega
    have hli : (x.length : Int) < 2 := by omega
    go_enter Try.func18, Try.ntmps18
    go_wp2_with fail
    refine (implValidHyps_any _ x _ hRW ok g).mono ?_
    rintro e w2 ⟨rfl, hb⟩
    rw [hvb]
    go_wp2
    go_ret2
    exact ⟨by rw [HB.out.1, HB.out.2]; rfl, hb⟩
  obtain ⟨a, ha⟩ : ∃ a, x[0]? = some a := ⟨_, List.getElem?_eq_getElem (by omega)⟩
  obtain ⟨a2, ha2⟩ : ∃ a, x[1]? = some a := ⟨_, List.getElem?_eq_getElem (by omega)⟩
  have HB : Hid (marginHy x = a2.cost - a.cost ∧ marginC x = 0) := by
    show _ ∧ _
    simp [marginHy, marginC, hvb, hl]
    match x, ha, ha2 with
    | y :: z :: _, h1, h2 => simp at h1 h2; subst h1 h2; simp
  have hli : (2 : Int) ≤ (x.length : Int) := by omega
  have hl0 : (0 : Int) < (x.length : Int) := by omega
  have hl1 : (1 : Int) < (x.length : Int) := by omega
  have hl2 : ¬ (x.length : Int) < 2 := by omega
  obtain ⟨n1, n2⟩ := hy_bd hvb ha
  obtain ⟨n3, n4⟩ := hy_bd hvb ha2
  obtain ⟨hao', hbl⟩ := hao (by omega)
  subst hao'
  clear hao
  go_enter Try.func18, Try.ntmps18
  go_wp2_with fail
  refine (implValidHyps_any _ x _ hRW ok g).mono ?_
  rintro e w2 ⟨rfl, hb⟩
  rw [hvb]
  obtain ⟨c0, c1⟩ := eHyp_cells (hcc.below hb hbl) ha
  obtain ⟨d0, d1⟩ := eHyp_cells (hcc.below hb hbl) ha2
  clear ha ha2
  simp only [Nat.zero_mul, Nat.add_zero, Nat.one_mul] at c0 c1 d0 d1
  have hwr : IntKind.i64.wrap (a2.cost - a.cost) = a2.cost - a.cost := IntWalk.i64_in _ (by omega)
  go_wp2
  have x_c1 := ext_cell c1
  have x_d1 := ext_cell d1
  refine wp_region_ext (by kernel_rfl) (by kernel_rfl) ?_
  repeat (go_big_quiet_step (fail))
  refine wpQuiet_nil ?_
  intro _ hw'
  obtain ⟨nq, hw''⟩ := hw'
  subst hw''
  replace c1 := x_c1 nq
  replace d1 := x_d1 nq
  clear x_c1 x_d1
  replace hb := hb.trans ((ext_below _ nq).mono hb.size)
  clear hwr
  go_wp2
  go_ret2
  exact ⟨by rw [HB.out.1, HB.out.2]; rfl, hb⟩
end Go.Proofs.Ytmbmkmhpkaglhaa
