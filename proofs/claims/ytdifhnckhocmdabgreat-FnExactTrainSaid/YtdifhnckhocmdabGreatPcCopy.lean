/- A perceptron in memory of its own: impl.copyPerceptron, spec.l12Own. -/
import Derived.Test.YtdifhnckhocmdabGreatPcNew
import Derived.Test.YtdifhnckhocmdabGreatPcDel
import Derived.Deep.Cut
namespace Go.Proofs.YtdifhnckhocmdabGreat
open Go.RowKit

def CopyPost (x1 : XStringS) (x2 : XInt64SS) (w : World) (e : Ending) (w' : World) : Prop :=
  ∃ v1 v2 vs q, e = .returned (.agg #[v1, v2]) ∧ w.heap.size ≤ q ∧ OwnIn eStr 9 w.heap.size q w' v1 x1 ∧ NestSt eI 2 40 q w'.heap.size v2 vs x2 w' ∧ Below w.heap.size w w'
theorem newRow_of {lo : Nat} {w1 w2 : World} {u : Value} {r : List Int} (ho : Own eI 2 w1.heap.size w2 u r) (hle : lo ≤ w1.heap.size) : ∃ s : SV, u = s.val ∧ NewRow lo w2 s r := by
  obtain ⟨a, c, hu⟩ := ho.isSlice
  exact ⟨⟨a, r.length, c⟩, hu, by rw [hu] at ho; exact ho.in_.mono hle (Nat.le_refl _)⟩
theorem NestSt.lower {lo lo' hi : Nat} {u : Value} {vs : List SV} {Y : List (List Int)} {w : World} (h : NestSt eI 2 40 lo hi u vs Y w) (hl : lo' ≤ lo) : NestSt eI 2 40 lo' hi u vs Y w :=
  ⟨h.outer.mono hl (Nat.le_refl _), h.len, fun i s x hs hx => (h.inner i s x hs hx).mono hl (Nat.le_refl _), h.apart⟩
set_option maxHeartbeats 1000000 in
theorem l00Own_any (v : Value) (x : XInt64S) (w : World) (h : Arr eI w v x) (ok : x.length ≤ 1048576) :
    Calls Tryz.prog 62 #[v] w fun e w' => ∃ u, e = .returned u ∧ Own eI 2 w.heap.size w' u x ∧ Below w.heap.size w w' := by
  obtain ⟨sa, sc, hv⟩ := h.isSlice
  subst hv
  go_enter Tryz.func62, Tryz.ntmps62
  go_wp2_with (at_builtin; (refine wpList_appA rfl _ _ 40 rfl w.heap.size 2 _ 8 infoI Tryz.underlying40 rfl _ _ rfl (Own.empty (E := eI) 2 w (Nat.le_refl _)) _ x rfl (by exact h.alloc _) (by unfold maxLen; simp; omega) (by simp; omega) (by simp) ?_; intro u w1 ho hbA htA; rw [List.nil_append] at *))
  go_wp2_with fail
  go_ret
  exact ⟨_, rfl, ho, (below_alloc _ _).trans hbA⟩
set_option maxRecDepth 100000 in
set_option maxHeartbeats 4000000 in
theorem copyPerceptron_any (u1 u2 : Value) (x1 : XStringS) (x2 : XInt64SS) (w : World) (h1 : Arr eStr w u1 x1) (h2 : RowsI w u2 x2) (hn1 : x1.length ≤ 1000) (hn2 : x2.length ≤ 1000) (hr : ∀ r ∈ x2, r.length ≤ 1000) :
    Calls Tryz.prog 30 #[.agg #[u1, u2]] w (CopyPost x1 x2 w) := by
  obtain ⟨b, off, ao, cap, us, rfl, hnc, hcm, hao, hcl, hul, hin⟩ := h2.slice
  unfold maxLen at hcm
  have HUL := hid hul
  have HIN := hid hin
  clear hul hin h2
  obtain ⟨W, hW⟩ : ∃ u, u = ((w.alloc (.cells #[u1, .slice ao x2.length cap] 29)).alloc (.cells #[.slice none 0 0, .slice none 0 0] 29)) := ⟨_, rfl⟩
  have hbW : Below w.heap.size w W := by rw [hW]; exact belowA2 _ _ _
  have q1 : Box W (w.heap.size) #[u1, .slice ao x2.length cap] 29 := by
    have hq := Box.new w #[u1, .slice ao x2.length cap] 29
    rw [hW]
    exact (hq.alloc _)
  have q2 : Box W (w.heap.size + 1) #[.slice none 0 0, .slice none 0 0] 29 := by
    have hq := Box.new (w.alloc (.cells #[u1, .slice ao x2.length cap] 29)) #[.slice none 0 0, .slice none 0 0] 29
    simp at hq
    rw [hW]
    exact hq
  obtain ⟨p1, hp1⟩ : ∃ p, p = w.heap.size := ⟨_, rfl⟩
  rw [← hp1] at q1
  have hge1 : w.heap.size ≤ p1 := by omega
  obtain ⟨p2, hp2⟩ : ∃ p, p = w.heap.size + 1 := ⟨_, rfl⟩
  rw [← hp2] at q2
  have hge2 : w.heap.size ≤ p2 := by omega
  have hlW : w.heap.size ≤ W.heap.size := hbW.size
  have hlp1 : p1 < W.heap.size := q1.lt
  have hlp2 : p2 < W.heap.size := q2.lt
  have hne12 : p1 ≠ p2 := by omega
  have HP1 := hid hp1
  have HP2 := hid hp2
  have HW := hid hW
  clear hW hp1 hp2
  have hW1 := h1.below hbW
  have m10 := q1.cell (j := 0) rfl
  have m11 := q1.cell (j := 1) rfl
  go_enter Tryz.func30, Tryz.ntmps30
  go_wp2_with fail
  rw [← HP2.out, ← HP1.out, ← HW.out]
  go_wp2_with fail
  refine (cloneStr_any _ x1 W hW1 (by omega)).mono ?_
  rintro e w3 ⟨ul, rfl, hoL, hb3⟩
  obtain ⟨la, lc, hul⟩ := hoL.isSlice
  subst hul
  obtain ⟨q, hq⟩ : ∃ q, q = w3.heap.size := ⟨_, rfl⟩
  have n11 := cell_later hb3 m11
  have k11 : (w3.alloc (.cells #[.slice la x1.length lc, .slice none 0 0] 29)).cell? ⟨p1, 1, none⟩ = some (.slice ao x2.length cap) := cell_alloc n11 _
  go_wp2_with fail
  rw [← hq]
  obtain ⟨w4, hw4⟩ : ∃ w4, w4 = w3.alloc (.cells #[.slice la x1.length lc, .slice none 0 0] 29) := ⟨_, rfl⟩
  rw [← hw4]
  have hbx : Box w4 q #[.slice la x1.length lc, .slice none 0 0] 29 := by rw [hw4, hq]; exact Box.new _ _ _
  have hq4 : q < w4.heap.size := hbx.lt
  have hb3s := hb3.size
  have hp1q : p1 < q := by omega
  have hp2q : p2 < q := by omega
  have bx2 : Box w4 p2 #[.slice none 0 0, .slice none 0 0] 29 := by rw [hw4]; exact (q2.later hb3).alloc _
  have oL4 : OwnIn eStr 9 W.heap.size q w4 (.slice la x1.length lc) x1 := by rw [hq, hw4]; exact (hoL.in_).chg (Chg.of_below (a := 0) (b := 0) (below_alloc _ _)) (.inl (Nat.zero_le _))
  have hbw4 : Below w.heap.size w w4 := by rw [hw4]; exact ((hbW.trans (hb3.mono hlW))).trans ((below_alloc _ _).mono (by omega))
  have hwq : w.heap.size ≤ q := by omega
  have HQ := hid hq
  have HW4 := hid hw4
  clear hq hw4 m10 m11 n11 k11 q1 q2
  go_loopw [13] (fun i wr => ∃ k : Nat, k ≤ x2.length ∧ i = .int .i64 k ∧ FinN q (.slice la x1.length lc) w4 (x2.take k) wr) (fun i _ => x2.length - (intOf i).toNat)
  case atStart => exact ⟨0, Nat.zero_le _, rfl, _, [], hbx, NestSt.emp w4, Below.refl _ _⟩
  case round =>
    clear hbx
    obtain ⟨k, hk, rfl, uo, vs, hbx, hst, hbl⟩ := hrel
    have hvl : vs.length = k := by rw [hst.len]; simp; omega
    obtain ⟨oa, oc, huo⟩ := hst.outer.1.isSlice
    rw [hvl] at huo
    subst huo
    have a1 := hbx.cell (j := 1) rfl
    have hlt' := hbx.lt
    have hbR := hbw4.trans (hbl.mono hwq)
    by_cases hlt : k < x2.length
    · have hli : (k : Int) < (x2.length : Int) := by omega
      obtain ⟨hao', hbw⟩ := hao (by omega)
      subst hao'
      obtain ⟨r, hr2⟩ : ∃ r, x2[k]? = some r := ⟨_, List.getElem?_eq_getElem hlt⟩
      obtain ⟨sr, hsv⟩ : ∃ s, us[k]? = some s := ⟨_, List.getElem?_eq_getElem (by rw [HUL.out]; exact hlt)⟩
      have d0 := eS1_cells (hcl.below hbR hbw) hsv
      have hA := (HIN.out k sr r hsv hr2).below hbR
      have hrl := hr r (List.mem_of_getElem? hr2)
      have HT := hid (show x2.take k ++ [r] = x2.take (k + 1) by rw [List.take_add_one, hr2]; rfl)
      have CC := fun w' (hbw : Below wr.heap.size wr w') => cloneI_any (.slice sr.a sr.n sr.c) r w' (hA.below hbw) (by omega)
      clear hr2 hsv
      go_wp2_with fail
      refine wp_region_stg 5 7 (fun c w' => match c with | 0 => Below wr.heap.size wr w' | 1 => (Box w' q #[.slice la x1.length lc, .slice oa k oc] 29 ∧ Below q wr w') | _ => FinN q (.slice la x1.length lc) w4 (x2.take k ++ [r]) w') (fun c i v w' => match i with
            | 0 => v = .pointer (some ⟨q, 1, none⟩)
            | 1 => v = .slice oa k oc
            | 2 => v = .slice sr.a sr.n sr.c
            | 3 => (match c with | 0 => (∃ s : SV, v = s.val ∧ NewRow wr.heap.size w' s r) | 1 => True | _ => True)
            | 4 => (match c with | 0 => (∃ s : SV, Arr eS1 w' v [s] ∧ NewRow wr.heap.size w' s r) | 1 => True | _ => True)
            | 5 => (match c with | 0 => True | 1 => (∃ s : SV, NestSt eI 2 40 (q + 1) w'.heap.size v (vs ++ [s]) (x2.take k ++ [r]) w') | _ => True)
            | 6 => v = .pointer (some ⟨q, 1, none⟩)
            | 7 => (match c with | 0 => True | 1 => True | _ => True)
            | _ => True) (by kernel_rfl) (by kernel_rfl) (by kernel_rfl) (by kernel_rfl) (by kernel_rfl) ?_ ?_ ?_ ?_ ?_ ?_ (by decide) ?_
      · exact (Below.refl _ wr).drew
      · intro c w w' h hb
        match c, h with
        | 0, h => exact Below.trans (B := wr.heap.size) h (hb.mono (Below.size h))
        | 1, h => exact ⟨h.1.later hb, h.2.trans (hb.mono (Nat.le_of_lt h.1.lt))⟩
        | (k + 2), h => exact (FinN.below h hb)
      · intro c i v w w' h hb
        match i, h with
        | 0, h => exact h
        | 1, h => exact h
        | 2, h => exact h
        | 3, h =>
          match c, h with
          | 0, h => exact (h.imp fun _ h' => ⟨h'.1, h'.2.below hb⟩)
          | 1, h => exact trivial
          | (k + 2), h => exact trivial
        | 4, h =>
          match c, h with
          | 0, h => exact (h.imp fun _ h' => ⟨h'.1.below hb, h'.2.below hb⟩)
          | 1, h => exact trivial
          | (k + 2), h => exact trivial
        | 5, h =>
          match c, h with
          | 0, h => exact trivial
          | 1, h => exact (h.imp fun _ h' => h'.now hb)
          | (k + 2), h => exact trivial
        | 6, h => exact h
        | 7, h =>
          match c, h with
          | 0, h => exact trivial
          | 1, h => exact trivial
          | (k + 2), h => exact trivial
        | (k + 8), h => exact h
      · refine ⟨?_, ?_, ?_, ?_, ?_, ?_, ?_, ?_, trivial⟩
        · refine .inr (.inr ⟨fun _ => ?_, can_no (by kernel_rfl), can_no (by kernel_rfl)⟩)
          · intro ρ w' hbw ht hcs hfn hgl hdep G hG
            replace hbw : Below wr.heap.size wr w' := hbw
            refine ⟨fun _ => ?_, fun h => by cases h⟩
            have s3 : ρ (.tmp 3) = .pointer (some ⟨q, 0, none⟩) := ht 3 rfl
            clear ht hdep hgl
            go_simp
            exact hG _ _ (Below.refl _ _) rfl
        · refine .inr (.inr ⟨fun _ => ?_, can_no (by kernel_rfl), can_no (by kernel_rfl)⟩)
          · intro ρ w' hbw ht hcs hfn hgl hdep G hG
            replace hbw : Below wr.heap.size wr w' := hbw
            refine ⟨fun _ => ?_, fun h => by cases h⟩
            have s17 : ρ (.tmp 17) = .pointer (some ⟨q, 1, none⟩) := hdep ⟨0, .data⟩ (by simp) rfl 17 rfl
            have a1 := cell_later hbw a1
            clear ht hdep hgl
            go_simp
            exact hG _ _ (Below.refl _ _) rfl
        · refine .inr (.inr ⟨fun _ => ?_, can_no (by kernel_rfl), can_no (by kernel_rfl)⟩)
          · intro ρ w' hbw ht hcs hfn hgl hdep G hG
            replace hbw : Below wr.heap.size wr w' := hbw
            refine ⟨fun _ => ?_, fun h => by cases h⟩
            have s5 : ρ (.tmp 5) = .slice sr.a sr.n sr.c := ht 5 rfl
            clear ht hdep hgl
            go_simp
            exact hG _ _ (Below.refl _ _) rfl
        · refine .inr (.inr ⟨fun _ => ?_, can_no (by kernel_rfl), can_no (by kernel_rfl)⟩)
          · intro ρ w' hbw ht hcs hfn hgl hdep G hG
            replace hbw : Below wr.heap.size wr w' := hbw
            refine ⟨fun _ => ?_, fun h => by cases h⟩
            have s19 : ρ (.tmp 19) = .slice sr.a sr.n sr.c := hdep ⟨2, .data⟩ (by simp) rfl 19 rfl
            clear ht hdep hgl
            go_simp
            exact (CC w' hbw).mono fun e w'' ⟨u, he, ho, hb⟩ => ⟨_, he, hG _ _ hb (newRow_of ho hbw.size)⟩
        · refine .inr (.inr ⟨fun _ => ?_, can_no (by kernel_rfl), can_no (by kernel_rfl)⟩)
          · intro ρ w' hbw ht hcs hfn hgl hdep G hG
            replace hbw : Below wr.heap.size wr w' := hbw
            refine ⟨fun _ => ?_, fun h => by cases h⟩
            have d20 := hdep ⟨3, .data⟩ (by simp) rfl 20 rfl
            clear ht hdep hgl
            obtain ⟨s, s20, r20⟩ := d20
            have s20 : ρ (.tmp 20) = .slice s.a s.n s.c := s20
            go_simp
            exact hG _ _ (below_alloc _ _) ⟨s, arr_block1 (E := eS1) (n := 1) [s] #[.slice s.a s.n s.c] rfl rfl (by decide) (by simp), r20.below (below_alloc _ _)⟩
        · exact .inl rfl
        · refine .inr (.inr ⟨fun _ => ?_, fun _ => ?_, can_no (by kernel_rfl)⟩)
          · intro ρ w' hbw ht hcs hfn hgl hdep G hG
            replace hbw : Below wr.heap.size wr w' := hbw
            refine ⟨fun _ => ?_, fun h => by cases h⟩
            have s3 : ρ (.tmp 3) = .pointer (some ⟨q, 0, none⟩) := ht 3 rfl
            clear ht hdep hgl
            go_simp
            exact hG _ _ (Below.refl _ _) rfl
          · intro ρ w' hbw ht hcs hfn hgl hdep G hG
            replace hbw : (Box w' q #[.slice la x1.length lc, .slice oa k oc] 29 ∧ Below q wr w') := hbw
            refine ⟨fun _ => ?_, fun h => by cases h⟩
            have s3 : ρ (.tmp 3) = .pointer (some ⟨q, 0, none⟩) := ht 3 rfl
            clear ht hdep hgl
            go_simp
            exact hG _ _ (Below.refl _ _) rfl
        · exact .inr (.inl rfl)
      · intro o ho
        obtain rfl := Option.some.inj ho
        intro ρ w' hbw ht hcs hfn hgl hdep G hG
        replace hbw : Below wr.heap.size wr w' := hbw
        refine ⟨fun _ => ?_, fun h => by cases h⟩
        have s18 : ρ (.tmp 18) = .slice oa k oc := hdep ⟨1, .data⟩ (by simp) rfl 18 rfl
        have d21 := hdep ⟨4, .data⟩ (by simp) rfl 21 rfl
        clear ht hdep hgl
        obtain ⟨s, a21, r21⟩ := d21
        refine upon_appO _ _ 23 (by rfl) (q + 1) 40 _ 24 infRow1 Tryz.underlying23 rfl _ vs s18 (nestOuter hst hbw) [s] a21 (by unfold maxLen; simp <;> omega) (by simp <;> omega) (by have := hbw.size; omega) ?_
        intro v' wA hoA hgA hlA
        refine hG _ _ ⟨grownBox (hbx.later hbw) hgA (ownBlk_lt (lo := 0) (nestOuter hst hbw) rfl), (hbw.mono (Nat.le_of_lt hlt')).grown hgA (by have := hbw.size; omega) (fun kk hh => by have := (World.ownsRow.lt (nestOuter hst hbw) kk hh).1; omega)⟩ ⟨s, hst.push (by omega) hbw r21 hoA hgA⟩ ?_
        intro j u hj hne h
        match j, h with
        | 0, h => exact h
        | 1, h => exact h
        | 2, h => exact h
        | 3, h => exact trivial
        | 4, h => exact trivial
        | 5, h => exact absurd rfl hne
        | 6, h => exact h
        | 7, h => exact trivial
        | (k + 8), h => exact h
      · intro o ho
        obtain rfl := Option.some.inj ho
        intro ρ w' hbw ht hcs hfn hgl hdep G hG
        replace hbw : (Box w' q #[.slice la x1.length lc, .slice oa k oc] 29 ∧ Below q wr w') := hbw
        refine ⟨fun _ => ?_, fun h => by cases h⟩
        have s23 : ρ (.tmp 23) = .pointer (some ⟨q, 1, none⟩) := hdep ⟨6, .data⟩ (by simp) rfl 23 rfl
        have d22 := hdep ⟨5, .data⟩ (by simp) rfl 22 rfl
        clear ht hdep hgl
        obtain ⟨s, h22⟩ := d22
        obtain ⟨ua, uc, hu⟩ := h22.outer.1.isSlice
        rw [show (vs ++ [s]).length = k + 1 from by simp [hvl]] at hu
        rw [hu] at h22
        have f0 := hbw.1.cell (j := 1) rfl
        have ff := hbw.1.free
        have hx := hid (show FinN q (.slice la x1.length lc) w4 (x2.take k ++ [r]) (w'.setCell ⟨q, 1, none⟩ (.slice ua (k + 1) uc)) from ⟨_, _, hbw.1.set 1 _, by simpa using h22.chg (chg_set w' q 1 (.slice ua (k + 1) uc)) (.inl (Nat.le_refl _)), (hbl.trans hbw.2).setCell (Nat.le_refl _) _⟩)
        clear h22
        go_simp
        refine hG _ _ hx.out trivial ?_
        intro j u hj hne h
        match j, h with
        | 0, h => exact h
        | 1, h => exact h
        | 2, h => exact h
        | 3, h => exact trivial
        | 4, h => exact trivial
        | 5, h => exact trivial
        | 6, h => exact h
        | 7, h => exact trivial
        | (k + 8), h => exact h
      intro xx w6 hF hx
      clear hx
      simp only [putAll, Act.put, List.setIfInBounds_toArray, List.set_cons_succ, List.set_cons_zero, Nat.zero_add, Nat.reduceAdd]
      go_wp2_with fail
      go_roundw
      case rel => exact ⟨k + 1, by omega, by go_num, by rw [← HT.out]; exact hF⟩
      case measure => simp [intOf]; omega
    · obtain rfl : k = x2.length := by omega
      have hli : ¬ ((x2.length : Int) < (x2.length : Int)) := by omega
      have bxr := bx2.below hbl hp2q
      have f0 := bxr.cell (j := 0) rfl
      have f1 := bxr.cell (j := 1) rfl
      have ff := bxr.free
      have b0 := hbx.cell (j := 0) rfl
      have hbE := hbw4.trans (hbl.mono hwq)
      have oLr := oL4.chg (show Chg q (w4.heap.size) w4 wr from ⟨hbl.os, hbl.tape, hbl.output, hbl.size, fun k hk hj => hbl.block k (by omega)⟩) (.inr (Nat.le_refl _))
      rw [List.take_length] at hst
      go_wp2_with fail
      refine bodyPost_ret (v := .agg #[.slice la x1.length lc, .slice oa x2.length oc]) (by simp [results, Tryz.results30, go_sem, f0, f1]) rfl ⟨.slice la x1.length lc, .slice oa x2.length oc, vs, q, rfl, hwq, ?_, ?_, ?_⟩
      · exact ((oLr.chg (chg_set wr p2 0 _) (.inl (by omega))).chg (chg_set _ p2 1 _) (.inl (by omega))).mono (by omega) (Nat.le_refl _)
      · have := ((hst.chg (chg_set wr p2 0 (.slice la x1.length lc)) (.inl (by omega))).chg (chg_set _ p2 1 (.slice oa x2.length oc)) (.inl (by omega)))
        simpa using this.lower (Nat.le_succ q)
      · exact (hbE.setCell hge2 _).setCell hge2 _
set_option maxRecDepth 100000 in
set_option maxHeartbeats 4000000 in
theorem l12Own_any (p : Nat) (u1 u2 : Value) (x1 : XStringS) (x2 : XInt64SS) (w : World) (m0 : w.cell? ⟨p, 0, none⟩ = some u1) (m1 : w.cell? ⟨p, 1, none⟩ = some u2) (h1 : Arr eStr w u1 x1) (h2 : RowsI w u2 x2) (hn1 : x1.length ≤ 1000) (hn2 : x2.length ≤ 1000) (hr : ∀ r ∈ x2, r.length ≤ 1000) :
    Calls Tryz.prog 42 #[.pointer (some ⟨p, 0, none⟩)] w (CopyPost x1 x2 w) := by
  obtain ⟨b, off, ao, cap, us, rfl, hnc, hcm, hao, hcl, hul, hin⟩ := h2.slice
  unfold maxLen at hcm
  have HUL := hid hul
  have HIN := hid hin
  clear hul hin h2
  obtain ⟨sa1, sc1, hv1⟩ := h1.isSlice
  subst hv1
  obtain ⟨W, hW⟩ : ∃ u, u = (w.alloc (.cells #[.slice none 0 0, .slice none 0 0] 29)) := ⟨_, rfl⟩
  have hbW : Below w.heap.size w W := by rw [hW]; exact belowA1 _ _
  have q1 : Box W (w.heap.size) #[.slice none 0 0, .slice none 0 0] 29 := by
    have hq := Box.new w #[.slice none 0 0, .slice none 0 0] 29
    rw [hW]
    exact hq
  obtain ⟨p1, hp1⟩ : ∃ p, p = w.heap.size := ⟨_, rfl⟩
  rw [← hp1] at q1
  have hge1 : w.heap.size ≤ p1 := by omega
  have hlW : w.heap.size ≤ W.heap.size := hbW.size
  have hlp1 : p1 < W.heap.size := q1.lt
  have HP1 := hid hp1
  have HW := hid hW
  clear hW hp1
  have hW1 := h1.below hbW
  have n0 := cell_later hbW m0
  have n1 := cell_later hbW m1
  have n0a : (W.alloc (.cells #[] 9)).cell? ⟨p, 0, none⟩ = some (.slice sa1 x1.length sc1) := cell_alloc n0 _
  go_enter Tryz.func42, Tryz.ntmps42
  go_upto_region 1 with fail
  rw [← HP1.out, ← HW.out]
  go_wp2_with (at_builtin; (refine wpList_appA rfl _ _ 22 rfl W.heap.size 9 _ 16 infStr Tryz.underlying22 rfl _ _ rfl (Own.empty (E := eStr) 9 W (Nat.le_refl _)) _ x1 rfl (by exact hW1.alloc _) (by unfold maxLen; simp; omega) (by simp; omega) (by simp) ?_; intro ul w3 hoL hbA htA; obtain ⟨la, lc, hul⟩ := hoL.isSlice; subst hul; rw [List.nil_append] at *))
  have hb3 : Below W.heap.size W w3 := (below_alloc _ _).trans hbA
  obtain ⟨q, hq⟩ : ∃ q, q = w3.heap.size := ⟨_, rfl⟩
  rw [← hq]
  obtain ⟨w4, hw4⟩ : ∃ w4, w4 = w3.alloc (.cells #[.slice la x1.length lc, .slice none 0 0] 29) := ⟨_, rfl⟩
  rw [← hw4]
  have hbx : Box w4 q #[.slice la x1.length lc, .slice none 0 0] 29 := by rw [hw4, hq]; exact Box.new _ _ _
  have k1 : w4.cell? ⟨p, 1, none⟩ = some (.slice ao x2.length cap) := by rw [hw4]; exact cell_alloc (cell_later hb3 n1) _
  have hq4 : q < w4.heap.size := hbx.lt
  have hb3s := hb3.size
  have hp1q : p1 < q := by omega
  have bx1 : Box w4 p1 #[.slice none 0 0, .slice none 0 0] 29 := by rw [hw4]; exact (q1.later hb3).alloc _
  have oL4 : OwnIn eStr 9 W.heap.size q w4 (.slice la x1.length lc) x1 := by rw [hq, hw4]; exact (hoL.in_).chg (Chg.of_below (a := 0) (b := 0) (below_alloc _ _)) (.inl (Nat.zero_le _))
  have hbw4 : Below w.heap.size w w4 := by rw [hw4]; exact ((hbW.trans (hb3.mono hlW))).trans ((below_alloc _ _).mono (by omega))
  have hwq : w.heap.size ≤ q := by omega
  have hpw := cell_lt m1
  have HQ := hid hq
  have HW4 := hid hw4
  clear hq hw4 m0 m1 n0 n1 q1
  go_wp2_with fail
  go_loopw [4] (fun i wr => ∃ k : Nat, k ≤ x2.length ∧ i = .int .i64 k ∧ FinN q (.slice la x1.length lc) w4 (x2.take k) wr) (fun i _ => x2.length - (intOf i).toNat)
  case atStart => exact ⟨0, Nat.zero_le _, rfl, _, [], hbx, NestSt.emp w4, Below.refl _ _⟩
  case round =>
    clear hbx
    obtain ⟨k, hk, rfl, uo, vs, hbx, hst, hbl⟩ := hrel
    have hvl : vs.length = k := by rw [hst.len]; simp; omega
    obtain ⟨oa, oc, huo⟩ := hst.outer.1.isSlice
    rw [hvl] at huo
    subst huo
    have a1 := hbx.cell (j := 1) rfl
    have hlt' := hbx.lt
    have hbR := hbw4.trans (hbl.mono hwq)
    have c1 : wr.cell? ⟨p, 1, none⟩ = some (.slice ao x2.length cap) := chg_cell (show Chg q (w4.heap.size) w4 wr from ⟨hbl.os, hbl.tape, hbl.output, hbl.size, fun k hk hj => hbl.block k (by omega)⟩) k1 (.inl (by have := hpw; omega))
    by_cases hlt : k < x2.length
    · have hli : (k : Int) < (x2.length : Int) := by omega
      obtain ⟨hao', hbw⟩ := hao (by omega)
      subst hao'
      obtain ⟨r, hr2⟩ : ∃ r, x2[k]? = some r := ⟨_, List.getElem?_eq_getElem hlt⟩
      obtain ⟨sr, hsv⟩ : ∃ s, us[k]? = some s := ⟨_, List.getElem?_eq_getElem (by rw [HUL.out]; exact hlt)⟩
      have d0 := eS1_cells (hcl.below hbR hbw) hsv
      have hA := (HIN.out k sr r hsv hr2).below hbR
      have hrl := hr r (List.mem_of_getElem? hr2)
      have HT := hid (show x2.take k ++ [r] = x2.take (k + 1) by rw [List.take_add_one, hr2]; rfl)
      have CC := fun w' (hbw : Below wr.heap.size wr w') => l00Own_any (.slice sr.a sr.n sr.c) r w' (hA.below hbw) (by omega)
      clear hr2 hsv
      go_wp2_with fail
      refine wp_region_stg 11 13 (fun c w' => match c with | 0 => Below wr.heap.size wr w' | 1 => (Box w' q #[.slice la x1.length lc, .slice oa k oc] 29 ∧ Below q wr w') | _ => FinN q (.slice la x1.length lc) w4 (x2.take k ++ [r]) w') (fun c i v w' => match i with
            | 0 => v = .pointer (some ⟨q, 1, none⟩)
            | 1 => v = .slice oa k oc
            | 2 => v = .pointer (some ⟨p, 0, none⟩)
            | 3 => v = .pointer (some ⟨p, 0, none⟩)
            | 4 => v = .pointer (some ⟨p, 1, none⟩)
            | 5 => v = .slice (some ⟨b, off, none⟩) x2.length cap
            | 6 => v = .int .i64 k
            | 7 => v = .pointer (some ⟨b, off + k, none⟩)
            | 8 => v = .slice sr.a sr.n sr.c
            | 9 => (match c with | 0 => (∃ s : SV, v = s.val ∧ NewRow wr.heap.size w' s r) | 1 => True | _ => True)
            | 10 => (match c with | 0 => (∃ s : SV, Arr eS1 w' v [s] ∧ NewRow wr.heap.size w' s r) | 1 => True | _ => True)
            | 11 => (match c with | 0 => True | 1 => (∃ s : SV, NestSt eI 2 40 (q + 1) w'.heap.size v (vs ++ [s]) (x2.take k ++ [r]) w') | _ => True)
            | 12 => v = .pointer (some ⟨q, 1, none⟩)
            | 13 => (match c with | 0 => True | 1 => True | _ => True)
            | _ => True) (by kernel_rfl) (by kernel_rfl) (by kernel_rfl) (by kernel_rfl) (by kernel_rfl) ?_ ?_ ?_ ?_ ?_ ?_ (by decide) ?_
      · exact (Below.refl _ wr).drew
      · intro c w w' h hb
        match c, h with
        | 0, h => exact Below.trans (B := wr.heap.size) h (hb.mono (Below.size h))
        | 1, h => exact ⟨h.1.later hb, h.2.trans (hb.mono (Nat.le_of_lt h.1.lt))⟩
        | (k + 2), h => exact (FinN.below h hb)
      · intro c i v w w' h hb
        match i, h with
        | 0, h => exact h
        | 1, h => exact h
        | 2, h => exact h
        | 3, h => exact h
        | 4, h => exact h
        | 5, h => exact h
        | 6, h => exact h
        | 7, h => exact h
        | 8, h => exact h
        | 9, h =>
          match c, h with
          | 0, h => exact (h.imp fun _ h' => ⟨h'.1, h'.2.below hb⟩)
          | 1, h => exact trivial
          | (k + 2), h => exact trivial
        | 10, h =>
          match c, h with
          | 0, h => exact (h.imp fun _ h' => ⟨h'.1.below hb, h'.2.below hb⟩)
          | 1, h => exact trivial
          | (k + 2), h => exact trivial
        | 11, h =>
          match c, h with
          | 0, h => exact trivial
          | 1, h => exact (h.imp fun _ h' => h'.now hb)
          | (k + 2), h => exact trivial
        | 12, h => exact h
        | 13, h =>
          match c, h with
          | 0, h => exact trivial
          | 1, h => exact trivial
          | (k + 2), h => exact trivial
        | (k + 14), h => exact h
      · refine ⟨?_, ?_, ?_, ?_, ?_, ?_, ?_, ?_, ?_, ?_, ?_, ?_, ?_, ?_, trivial⟩
        · refine .inr (.inr ⟨fun _ => ?_, can_no (by kernel_rfl), can_no (by kernel_rfl)⟩)
          · intro ρ w' hbw ht hcs hfn hgl hdep G hG
            replace hbw : Below wr.heap.size wr w' := hbw
            refine ⟨fun _ => ?_, fun h => by cases h⟩
            have s3 : ρ (.tmp 3) = .pointer (some ⟨q, 0, none⟩) := ht 3 rfl
            clear ht hdep hgl
            go_simp
            exact hG _ _ (Below.refl _ _) rfl
        · refine .inr (.inr ⟨fun _ => ?_, can_no (by kernel_rfl), can_no (by kernel_rfl)⟩)
          · intro ρ w' hbw ht hcs hfn hgl hdep G hG
            replace hbw : Below wr.heap.size wr w' := hbw
            refine ⟨fun _ => ?_, fun h => by cases h⟩
            have s21 : ρ (.tmp 21) = .pointer (some ⟨q, 1, none⟩) := hdep ⟨0, .data⟩ (by simp) rfl 21 rfl
            have a1 := cell_later hbw a1
            have c1 := cell_later hbw c1
            have d0 := cell_later hbw d0
            clear ht hdep hgl
            go_simp
            exact hG _ _ (Below.refl _ _) rfl
        · refine .inr (.inr ⟨fun _ => ?_, can_no (by kernel_rfl), can_no (by kernel_rfl)⟩)
          · intro ρ w' hbw ht hcs hfn hgl hdep G hG
            replace hbw : Below wr.heap.size wr w' := hbw
            refine ⟨fun _ => ?_, fun h => by cases h⟩
            have s0 : ρ (.tmp 0) = .pointer (some ⟨p, 0, none⟩) := ht 0 rfl
            clear ht hdep hgl
            go_simp
            exact hG _ _ (Below.refl _ _) rfl
        · refine .inr (.inr ⟨fun _ => ?_, can_no (by kernel_rfl), can_no (by kernel_rfl)⟩)
          · intro ρ w' hbw ht hcs hfn hgl hdep G hG
            replace hbw : Below wr.heap.size wr w' := hbw
            refine ⟨fun _ => ?_, fun h => by cases h⟩
            have s23 : ρ (.tmp 23) = .pointer (some ⟨p, 0, none⟩) := hdep ⟨2, .data⟩ (by simp) rfl 23 rfl
            clear ht hdep hgl
            go_simp
            exact hG _ _ (Below.refl _ _) rfl
        · refine .inr (.inr ⟨fun _ => ?_, can_no (by kernel_rfl), can_no (by kernel_rfl)⟩)
          · intro ρ w' hbw ht hcs hfn hgl hdep G hG
            replace hbw : Below wr.heap.size wr w' := hbw
            refine ⟨fun _ => ?_, fun h => by cases h⟩
            have s24 : ρ (.tmp 24) = .pointer (some ⟨p, 0, none⟩) := hdep ⟨3, .data⟩ (by simp) rfl 24 rfl
            clear ht hdep hgl
            go_simp
            exact hG _ _ (Below.refl _ _) rfl
        · refine .inr (.inr ⟨fun _ => ?_, can_no (by kernel_rfl), can_no (by kernel_rfl)⟩)
          · intro ρ w' hbw ht hcs hfn hgl hdep G hG
            replace hbw : Below wr.heap.size wr w' := hbw
            refine ⟨fun _ => ?_, fun h => by cases h⟩
            have s25 : ρ (.tmp 25) = .pointer (some ⟨p, 1, none⟩) := hdep ⟨4, .data⟩ (by simp) rfl 25 rfl
            have a1 := cell_later hbw a1
            have c1 := cell_later hbw c1
            have d0 := cell_later hbw d0
            clear ht hdep hgl
            go_simp
            exact hG _ _ (Below.refl _ _) rfl
        · refine .inr (.inr ⟨fun _ => ?_, can_no (by kernel_rfl), can_no (by kernel_rfl)⟩)
          · intro ρ w' hbw ht hcs hfn hgl hdep G hG
            replace hbw : Below wr.heap.size wr w' := hbw
            refine ⟨fun _ => ?_, fun h => by cases h⟩
            have s4 : ρ (.tmp 4) = .int .i64 k := ht 4 rfl
            clear ht hdep hgl
            go_simp
            exact hG _ _ (Below.refl _ _) rfl
        · refine .inr (.inr ⟨fun _ => ?_, can_no (by kernel_rfl), can_no (by kernel_rfl)⟩)
          · intro ρ w' hbw ht hcs hfn hgl hdep G hG
            replace hbw : Below wr.heap.size wr w' := hbw
            refine ⟨fun _ => ?_, fun h => by cases h⟩
            have s26 : ρ (.tmp 26) = .slice (some ⟨b, off, none⟩) x2.length cap := hdep ⟨5, .data⟩ (by simp) rfl 26 rfl
            have s27 : ρ (.tmp 27) = .int .i64 k := hdep ⟨6, .data⟩ (by simp) rfl 27 rfl
            clear ht hdep hgl
            go_simp
            exact hG _ _ (Below.refl _ _) rfl
        · refine .inr (.inr ⟨fun _ => ?_, can_no (by kernel_rfl), can_no (by kernel_rfl)⟩)
          · intro ρ w' hbw ht hcs hfn hgl hdep G hG
            replace hbw : Below wr.heap.size wr w' := hbw
            refine ⟨fun _ => ?_, fun h => by cases h⟩
            have s28 : ρ (.tmp 28) = .pointer (some ⟨b, off + k, none⟩) := hdep ⟨7, .data⟩ (by simp) rfl 28 rfl
            have a1 := cell_later hbw a1
            have c1 := cell_later hbw c1
            have d0 := cell_later hbw d0
            clear ht hdep hgl
            go_simp
            exact hG _ _ (Below.refl _ _) rfl
        · refine .inr (.inr ⟨fun _ => ?_, can_no (by kernel_rfl), can_no (by kernel_rfl)⟩)
          · intro ρ w' hbw ht hcs hfn hgl hdep G hG
            replace hbw : Below wr.heap.size wr w' := hbw
            refine ⟨fun _ => ?_, fun h => by cases h⟩
            have s29 : ρ (.tmp 29) = .slice sr.a sr.n sr.c := hdep ⟨8, .data⟩ (by simp) rfl 29 rfl
            clear ht hdep hgl
            go_simp
            exact (CC w' hbw).mono fun e w'' ⟨u, he, ho, hb⟩ => ⟨_, he, hG _ _ hb (newRow_of ho hbw.size)⟩
        · refine .inr (.inr ⟨fun _ => ?_, can_no (by kernel_rfl), can_no (by kernel_rfl)⟩)
          · intro ρ w' hbw ht hcs hfn hgl hdep G hG
            replace hbw : Below wr.heap.size wr w' := hbw
            refine ⟨fun _ => ?_, fun h => by cases h⟩
            have d30 := hdep ⟨9, .data⟩ (by simp) rfl 30 rfl
            clear ht hdep hgl
            obtain ⟨s, s30, r30⟩ := d30
            have s30 : ρ (.tmp 30) = .slice s.a s.n s.c := s30
            go_simp
            exact hG _ _ (below_alloc _ _) ⟨s, arr_block1 (E := eS1) (n := 1) [s] #[.slice s.a s.n s.c] rfl rfl (by decide) (by simp), r30.below (below_alloc _ _)⟩
        · exact .inl rfl
        · refine .inr (.inr ⟨fun _ => ?_, fun _ => ?_, can_no (by kernel_rfl)⟩)
          · intro ρ w' hbw ht hcs hfn hgl hdep G hG
            replace hbw : Below wr.heap.size wr w' := hbw
            refine ⟨fun _ => ?_, fun h => by cases h⟩
            have s3 : ρ (.tmp 3) = .pointer (some ⟨q, 0, none⟩) := ht 3 rfl
            clear ht hdep hgl
            go_simp
            exact hG _ _ (Below.refl _ _) rfl
          · intro ρ w' hbw ht hcs hfn hgl hdep G hG
            replace hbw : (Box w' q #[.slice la x1.length lc, .slice oa k oc] 29 ∧ Below q wr w') := hbw
            refine ⟨fun _ => ?_, fun h => by cases h⟩
            have s3 : ρ (.tmp 3) = .pointer (some ⟨q, 0, none⟩) := ht 3 rfl
            clear ht hdep hgl
            go_simp
            exact hG _ _ (Below.refl _ _) rfl
        · exact .inr (.inl rfl)
      · intro o ho
        obtain rfl := Option.some.inj ho
        intro ρ w' hbw ht hcs hfn hgl hdep G hG
        replace hbw : Below wr.heap.size wr w' := hbw
        refine ⟨fun _ => ?_, fun h => by cases h⟩
        have s22 : ρ (.tmp 22) = .slice oa k oc := hdep ⟨1, .data⟩ (by simp) rfl 22 rfl
        have d31 := hdep ⟨10, .data⟩ (by simp) rfl 31 rfl
        clear ht hdep hgl
        obtain ⟨s, a31, r31⟩ := d31
        refine upon_appO _ _ 23 (by rfl) (q + 1) 40 _ 24 infRow1 Tryz.underlying23 rfl _ vs s22 (nestOuter hst hbw) [s] a31 (by unfold maxLen; simp <;> omega) (by simp <;> omega) (by have := hbw.size; omega) ?_
        intro v' wA hoA hgA hlA
        refine hG _ _ ⟨grownBox (hbx.later hbw) hgA (ownBlk_lt (lo := 0) (nestOuter hst hbw) rfl), (hbw.mono (Nat.le_of_lt hlt')).grown hgA (by have := hbw.size; omega) (fun kk hh => by have := (World.ownsRow.lt (nestOuter hst hbw) kk hh).1; omega)⟩ ⟨s, hst.push (by omega) hbw r31 hoA hgA⟩ ?_
        intro j u hj hne h
        match j, h with
        | 0, h => exact h
        | 1, h => exact h
        | 2, h => exact h
        | 3, h => exact h
        | 4, h => exact h
        | 5, h => exact h
        | 6, h => exact h
        | 7, h => exact h
        | 8, h => exact h
        | 9, h => exact trivial
        | 10, h => exact trivial
        | 11, h => exact absurd rfl hne
        | 12, h => exact h
        | 13, h => exact trivial
        | (k + 14), h => exact h
      · intro o ho
        obtain rfl := Option.some.inj ho
        intro ρ w' hbw ht hcs hfn hgl hdep G hG
        replace hbw : (Box w' q #[.slice la x1.length lc, .slice oa k oc] 29 ∧ Below q wr w') := hbw
        refine ⟨fun _ => ?_, fun h => by cases h⟩
        have s33 : ρ (.tmp 33) = .pointer (some ⟨q, 1, none⟩) := hdep ⟨12, .data⟩ (by simp) rfl 33 rfl
        have d32 := hdep ⟨11, .data⟩ (by simp) rfl 32 rfl
        clear ht hdep hgl
        obtain ⟨s, h32⟩ := d32
        obtain ⟨ua, uc, hu⟩ := h32.outer.1.isSlice
        rw [show (vs ++ [s]).length = k + 1 from by simp [hvl]] at hu
        rw [hu] at h32
        have f0 := hbw.1.cell (j := 1) rfl
        have ff := hbw.1.free
        have hx := hid (show FinN q (.slice la x1.length lc) w4 (x2.take k ++ [r]) (w'.setCell ⟨q, 1, none⟩ (.slice ua (k + 1) uc)) from ⟨_, _, hbw.1.set 1 _, by simpa using h32.chg (chg_set w' q 1 (.slice ua (k + 1) uc)) (.inl (Nat.le_refl _)), (hbl.trans hbw.2).setCell (Nat.le_refl _) _⟩)
        clear h32
        go_simp
        refine hG _ _ hx.out trivial ?_
        intro j u hj hne h
        match j, h with
        | 0, h => exact h
        | 1, h => exact h
        | 2, h => exact h
        | 3, h => exact h
        | 4, h => exact h
        | 5, h => exact h
        | 6, h => exact h
        | 7, h => exact h
        | 8, h => exact h
        | 9, h => exact trivial
        | 10, h => exact trivial
        | 11, h => exact trivial
        | 12, h => exact h
        | 13, h => exact trivial
        | (k + 14), h => exact h
      intro xx w6 hF hx
      clear hx
      simp only [putAll, Act.put, List.setIfInBounds_toArray, List.set_cons_succ, List.set_cons_zero, Nat.zero_add, Nat.reduceAdd]
      go_wp2_with fail
      go_roundw
      case rel => exact ⟨k + 1, by omega, by go_num, by rw [← HT.out]; exact hF⟩
      case measure => simp [intOf]; omega
    · obtain rfl : k = x2.length := by omega
      have hli : ¬ ((x2.length : Int) < (x2.length : Int)) := by omega
      have bxr := bx1.below hbl hp1q
      have f0 := bxr.cell (j := 0) rfl
      have f1 := bxr.cell (j := 1) rfl
      have ff := bxr.free
      have b0 := hbx.cell (j := 0) rfl
      have hbE := hbw4.trans (hbl.mono hwq)
      have oLr := oL4.chg (show Chg q (w4.heap.size) w4 wr from ⟨hbl.os, hbl.tape, hbl.output, hbl.size, fun k hk hj => hbl.block k (by omega)⟩) (.inr (Nat.le_refl _))
      rw [List.take_length] at hst
      go_wp2_with fail
      refine bodyPost_ret (v := .agg #[.slice la x1.length lc, .slice oa x2.length oc]) (by simp [results, Tryz.results42, go_sem, f0, f1]) rfl ⟨.slice la x1.length lc, .slice oa x2.length oc, vs, q, rfl, hwq, ?_, ?_, ?_⟩
      · exact ((oLr.chg (chg_set wr p1 0 _) (.inl (by omega))).chg (chg_set _ p1 1 _) (.inl (by omega))).mono (by omega) (Nat.le_refl _)
      · have := ((hst.chg (chg_set wr p1 0 (.slice la x1.length lc)) (.inl (by omega))).chg (chg_set _ p1 1 (.slice oa x2.length oc)) (.inl (by omega)))
        simpa using this.lower (Nat.le_succ q)
      · exact (hbE.setCell hge1 _).setCell hge1 _
end Go.Proofs.YtdifhnckhocmdabGreat
