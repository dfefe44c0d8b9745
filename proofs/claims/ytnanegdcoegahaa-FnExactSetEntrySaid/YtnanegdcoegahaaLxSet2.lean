/- An entry set in a lexicon: the implementation's call. -/
import Derived.Test.YtnanegdcoegahaaLxSet
import Derived.Test.YtnanegdcoegahaaInsEntry
namespace Go.Proofs.Ytnanegdcoegahaa
open Go.RowKit

theorem low_without {x : XLexicon} (hs : Sorted x) {s : ByteArray} {k : Nat} (hf : findLx x s = some k) : lowLx (x.eraseIdx k) s = k := by
  have hk := low_of_find hs hf
  obtain ⟨e, he, _⟩ := find_get hf
  have hlt := (List.getElem?_eq_some_iff.1 he).1
  refine low_eq (by rw [List.length_eraseIdx_of_lt hlt]; omega) (fun j a hj ha => ?_) (fun a ha => ?_)
  · rw [List.getElem?_eraseIdx_of_lt hj] at ha
    exact low_lt (by rw [hk]; exact hj) ha
  · rw [List.getElem?_eraseIdx_of_ge (Nat.le_refl _)] at ha
    exact low_ge hs (by rw [hk]; omega) ha
theorem put_found {x : XLexicon} (hs : Sorted x) {e : DEntry} {k : Nat} (hf : findLx x e.word = some k) : putLx (without x e.word) e = x.set k e := by
  obtain ⟨a, ha, _⟩ := find_get hf
  have hlt := (List.getElem?_eq_some_iff.1 ha).1
  unfold putLx insAt
  rw [without_erase hs hf, low_without hs hf, List.eraseIdx_eq_take_drop_succ, List.set_eq_take_append_cons_drop, if_pos hlt]
  rw [List.take_left' (by rw [List.length_take]; omega), List.drop_left' (by rw [List.length_take]; omega)]
theorem without_none {x : XLexicon} {s : ByteArray} (hf : findLx x s = none) : without x s = x := by
  unfold without
  rw [List.filter_eq_self]
  intro a ha
  unfold findLx at hf
  have := List.findIdx?_eq_none_iff.1 hf a ha
  simpa using this
set_option maxHeartbeats 4000000 in
set_option maxRecDepth 100000 in
theorem implSetEntry_any (v : Value) (x : XLexicon) (e : DEntry) (w : World) {lo hi : Nat} (h : rLexicon.at_ lo hi w v x) (ok : okLexicon x) (g : goodLexicon x) (ge : goodEntry e) :
    Calls Try.prog 40 #[v, .agg #[.string e.word, .int .i64 e.cost]] w (RetNew rLexicon (setLx x e) #[.int .i64 (setCode x e)] w) := by
  obtain ⟨u, rfl, h⟩ := h
  replace h := ArrIn.arr h
  obtain ⟨sa, sc, hu⟩ := h.isSlice
  subst hu
  have hws : e.word.size ≤ 9223372036854775807 := ge.1
  obtain ⟨W2, hW2⟩ : ∃ W2, W2 = (w.alloc (.cells #[.slice sa x.length sc] 40)).alloc (.cells #[.string e.word, .int .i64 e.cost] 73) := ⟨_, rfl⟩
  have z2 : W2.heap.size = w.heap.size + 1 + 1 := by rw [hW2]; simp
  obtain ⟨W0, hW0⟩ : ∃ W0, W0 = W2.alloc (.cells #[.slice none 0 0] 40) := ⟨_, rfl⟩
  have q0 : W0.cell? ⟨w.heap.size, 0, none⟩ = some (.slice sa x.length sc) := by rw [hW0, hW2]; exact cell_alloc (by simp) _
  have q1 : W0.cell? ⟨w.heap.size + 1, 0, none⟩ = some (.string e.word) := by rw [hW0, hW2]; exact cell_alloc (by simp) _
  have q2 : W0.cell? ⟨w.heap.size + 1, 1, none⟩ = some (.int .i64 e.cost) := by rw [hW0, hW2]; exact cell_alloc (by simp) _
  have q3 : Box W0 (w.heap.size + 1 + 1) #[.slice none 0 0] 40 := by rw [hW0, ← z2]; exact Box.new _ _ _
  have hA : Arr eEntry W0 (.slice sa x.length sc) x := by rw [hW0, hW2]; exact ((h.alloc _).alloc _).alloc _
  have hb0 : Below w.heap.size w W0 := by rw [hW0, hW2]; exact (((Below.refl _ _).alloc (Nat.le_refl _) _).alloc (by simp) _).alloc (by simp <;> omega) _
  have z0 : W0.heap.size = w.heap.size + 3 := by rw [hW0]; simp [z2]
  obtain ⟨p1, hp1⟩ : ∃ p, p = w.heap.size := ⟨_, rfl⟩
  obtain ⟨p2, hp2⟩ : ∃ p, p = w.heap.size + 1 := ⟨_, rfl⟩
  obtain ⟨p3, hp3⟩ : ∃ p, p = w.heap.size + 1 + 1 := ⟨_, rfl⟩
  rw [← hp3] at q3
  rw [← hp2] at q1 q2
  rw [← hp1] at q0
  have hge3 : w.heap.size ≤ p3 := by omega
  have hlt : w.heap.size ≤ W0.heap.size := hb0.size
  have HP1 := hid hp1
  have HP2 := hid hp2
  have HP3 := hid hp3
  have HW2 := hid hW2
  have HW0 := hid hW0
  clear hp1 hp2 hp3 hW2 hW0 z2 z0 h
  have finish : ∀ (w' : World) (s : Option Addr) (k c : Nat) (z : XLexicon) (d : Int), Hid (setLx x e = z ∧ setCode x e = d) → Own eEntry 73 w.heap.size w' (.slice s k c) z → Below w.heap.size w w' → RetNew rLexicon (setLx x e) #[.int .i64 (setCode x e)] w (.returned (.tuple #[.agg #[.slice s k c], .int .i64 d])) w' := by
    intro w' s k c z d hz ho hb
    rw [hz.out.1, hz.out.2]
    exact ⟨_, rfl, rLx_new ho (Nat.le_refl _), hb⟩
  have CV := implValidLexicon_any _ x W0 (show rLexicon.at_ 0 W0.heap.size W0 (.agg #[.slice sa x.length sc]) x from ⟨_, rfl, hA.in_⟩) ok g
  have HW : ∀ w', Calls Try.prog 83 #[.string e.word] w' (Ret (.bool (isWordB e.word)) w') := fun w' => implWord_is hws rfl w'
  have HI : ∀ w', Calls Try.prog 84 #[.int .i64 e.cost] w' fun en w'' => en = .returned (.bool (inB e.cost 0 1000000)) ∧ w' = w'' := fun w' => isCost_any _ w'
  cases hv : validLx x
  · have HZ : Hid (setLx x e = [] ∧ setCode x e = 1) := by show _ ∧ _; simp [setLx, setCode, hv]
    rw [hv] at CV
    go_enter Try.func40, Try.ntmps40
    go_wp2_with fail
    rw [← HW2.out, ← HW0.out, ← HP3.out, ← HP2.out, ← HP1.out]
    refine CV.mono ?_
    rintro en w2 ⟨rfl, hb⟩
    have b0 := (q3.later hb).cell (j := 0) rfl
    have bf := (q3.later hb).free
    go_wp2_with fail
    refine bodyPost_ret (v := .tuple #[.agg #[.slice none 0 0], .int .i64 1]) (by simp [results, Try.results40, go_sem, b0]) rfl (finish _ _ _ _ _ _ HZ (Own.nil _ _ _) ?_)
    exact (hb0.trans (hb.mono hlt)).setCell hge3 _
  rw [hv] at CV
  have hs := sorted_of_valid hv
  cases hw : isWordB e.word
  · have HZ : Hid (setLx x e = [] ∧ setCode x e = 7) := by show _ ∧ _; simp [setLx, setCode, hv, hw]
    rw [hw] at HW
    go_enter Try.func40, Try.ntmps40
    go_wp2_with fail
    rw [← HW2.out, ← HW0.out, ← HP3.out, ← HP2.out, ← HP1.out]
    refine CV.mono ?_
    rintro en w2 ⟨rfl, hb⟩
    have s1 := cell_later hb q1
    have s2 := cell_later hb q2
    go_wp2_with fail
    refine (HW _).mono ?_
    rintro en w2' ⟨rfl, hbw⟩
    replace hb := hb.trans (hbw.mono hb.size)
    have b0 := (q3.later hb).cell (j := 0) rfl
    have bf := (q3.later hb).free
    go_wp2_with fail
    refine bodyPost_ret (v := .tuple #[.agg #[.slice none 0 0], .int .i64 7]) (by simp [results, Try.results40, go_sem, b0]) rfl (finish _ _ _ _ _ _ HZ (Own.nil _ _ _) ?_)
    exact (hb0.trans (hb.mono hlt)).setCell hge3 _
  rw [hw] at HW
  cases hi : inB e.cost 0 1000000
  · have HZ : Hid (setLx x e = [] ∧ setCode x e = 2) := by show _ ∧ _; simp [setLx, setCode, hv, hw, hi]
    rw [hi] at HI
    go_enter Try.func40, Try.ntmps40
    go_wp2_with fail
    rw [← HW2.out, ← HW0.out, ← HP3.out, ← HP2.out, ← HP1.out]
    refine CV.mono ?_
    rintro en w2 ⟨rfl, hb⟩
    have s1 := cell_later hb q1
    have s2 := cell_later hb q2
    go_wp2_with fail
    refine (HW _).mono ?_
    rintro en w2' ⟨rfl, hbw⟩
    replace hb := hb.trans (hbw.mono hb.size)
    have b0 := (q3.later hb).cell (j := 0) rfl
    have bf := (q3.later hb).free
    replace s1 := cell_later hbw s1
    replace s2 := cell_later hbw s2
    clear hbw
    go_wp2_with (go_at_call 84; refine (HI _).mono ?_; rintro en w' ⟨rfl, rfl⟩)
    refine bodyPost_ret (v := .tuple #[.agg #[.slice none 0 0], .int .i64 2]) (by simp [results, Try.results40, go_sem, b0]) rfl (finish _ _ _ _ _ _ HZ (Own.nil _ _ _) ?_)
    exact (hb0.trans (hb.mono hlt)).setCell hge3 _
  rw [hi] at HI
  have hl60 : x.length ≤ 60 := by have h := hv; rw [validLx, Bool.and_eq_true] at h; simpa using h.2
  have hlow := low_le x e.word
  have CP := fun w' (hb : Below W0.heap.size W0 w') => placeOf_any (.agg #[.slice sa x.length sc]) x e.word w' (show rLexicon.at_ 0 w'.heap.size w' (.agg #[.slice sa x.length sc]) x from ⟨_, rfl, (hA.below hb).in_⟩) ok hs
  have CC := fun w' (hb : Below W0.heap.size W0 w') => cloneEn_any _ x w' (hA.below hb) ok
  cases hfd : findLx x e.word with
  | some k =>
    have hk := low_of_find hs hfd
    obtain ⟨a, ha, _⟩ := find_get hfd
    have hkl := (List.getElem?_eq_some_iff.1 ha).1
    have hkli : (k : Int) < (x.length : Int) := by omega
    have HZ : Hid (setLx x e = x.set k e ∧ setCode x e = 0) := by
      show _ ∧ _
      have h1 := put_found hs hfd
      have h2 : ¬ 60 ≤ (without x e.word).length := by rw [without_erase hs hfd, List.length_eraseIdx_of_lt hkl]; omega
      simp only [setLx, setCode, hv, hw, hi, Bool.and_self, if_true, if_neg h2, h1, and_self]
    rw [hfd, hk] at CP
    clear hfd hk ha
    go_enter Try.func40, Try.ntmps40
    go_wp2_with fail
    rw [← HW2.out, ← HW0.out, ← HP3.out, ← HP2.out, ← HP1.out]
    refine CV.mono ?_
    rintro en w2 ⟨rfl, hb⟩
    have s0 := cell_later hb q0
    have s1 := cell_later hb q1
    have s2 := cell_later hb q2
    go_wp2_with fail
    refine (HW _).mono ?_
    rintro en w2' ⟨rfl, hbw⟩
    replace hb := hb.trans (hbw.mono hb.size)
    replace s0 := cell_later hbw s0
    replace s1 := cell_later hbw s1
    replace s2 := cell_later hbw s2
    clear hbw
    go_wp2_with (go_at_call 84; refine (HI _).mono ?_; rintro en w' ⟨rfl, rfl⟩)
    refine (CP w2' hb).mono ?_
    rintro en w3 ⟨rfl, hb3⟩
    have hb4 := hb.trans (hb3.mono hb.size)
    replace s0 := cell_later hb3 s0
    replace s1 := cell_later hb3 s1
    replace s2 := cell_later hb3 s2
    go_wp2_with fail
    refine (CC w3 hb4).mono ?_
    rintro en w4 ⟨u, rfl, ho, hb5⟩
    have hb6 := hb4.trans (hb5.mono hb4.size)
    obtain ⟨gc, cc, rfl, hgB, hgs⟩ := ho.shape.resolve_left (fun hh => by rw [hh.2] at hkl; simp at hkl)
    have t1 := cell_later hb5 s1
    have t2 := cell_later hb5 s2
    obtain ⟨d0, hd0⟩ := ho.slot rfl k hkl 0 (by decide)
    obtain ⟨d1, hd1⟩ := ho.slot rfl k hkl 1 (by decide)
    simp only [Nat.add_zero] at hd0
    have hd0' : w4.cell? ⟨gc, k * 2, none⟩ = some d0 := hd0
    have hd1' : w4.cell? ⟨gc, k * 2 + 1, none⟩ = some d1 := hd1
    have hf4 := ho.free rfl
    have x1 := cell_alloc t1 (.cells #[.slice (some ⟨gc, 0, none⟩) x.length cc] 40)
    have x2 := cell_alloc t2 (.cells #[.slice (some ⟨gc, 0, none⟩) x.length cc] 40)
    have x3 := cell_alloc hd0' (.cells #[.slice (some ⟨gc, 0, none⟩) x.length cc] 40)
    have x4 := cell_alloc hd1' (.cells #[.slice (some ⟨gc, 0, none⟩) x.length cc] 40)
    have hne4 : ¬ w4.heap.size = gc := by omega
    have hne4' : ¬ gc = w4.heap.size := by omega
    clear hd0 hd1
    obtain ⟨w5, hw5⟩ : ∃ w5, w5 = (w4.setCell ⟨gc, k * 2, none⟩ (.string e.word)).setCell ⟨gc, k * 2 + 1, none⟩ (.int .i64 e.cost) := ⟨_, rfl⟩
    have hset : Own eEntry 73 w3.heap.size w5 (.slice (some ⟨gc, 0, none⟩) x.length cc) (x.set k e) := by
      have := (ho.set rfl k hkl e).1
      rw [hw5]; exact this
    have hbs : Below w3.heap.size w3 w5 := by
      rw [hw5]; exact (hb5.setCell hgB _).setCell hgB _
    have e5 : w5.heap.size = w4.heap.size := by rw [hw5]; simp
    have hb7 : Below W0.heap.size W0 w5 := hb4.trans (hbs.mono hb4.size)
    have b5 := q3.later hb7
    have y8 : (w5.alloc (.cells #[.slice (some ⟨gc, 0, none⟩) x.length cc] 40)).cell? ⟨w4.heap.size, 0, none⟩ = some (.slice (some ⟨gc, 0, none⟩) x.length cc) := by rw [← e5]; simp
    have b6 := b5.alloc (.cells #[.slice (some ⟨gc, 0, none⟩) x.length cc] 40)
    have y3 := b6.cell (j := 0) rfl
    have yf := b6.free 0
    have hb8 : Below w.heap.size w (w5.alloc (.cells #[.slice (some ⟨gc, 0, none⟩) x.length cc] 40)) := (hb0.trans (hb7.mono hlt)).alloc (Nat.le_trans hlt hb7.size) _
    have hw3l : w.heap.size ≤ w3.heap.size := Nat.le_trans hlt hb4.size
    have hfin := (((hset.alloc (.cells #[.slice (some ⟨gc, 0, none⟩) x.length cc] 40)).box_set b6 (u := .slice (some ⟨gc, 0, none⟩) x.length cc) (j := 0) (by decide)).mono hw3l)
    have hxl : (x.set k e).length = x.length := by simp
    have HXL := hid hxl
    have HW5 := hid hw5
    rw [hw5] at y8 y3 yf
    clear hw5 hset hbs e5 hb7 b5 b6 hxl
    go_wp2
    rw [← HW5.out]
    refine bodyPost_ret (v := .tuple #[.agg #[.slice (some ⟨gc, 0, none⟩) x.length cc], .int .i64 0]) (by rw [HW5.out]; simp [results, Try.results40, go_sem, y3]) rfl (finish _ _ _ _ _ _ HZ hfin ?_)
    exact hb8.setCell hge3 _
  | none =>
    have hwo := without_none hfd
    have hfs : (findLx x e.word).isSome = false := by rw [hfd]; rfl
    rw [hfs] at CP
    obtain ⟨k, hk⟩ : ∃ k, k = lowLx x e.word := ⟨_, rfl⟩
    rw [← hk] at CP hlow
    by_cases h60 : 60 ≤ x.length
    · have h60i : (60 : Int) ≤ (x.length : Int) := by omega
      have HZ : Hid (setLx x e = [] ∧ setCode x e = 5) := by show _ ∧ _; simp [setLx, setCode, hv, hw, hi, hwo, h60]
      go_enter Try.func40, Try.ntmps40
      go_wp2_with fail
      rw [← HW2.out, ← HW0.out, ← HP3.out, ← HP2.out, ← HP1.out]
      refine CV.mono ?_
      rintro en w2 ⟨rfl, hb⟩
      have s0 := cell_later hb q0
      have s1 := cell_later hb q1
      have s2 := cell_later hb q2
      go_wp2_with fail
      refine (HW _).mono ?_
      rintro en w2' ⟨rfl, hbw⟩
      replace hb := hb.trans (hbw.mono hb.size)
      replace s0 := cell_later hbw s0
      replace s1 := cell_later hbw s1
      replace s2 := cell_later hbw s2
      clear hbw
      go_wp2_with (go_at_call 84; refine (HI _).mono ?_; rintro en w' ⟨rfl, rfl⟩)
      refine (CP w2' hb).mono ?_
      rintro en w3 ⟨rfl, hb3⟩
      have hb4 := hb.trans (hb3.mono hb.size)
      replace s0 := cell_later hb3 s0
      replace s1 := cell_later hb3 s1
      replace s2 := cell_later hb3 s2
      go_wp2_with fail
      refine (CC w3 hb4).mono ?_
      rintro en w4 ⟨u, rfl, ho, hb5⟩
      have hb6 := hb4.trans (hb5.mono hb4.size)
      obtain ⟨su, scu, hu⟩ := ho.isSlice
      subst hu
      have t0 := cell_later hb5 s0
      have t1 := cell_later hb5 s1
      have t2 := cell_later hb5 s2
      have b4 := q3.later hb6
      have hw3l : w.heap.size ≤ w3.heap.size := Nat.le_trans hlt hb4.size
      have b5 := b4.alloc (.cells #[.slice su x.length scu] 40)
      have x0 := cell_alloc t0 (.cells #[.slice su x.length scu] 40)
      have y3 := b5.cell (j := 0) rfl
      have yf := b5.free
      go_wp2_with fail
      refine bodyPost_ret (v := .tuple #[.agg #[.slice none 0 0], .int .i64 5]) (by simp [results, Try.results40, go_sem, y3]) rfl (finish _ _ _ _ _ _ HZ (Own.nil _ _ _) ?_)
      exact ((hb0.trans (hb6.mono hlt)).alloc (Nat.le_trans hlt hb6.size) _).setCell hge3 _
    · have h60i : (x.length : Int) < 60 := by omega
      have h60d : decide ((60 : Int) ≤ (x.length : Int)) = false := by simp; omega
      have HZ : Hid (setLx x e = insL x k e ∧ setCode x e = 0) := by
        show _ ∧ _
        have h1 : putLx x e = insL x k e := by rw [hk]; rfl
        simp only [setLx, setCode, hv, hw, hi, hwo, Bool.and_self, if_true, if_neg h60, h1, and_self]
      clear hk
      go_enter Try.func40, Try.ntmps40
      go_wp2_with fail
      rw [← HW2.out, ← HW0.out, ← HP3.out, ← HP2.out, ← HP1.out]
      refine CV.mono ?_
      rintro en w2 ⟨rfl, hb⟩
      have s0 := cell_later hb q0
      have s1 := cell_later hb q1
      have s2 := cell_later hb q2
      go_wp2_with fail
      refine (HW _).mono ?_
      rintro en w2' ⟨rfl, hbw⟩
      replace hb := hb.trans (hbw.mono hb.size)
      replace s0 := cell_later hbw s0
      replace s1 := cell_later hbw s1
      replace s2 := cell_later hbw s2
      clear hbw
      go_wp2_with (go_at_call 84; refine (HI _).mono ?_; rintro en w' ⟨rfl, rfl⟩)
      refine (CP w2' hb).mono ?_
      rintro en w3 ⟨rfl, hb3⟩
      have hb4 := hb.trans (hb3.mono hb.size)
      replace s0 := cell_later hb3 s0
      replace s1 := cell_later hb3 s1
      replace s2 := cell_later hb3 s2
      go_wp2_with fail
      refine (CC w3 hb4).mono ?_
      rintro en w4 ⟨u, rfl, ho, hb5⟩
      have hb6 := hb4.trans (hb5.mono hb4.size)
      obtain ⟨su, scu, hu⟩ := ho.isSlice
      subst hu
      have t0 := cell_later hb5 s0
      have t1 := cell_later hb5 s1
      have t2 := cell_later hb5 s2
      have b4 := q3.later hb6
      have hw3l : w.heap.size ≤ w3.heap.size := Nat.le_trans hlt hb4.size
      have b5 := b4.alloc (.cells #[.slice su x.length scu] 40)
      obtain ⟨w6, hw6⟩ : ∃ w6, w6 = (w4.alloc (.cells #[.slice su x.length scu] 40)).alloc (.cells #[.string e.word, .int .i64 e.cost] 73) := ⟨_, rfl⟩
      have b6 : Box w6 p3 #[.slice none 0 0] 40 := by rw [hw6]; exact b5.alloc _
      have b8 : Box w6 w4.heap.size #[.slice su x.length scu] 40 := by rw [hw6]; exact (Box.new _ _ _).alloc _
      have bq : Box w6 (w4.heap.size + 1) #[.string e.word, .int .i64 e.cost] 73 := by
        rw [hw6]
        have := Box.new (w4.alloc (.cells #[.slice su x.length scu] 40)) #[.string e.word, .int .i64 e.cost] 73
        simp at this
        exact this
      have ho6 : Own eEntry 73 w3.heap.size w6 (.slice su x.length scu) x := by rw [hw6]; exact (ho.alloc _).alloc _
      have hb36 : Below w3.heap.size w3 w6 := by rw [hw6]; exact (hb5.alloc hb5.size _).alloc (by have := hb5.size; simp; omega) _
      have e6 : w6.heap.size = w4.heap.size + 2 := by rw [hw6]; simp
      have h34 := hb5.size
      have x0 := cell_alloc t0 (.cells #[.slice su x.length scu] 40)
      have x1 := cell_alloc t1 (.cells #[.slice su x.length scu] 40)
      have x2 := cell_alloc t2 (.cells #[.slice su x.length scu] 40)
      have HINS : Hid (Calls Try.prog 92 #[.slice su x.length scu, .int .i64 k, .slice (some ⟨w4.heap.size + 1, 0, none⟩) 1 1] w6 fun en w' => ∃ u, en = .returned u ∧ Own eEntry 73 w3.heap.size w' u (insL x k e) ∧ Box w' w4.heap.size #[.slice su x.length scu] 40 ∧ Box w' p3 #[.slice none 0 0] 40 ∧ Below w3.heap.size w6 w') := by
        have hp3 : p3 < w3.heap.size := (q3.later hb4).lt
        rcases ho6.shape with ⟨hn, h0⟩ | ⟨gc, cc, hn, hgB, hgl⟩
        · simp only [Value.slice.injEq] at hn
          obtain ⟨rfl, _, rfl⟩ := hn
          have hk0 : k = 0 := by rw [h0] at hlow; simpa using hlow
          subst hk0
          subst h0
          refine (insertEntryNil_any w3.heap.size (w4.heap.size + 1) e w6 bq (by omega)).mono ?_
          rintro en w' ⟨u, rfl, h1, h2⟩
          exact ⟨u, rfl, h1, (h2.block _ b8.lt (by simp)).trans b8, (h2.block _ b6.lt (by simp)).trans b6, below_grown h2 (fun k hk => by cases hk) (by omega)⟩
        · simp only [Value.slice.injEq] at hn
          obtain ⟨rfl, _, rfl⟩ := hn
          have hgc4 : gc < w4.heap.size := ho.lt.2
          refine (insertEntry_any gc scu x.length k w3.heap.size (w4.heap.size + 1) x e w6 ho6 rfl hlow bq (by omega) (by omega) (by omega)).mono ?_
          rintro en w' ⟨u, rfl, h1, h2⟩
          exact ⟨u, rfl, h1, (h2.block _ b8.lt (by intro hh; have := Option.some.inj hh; omega)).trans b8, (h2.block _ b6.lt (by intro hh; have := Option.some.inj hh; omega)).trans b6, below_grown h2 (fun k hk => by cases hk; exact hgB) (by omega)⟩
      have HW6 := hid hw6
      clear hw6 ho6 b5 b6 b8 bq
      go_wp2_with (go_at_call 92; rw [← HW6.out]; refine HINS.out.mono ?_; rintro en w7 ⟨u7, rfl, ho7, b87, b37, hb7⟩; have y8 := b87.cell (j := 0) rfl; have y8f := b87.free; obtain ⟨s7, c7, hu7⟩ := ho7.isSlice; subst hu7; have y3 := cell_other (b37.cell (j := 0) rfl) (a := ⟨w4.heap.size, 0, none⟩) (u := .slice s7 (insL x k e).length c7) (by have := (q3.later hb6).lt; simp; omega); have y3f := b37.free)
      refine bodyPost_ret (v := .tuple #[.agg #[.slice s7 (insL x k e).length c7], .int .i64 0]) (by simp [results, Try.results40, go_sem, y3]) rfl (finish _ _ _ _ _ _ HZ ?_ ?_)
      · have h1 := ho7.box_set b87 (u := .slice s7 (insL x k e).length c7) (j := 0) (by decide)
        have hp34 : p3 ≠ w4.heap.size := by have := (q3.later hb6).lt; omega
        have b38 : Box (w7.setCell ⟨w4.heap.size, 0, none⟩ (.slice s7 (insL x k e).length c7)) p3 #[.slice none 0 0] 40 := by
          unfold Box
          rw [Below.heap_setCell _ _ _ _ (by exact hp34)]
          exact b37
        exact (h1.box_set b38 (u := .slice s7 (insL x k e).length c7) (j := 0) (by decide)).mono hw3l
      · exact (((hb0.trans (hb4.mono hlt)).trans ((hb36.trans hb7).mono hw3l)).setCell (Nat.le_trans hw3l h34) _).setCell hge3 _
end Go.Proofs.Ytnanegdcoegahaa
