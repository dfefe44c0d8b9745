/- Rows that are put in order when their node is reached: bounds, step by step. Plain lemmas, no program. -/
import Derived.Test.YtcikndmmbfompaaGreatDoorRdRows
namespace Go.Proofs.YtcikndmmbfompaaGreatDoor

/-- a node's edges, the first j of all -/
def partR (G : List DReading → List DReading) (beg : ByteArray → Bool) (x : List DEdge) (st : SR) (n j : Nat) : SR := (x.take j).foldl (fun s e => if decide (fr e = n) = true then layR beg s e else s) (setR st n (G (st n)))
theorem partR_zero (G : List DReading → List DReading) (beg : ByteArray → Bool) (x : List DEdge) (st : SR) (n : Nat) : partR G beg x st n 0 = setR st n (G (st n)) := rfl
theorem partR_all (G : List DReading → List DReading) (beg : ByteArray → Bool) (x : List DEdge) (st : SR) (n : Nat) : partR G beg x st n x.length = nodeR G beg x st n := by
  unfold partR nodeR; rw [List.take_length]
theorem partR_at {G : List DReading → List DReading} {beg : ByteArray → Bool} {x : List DEdge} {st : SR} {n j : Nat} {e : DEdge} (h : x[j]? = some e) :
    partR G beg x st n (j + 1) = if fr e = n then layR beg (partR G beg x st n j) e else partR G beg x st n j := by
  unfold partR
  rw [List.take_add_one, h]
  simp only [Option.toList_some, List.foldl_append, List.foldl_cons, List.foldl_nil, decide_eq_true_eq]
/-- an edge, over the first q readings at its start -/
def layQ (beg : ByteArray → Bool) (st : SR) (e : DEdge) (q : Nat) : SR := setR st (to e) (st (to e) ++ extsR beg e ((st (fr e)).take q))
theorem layQ_zero (beg : ByteArray → Bool) (st : SR) (e : DEdge) : layQ beg st e 0 = st := by
  funext v
  unfold layQ setR
  split
  · rename_i h; rw [h]; simp [extsR]
  · rfl
theorem layQ_all (beg : ByteArray → Bool) (st : SR) (e : DEdge) : layQ beg st e (st (fr e)).length = layR beg st e := by
  unfold layQ layR; rw [List.take_length]
theorem layQ_from {beg : ByteArray → Bool} {st : SR} {e : DEdge} {q : Nat} (h : fr e < to e) : layQ beg st e q (fr e) = st (fr e) := by
  unfold layQ setR; rw [if_neg (by omega)]
theorem layQ_at {beg : ByteArray → Bool} {st : SR} {e : DEdge} {q : Nat} {r : DReading} (h : (st (fr e))[q]? = some r) :
    layQ beg st e (q + 1) = if beg (extR r e).text = true then setR (layQ beg st e q) (to e) (layQ beg st e q (to e) ++ [extR r e]) else layQ beg st e q := by
  unfold layQ
  rw [extsR_take h]
  cases hb : beg (extR r e).text with
  | false => simp
  | true =>
    simp only [if_true]
    funext v
    unfold setR
    by_cases hv : v = to e
    · simp [hv]
    · simp [hv]
/-- rows are no longer than B, the row n no longer than m, and a text has no more letters than its node's number -/
def okB (B : Nat) (st : SR) : Prop := ∀ v, (st v).length ≤ B ∧ ∀ r ∈ st v, r.text.size ≤ v
theorem okB.mono {B B' : Nat} {st : SR} (h : okB B st) (hB : B ≤ B') : okB B' st := fun v => ⟨Nat.le_trans (h v).1 hB, (h v).2⟩
theorem okB.layQ {B m : Nat} {beg : ByteArray → Bool} {st : SR} {e : DEdge} (h : okB B st) (hn : (st (fr e)).length ≤ m) (hl : fr e < to e) (hs : e.label.size = 1) (q : Nat) : okB (B + m) (layQ beg st e q) := by
  intro v
  unfold Go.Proofs.YtcikndmmbfompaaGreatDoor.layQ setR
  split
  · rename_i hv
    subst hv
    refine ⟨?_, fun r hr => ?_⟩
    · have h1 : (extsR beg e ((st (fr e)).take q)).length ≤ ((st (fr e)).take q).length := by unfold extsR; exact Nat.le_trans (List.length_filter_le _ _) (by simp)
      have h2 := (h (to e)).1
      rw [List.length_take] at h1
      rw [List.length_append]; omega
    · rcases List.mem_append.1 hr with h1 | h1
      · exact (h _).2 r h1
      · obtain ⟨p, hp, rfl, _⟩ := extsR_mem h1
        have := (h (fr e)).2 p (List.mem_of_mem_take hp)
        rw [extR_size]; omega
  · exact ⟨Nat.le_trans (h v).1 (by omega), (h v).2⟩
theorem okB.put {B m : Nat} {st : SR} {n : Nat} {L : List DReading} (h : okB B st) (hm : m ≤ B) (hL : L.length ≤ m) (hT : ∀ r ∈ L, r ∈ st n) : okB B (setR st n L) := by
  intro v
  unfold setR
  split
  · rename_i hv; subst hv; exact ⟨by omega, fun r hr => (h _).2 r (hT r hr)⟩
  · exact h v
theorem flat_bd {m : Nat} (f : DEdge → List DReading) : ∀ (l : List DEdge), (∀ e ∈ l, (f e).length ≤ m) → (l.flatMap f).length ≤ l.length * m
  | [], _ => by simp
  | a :: l, h => by
    have h1 := h a List.mem_cons_self
    have h2 := flat_bd f l fun e he => h e (List.mem_cons_of_mem _ he)
    rw [List.flatMap_cons, List.length_append, List.length_cons, Nat.add_mul]; omega
/-- what stays of the rows, node by node -/
theorem raw_bd {N m : Nat} {x : List DEdge} (hg : Good N x) (hr : Rises x) (hlab : ∀ e ∈ x, e.label.size = 1) (G : List DReading → List DReading) (beg : ByteArray → Bool) (I : List DReading) (D : SR) (h0 : D 0 = I) (hI : G I = I) (hD : ∀ v, 0 < v → v < N → D v = G (inR beg x D v))
    (hI1 : I.length ≤ 1) (hI2 : ∀ r ∈ I, r.text.size = 0) (hok : ∀ v, v < N → (D v).length ≤ m ∧ ∀ r ∈ D v, r.text.size ≤ v) (hm : 1 ≤ m) {k : Nat} (hk : k ≤ N) : okB (m + x.length * m) (rawR G beg I x k) := by
  obtain ⟨h1, h2⟩ := raw_eq hg hr G beg I D h0 hI hD k hk
  intro v
  rcases Nat.lt_or_ge v k with hv | hv
  · rw [h1 v hv]
    exact ⟨by have := (hok v (by omega)).1; omega, (hok v (by omega)).2⟩
  · rw [h2 v hv]
    refine ⟨?_, fun r hr' => ?_⟩
    · rw [List.length_append]
      have h3 : (startR I v).length ≤ 1 := by unfold startR; split <;> simp [hI1]
      have h4 := flat_bd (m := m) (fun e => extsR beg e (D (fr e))) ((x.filter fun e => decide (fr e < k)).filter fun e => decide (to e = v)) (fun e he => by
        have he1 := (List.mem_filter.1 (List.mem_filter.1 he).1).1
        have h5 : (extsR beg e (D (fr e))).length ≤ (D (fr e)).length := by unfold extsR; exact Nat.le_trans (List.length_filter_le _ _) (by simp)
        have := hg.lt he1
        have := (hok (fr e) (by omega)).1
        omega)
      have h6 : ((x.filter fun e => decide (fr e < k)).filter fun e => decide (to e = v)).length ≤ x.length := Nat.le_trans (List.length_filter_le _ _) (List.length_filter_le _ _)
      have h7 := Nat.mul_le_mul_right m h6
      omega
    · rcases List.mem_append.1 hr' with h3 | h3
      · unfold startR at h3
        split at h3
        · rw [hI2 r h3]; omega
        · cases h3
      · obtain ⟨e, he, h4⟩ := List.mem_flatMap.1 h3
        obtain ⟨he1, he2⟩ := List.mem_filter.1 he
        have he3 := (List.mem_filter.1 he1).1
        obtain ⟨q, hq, rfl, _⟩ := extsR_mem h4
        have h5 := hg.lt he3
        have h6 := (hok (fr e) (by omega)).2 q hq
        have h7 := hlab e he3
        simp at he2
        rw [extR_size]; omega
end Go.Proofs.YtcikndmmbfompaaGreatDoor
namespace Go.Proofs.YtcikndmmbfompaaGreatDoor
/-! ### texts that differ and begin a word are few -/
theorem nodup_le {α : Type} [DecidableEq α] : ∀ (l P : List α), l.Nodup → (∀ a ∈ l, a ∈ P) → l.length ≤ P.length
  | [], _, _, _ => Nat.zero_le _
  | a :: l, P, hn, hs => by
    obtain ⟨h1, h2⟩ := List.nodup_cons.1 hn
    have h3 := hs a List.mem_cons_self
    have h4 := nodup_le l (P.erase a) h2 fun b hb => (List.mem_erase_of_ne (fun e : b = a => h1 (by rw [← e]; exact hb))).2 (hs b (List.mem_cons_of_mem _ hb))
    have h5 := List.length_erase_of_mem h3
    have h6 : 0 < P.length := List.length_pos_of_mem h3
    rw [List.length_cons]; omega
theorem texts_nodup {L : List DReading} (h : L.Pairwise fun a b => smR a b = false) : (L.map fun r => r.text.toList).Nodup := by
  rw [List.nodup_iff_pairwise_ne, List.pairwise_map]
  refine h.imp fun {a b} hab e => ?_
  have : smR a b = true := by unfold smR eqS; simp [e]
  rw [this] at hab; cases hab
theorem best_le (S : List DReading) : (S.foldl insR []).length ≤ S.length := by
  have h := topR_best S
  have h1 := nodup_le _ (S.map fun r => r.text.toList) (texts_nodup h.2.1) fun a ha => by
    obtain ⟨r, hr, rfl⟩ := List.mem_map.1 ha
    exact List.mem_map.2 ⟨r, ((h.2.2 r).1 hr).1, rfl⟩
  simpa using h1
def allP (y : XLexicon) : List (List UInt8) := y.flatMap fun e => (List.range 11).map fun i => e.word.toList.take i
theorem allP_len (y : XLexicon) : (allP y).length = y.length * 11 := by
  unfold allP
  induction y with
  | nil => rfl
  | cons a t ih => rw [List.flatMap_cons, List.length_append, ih, List.length_cons]; simp; omega
theorem beg_mem {y : XLexicon} (hv : validLx y = true) {s : ByteArray} (h : begLx y s = true) : s.toList ∈ allP y := by
  obtain ⟨e, he, hp⟩ := List.any_eq_true.1 h
  have hp' := preB_iff.1 hp
  obtain ⟨k, hk⟩ := List.mem_iff_getElem?.1 he
  have hw : isWordB e.word = true := by
    cases hb : isWordB e.word with
    | true => rfl
    | false =>
      have h1 : entOk y k e = false := by simp [entOk, hb]
      rw [validLx_at hk h1] at hv; cases hv
  have hsz : e.word.size ≤ 10 := by
    unfold isWordB at hw
    rw [Bool.and_eq_true] at hw
    have := (inB_true.1 hw.2).2
    omega
  have hle := hp'.length_le
  rw [toList_len] at hle
  refine List.mem_flatMap.2 ⟨e, he, List.mem_map.2 ⟨s.toList.length, by simp; rw [toList_len] at *; omega, (List.prefix_iff_eq_take.1 hp').symm⟩⟩
theorem beg_few {y : XLexicon} (hv : validLx y = true) {S : List DReading} (hS : ∀ r ∈ S, begLx y r.text = true) : (S.foldl insR []).length ≤ 660 := by
  have h := topR_best S
  have h1 := nodup_le _ (allP y) (texts_nodup h.2.1) fun a ha => by
    obtain ⟨r, hr, rfl⟩ := List.mem_map.1 ha
    exact beg_mem hv (hS r ((h.2.2 r).1 hr).1)
  rw [allP_len, List.length_map] at h1
  have h2 : y.length ≤ 60 := by
    unfold validLx at hv
    rw [Bool.and_eq_true] at hv
    simpa using hv.2
  omega
theorem top_whole (S : List DReading) : topR S.length S = S.foldl insR [] := by rw [topR_take, List.take_of_length_le (best_le S)]
theorem inR_beg {beg : ByteArray → Bool} {x : List DEdge} {D : SR} {v : Nat} {r : DReading} (h : r ∈ inR beg x D v) : beg r.text = true := by
  obtain ⟨e, _, h1⟩ := List.mem_flatMap.1 h
  obtain ⟨_, _, _, h2⟩ := extsR_mem h1
  exact h2
/-! ### the two ways -/
def I0 : List DReading := [⟨⟨#[]⟩, 0⟩]
theorem okT_fold {m : Nat} {beg : ByteArray → Bool} {N : Nat} {x : List DEdge} (hg : Good N x) (hr : Rises x) (hlab : ∀ e ∈ x, e.label.size = 1) {I : List DReading} (hI2 : ∀ r ∈ I, r.text.size = 0) : ∀ v r, r ∈ statesR m beg I x v → r.text.size ≤ v := by
  intro v
  induction v using Nat.strongRecOn with
  | ind v ih =>
    intro r h
    rcases Nat.eq_zero_or_pos v with h0 | h0
    · subst h0
      rw [states_zero hg hr] at h
      rw [hI2 r h]; omega
    · rw [states_pos hg hr _ _ _ h0] at h
      obtain ⟨e, he, h1⟩ := List.mem_flatMap.1 (topR_mem h)
      obtain ⟨he1, he2⟩ := List.mem_filter.1 he
      obtain ⟨q, hq, rfl, _⟩ := extsR_mem h1
      have h3 := hg.lt he1
      simp at he2
      have h4 := ih (fr e) (by omega) q hq
      have h5 := hlab e he1
      rw [extR_size]; omega
theorem states_len {m : Nat} {beg : ByteArray → Bool} {N : Nat} {x : List DEdge} (hg : Good N x) (hr : Rises x) {I : List DReading} (hI : I.length ≤ 1) (hm : 1 ≤ m) (v : Nat) : (statesR m beg I x v).length ≤ m := by
  rcases Nat.eq_zero_or_pos v with h | h
  · subst h; rw [states_zero hg hr]; omega
  · rw [states_pos hg hr _ _ _ h]; exact topR_len _ _
/-- what is needed of a way to put rows in order -/
structure WayR (G : List DReading → List DReading) (beg : ByteArray → Bool) (I : List DReading) (N m : Nat) (x : List DEdge) (D : SR) : Prop where
  bd : ∀ k, k ≤ N → okB (m + x.length * m) (rawR G beg I x k)
  at_ : ∀ k, k ≤ N → ∀ v, v < k → rawR G beg I x k v = D v
  len : ∀ v, (D v).length ≤ m
theorem way_at {G : List DReading → List DReading} {beg : ByteArray → Bool} {I : List DReading} {N m : Nat} {x : List DEdge} {D : SR} (h : WayR G beg I N m x D) {k : Nat} (hk : k < N) (hg : Good N x) : (G (rawR G beg I x k k)).length ≤ m := by
  have h1 := h.at_ (k + 1) hk k (by omega)
  rw [rawR_succ] at h1
  unfold nodeR at h1
  have h2 : ∀ (l : List DEdge) (st : SR), (∀ e ∈ l, fr e < to e) → (l.foldl (fun s e => if decide (fr e = k) = true then layR beg s e else s) st) k = st k := by
    intro l
    induction l with
    | nil => intro st _; rfl
    | cons a l ih =>
      intro st hl
      rw [List.foldl_cons, ih _ fun e he => hl e (List.mem_cons_of_mem _ he)]
      by_cases hf : fr a = k
      · rw [if_pos (by simpa using hf)]
        have := hl a List.mem_cons_self
        unfold layR setR; rw [if_neg (by omega)]
      · rw [if_neg (by simpa using hf)]
  rw [h2 x _ (fun e he => (hg.lt he).1)] at h1
  unfold setR at h1
  rw [if_pos rfl] at h1
  rw [h1]; exact h.len k
theorem best_way {N m : Nat} {x : List DEdge} (hg : Good N x) (hr : Rises x) (hlab : ∀ e ∈ x, e.label.size = 1) (hm : 1 ≤ m) : WayR (topR m) (fun _ => true) I0 N m x (statesR m (fun _ => true) I0 x) := by
  have hT := okT_fold (m := m) (beg := fun _ => true) hg hr hlab (I := I0) (by intro r h; unfold I0 at h; rw [List.mem_singleton.1 h]; rfl)
  have hL := states_len (m := m) (beg := fun _ => true) hg hr (I := I0) (by simp [I0]) hm
  have hI : topR m I0 = I0 := by rw [topR_take]; show List.take m [_] = _; rw [List.take_of_length_le (by simp; omega)]; rfl
  have hD := fun v (h : 0 < v) (_ : v < N) => states_pos hg hr m (fun _ => true) I0 h
  exact ⟨fun k hk => raw_bd hg hr hlab _ _ I0 _ (states_zero hg hr _ _ _) hI hD (by simp [I0]) (by intro r h; unfold I0 at h; rw [List.mem_singleton.1 h]; rfl) (fun v _ => ⟨hL v, hT v⟩) hm hk,
    fun k hk => (raw_eq hg hr _ _ I0 _ (states_zero hg hr _ _ _) hI hD k hk).1, hL⟩
theorem beg0_le (y : XLexicon) : (beg0 y).length ≤ 1 := by unfold beg0; split <;> simp
theorem beg0_sz (y : XLexicon) : ∀ r ∈ beg0 y, r.text.size = 0 := by
  intro r h; unfold beg0 at h
  split at h
  · rw [List.mem_singleton.1 h]; rfl
  · cases h
def wholeR (S : List DReading) : List DReading := topR S.length S
theorem pref_way {N : Nat} {x : List DEdge} {y : XLexicon} (hg : Good N x) (hr : Rises x) (hlab : ∀ e ∈ x, e.label.size = 1) (hy : validLx y = true) : WayR wholeR (begLx y) (beg0 y) N 1000 x (statesR 1000 (begLx y) (beg0 y) x) := by
  have hT := okT_fold (m := 1000) (beg := begLx y) hg hr hlab (I := beg0 y) (beg0_sz y)
  have hL := states_len (m := 1000) (beg := begLx y) hg hr (I := beg0 y) (beg0_le y) (by omega)
  have hI : wholeR (beg0 y) = beg0 y := by unfold beg0; split <;> rfl
  have hD : ∀ v, 0 < v → v < N → statesR 1000 (begLx y) (beg0 y) x v = wholeR (inR (begLx y) x (statesR 1000 (begLx y) (beg0 y) x) v) := fun v h _ => by
    rw [states_pos hg hr 1000 (begLx y) (beg0 y) h, wholeR, top_whole, topR_take, List.take_of_length_le]
    exact Nat.le_trans (beg_few hy fun r hr => inR_beg hr) (by omega)
  exact ⟨fun k hk => raw_bd hg hr hlab _ _ _ _ (states_zero hg hr _ _ _) hI hD (beg0_le y) (beg0_sz y) (fun v _ => ⟨hL v, hT v⟩) (by omega) hk,
    fun k hk => (raw_eq hg hr _ _ _ _ (states_zero hg hr _ _ _) hI hD k hk).1, hL⟩
end Go.Proofs.YtcikndmmbfompaaGreatDoor
