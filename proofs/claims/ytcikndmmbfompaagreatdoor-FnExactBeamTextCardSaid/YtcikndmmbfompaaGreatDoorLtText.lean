/- The least cost of a path with a text: as a table over nodes and places, and as rows place by place. Plain lemmas, no program. -/
import Derived.Test.YtcikndmmbfompaaGreatDoorLtDist
import Derived.Test.YtcikndmmbfompaaGreatDoorCmp
namespace Go.Proofs.YtcikndmmbfompaaGreatDoor

def pieceAt (s : ByteArray) (k : Nat) : ByteArray := s.extract k (k + 1)
abbrev TF := Nat → Nat → Int
/-- an edge, at the places up to m -/
def upK (s : ByteArray) (e : DEdge) (m : Nat) (T : TF) : TF := fun v k => if v = to e ∧ 1 ≤ k ∧ k ≤ m ∧ eqS (pieceAt s (k - 1)) e.label = true then min (T v k) (T (fr e) (k - 1) + e.cost) else T v k
def upT (s : ByteArray) (T : TF) (e : DEdge) : TF := upK s e s.size T
def T0 : TF := fun v k => if v = 0 ∧ k = 0 then 0 else NW
def tabT (s : ByteArray) (x : List DEdge) : TF := x.foldl (upT s) T0
def stC (s : ByteArray) (k : Nat) (C : Nat → Int) (N : Nat → Int) (e : DEdge) : Nat → Int := fun v => if v = to e ∧ eqS (pieceAt s k) e.label = true then min (N v) (C (fr e) + e.cost) else N v
def rowC (s : ByteArray) (x : List DEdge) : Nat → Nat → Int
  | 0 => fun v => if v = 0 then 0 else NW
  | k + 1 => x.foldl (stC s k (rowC s x k)) (fun _ => NW)

theorem foldl_take {β : Type} {g : β → DEdge → β} {D : β} {x : List DEdge} {j : Nat} {e : DEdge} (h : x[j]? = some e) : (x.take (j + 1)).foldl g D = g ((x.take j).foldl g D) e := by
  rw [List.take_add_one, h]; simp
theorem tab_fix {n : Nat} {x : List DEdge} (hg : Good n x) (hr : Rises x) (s : ByteArray) {j : Nat} {e : DEdge} (he : x[j]? = some e) : ∀ (d : Nat), j + d ≤ x.length → ∀ k, ((x.take (j + d)).foldl (upT s) T0) (fr e) k = ((x.take j).foldl (upT s) T0) (fr e) k
  | 0, _, k => rfl
  | d + 1, hd, k => by
    obtain ⟨e', he'⟩ : ∃ e', x[j + d]? = some e' := ⟨_, List.getElem?_eq_getElem (by omega)⟩
    have h1 := hg.lt (List.mem_of_getElem? he')
    have h2 : fr e ≤ fr e' := by
      obtain ⟨i1, r1⟩ := List.getElem?_eq_some_iff.1 he
      obtain ⟨i2, r2⟩ := List.getElem?_eq_some_iff.1 he'
      subst r1
      subst r2
      rcases Nat.eq_zero_or_pos d with hd0 | hd0
      · subst hd0; exact Nat.le_refl _
      · exact List.pairwise_iff_getElem.1 hr j (j + d) i1 i2 (by omega)
    rw [← Nat.add_assoc, foldl_take he', ← tab_fix hg hr s he d (by omega) k]
    show (if fr e = to e' ∧ _ then _ else _) = _
    rw [if_neg (by rintro ⟨h, _⟩; omega)]
theorem tab_zero (s : ByteArray) : ∀ (x : List DEdge) (T : TF) (v : Nat), (x.foldl (upT s) T) v 0 = T v 0
  | [], _, _ => rfl
  | e :: x, T, v => by
    rw [List.foldl_cons, tab_zero s x]
    show (if v = to e ∧ 1 ≤ 0 ∧ _ then _ else _) = _
    rw [if_neg (by rintro ⟨_, h, _⟩; omega)]
theorem tab_col {n : Nat} {x : List DEdge} (hg : Good n x) (hr : Rises x) (s : ByteArray) {k : Nat} (hk : k < s.size) : ∀ (j : Nat), j ≤ x.length → ∀ v, ((x.take j).foldl (upT s) T0) v (k + 1) = ((x.take j).foldl (stC s k (fun u => tabT s x u k)) (fun _ => NW)) v
  | 0, _, v => by simp [T0]
  | j + 1, hj, v => by
    obtain ⟨e, he⟩ : ∃ e, x[j]? = some e := ⟨_, List.getElem?_eq_getElem (by omega)⟩
    rw [foldl_take he, foldl_take he]
    have ih := tab_col hg hr s hk j (by omega)
    have hf : ((x.take j).foldl (upT s) T0) (fr e) k = tabT s x (fr e) k := by
      have := tab_fix hg hr s he (x.length - j) (by omega) k
      rw [show j + (x.length - j) = x.length by omega, List.take_length] at this
      exact this.symm
    show (if v = to e ∧ 1 ≤ k + 1 ∧ k + 1 ≤ s.size ∧ eqS (pieceAt s (k + 1 - 1)) e.label = true then min (_) (((x.take j).foldl (upT s) T0) (fr e) (k + 1 - 1) + e.cost) else _) = (if v = to e ∧ eqS (pieceAt s k) e.label = true then min (_) (tabT s x (fr e) k + e.cost) else _)
    rw [Nat.add_sub_cancel, hf, ih v]
    by_cases h : v = to e ∧ eqS (pieceAt s k) e.label = true
    · rw [if_pos h, if_pos ⟨h.1, by omega, by omega, h.2⟩]
    · rw [if_neg h, if_neg (by rintro ⟨h1, _, _, h2⟩; exact h ⟨h1, h2⟩)]
theorem tab_row {n : Nat} {x : List DEdge} (hg : Good n x) (hr : Rises x) (s : ByteArray) : ∀ (k : Nat), k ≤ s.size → ∀ v, tabT s x v k = rowC s x k v
  | 0, _, v => by
    show (x.foldl (upT s) T0) v 0 = _
    rw [tab_zero]; simp [T0, rowC]
  | k + 1, hk, v => by
    have ih : (fun u => tabT s x u k) = rowC s x k := funext fun u => tab_row hg hr s k (by omega) u
    have := tab_col hg hr s (by omega : k < s.size) x.length (Nat.le_refl _) v
    rw [List.take_length, ih] at this
    exact this

/-- small values -/
def okC (C : Nat → Int) : Prop := ∀ v, C v = NW ∨ (0 ≤ C v ∧ C v ≤ 1000000 * (v : Int))
theorem okC_st {n : Nat} {x : List DEdge} (hg : Good n x) {e : DEdge} (he : e ∈ x) {s : ByteArray} {k : Nat} {C N : Nat → Int} (hC : okC C) (hN : okC N) : okC (stC s k C N e) := by
  intro v
  have h1 := hg.lt he
  have h2 := (hg e he).2.2.2
  have eN := NW_eq
  unfold stC
  split
  · rename_i h
    have a1 := hN v
    have a2 := hC (fr e)
    rw [h.1] at *
    omega
  · exact hN v
theorem okC_fold {n : Nat} {x : List DEdge} (hg : Good n x) {s : ByteArray} {k : Nat} {C : Nat → Int} (hC : okC C) : ∀ (y : List DEdge) (_ : ∀ e ∈ y, e ∈ x) (N : Nat → Int) (_ : okC N), okC (y.foldl (stC s k C) N)
  | [], _, _, h => h
  | e :: y, hs, _, h => okC_fold hg hC y (fun f hf => hs f (List.mem_cons_of_mem _ hf)) _ (okC_st hg (hs e List.mem_cons_self) hC h)
theorem okC_nw : okC fun _ => NW := fun _ => .inl rfl
theorem okC_row {n : Nat} {x : List DEdge} (hg : Good n x) (s : ByteArray) : ∀ k, okC (rowC s x k)
  | 0 => fun v => by
    show (if v = 0 then (0 : Int) else NW) = NW ∨ _
    by_cases h : v = 0
    · right; subst h; simp [rowC]
    · left; rw [if_neg h]
  | k + 1 => okC_fold hg (okC_row hg s k) x (fun _ h => h) _ okC_nw
/-- a path to the node v has at most v edges -/
theorem row_far {n : Nat} {x : List DEdge} (hg : Good n x) (s : ByteArray) : ∀ k v, v < k → rowC s x k v = NW
  | 0, _, h => by omega
  | k + 1, v, hv => by
    have ih := row_far hg s k
    have key : ∀ (y : List DEdge) (_ : ∀ e ∈ y, e ∈ x) (N : Nat → Int) (_ : ∀ u, u < k + 1 → N u = NW) (u : Nat), u < k + 1 → (y.foldl (stC s k (rowC s x k)) N) u = NW := by
      intro y
      induction y with
      | nil => intro _ N hN u hu; exact hN u hu
      | cons e y ihy =>
        intro hs N hN u hu
        refine ihy (fun f hf => hs f (List.mem_cons_of_mem _ hf)) _ (fun u hu => ?_) u hu
        have h1 := hg.lt (hs e List.mem_cons_self)
        have h2 := (hg e (hs e List.mem_cons_self)).2.2.2
        show (if u = to e ∧ _ then min (N u) (rowC s x k (fr e) + e.cost) else N u) = NW
        split
        · rename_i h
          rw [hN u hu, ih (fr e) (by omega)]; omega
        · exact hN u hu
    exact key x (fun _ h => h) _ (fun _ _ => rfl) v hv
/-- where nothing goes on, nothing comes -/
theorem row_dead {n : Nat} {x : List DEdge} (hg : Good n x) (s : ByteArray) {k : Nat} (h : ∀ v, rowC s x k v = NW) : ∀ d v, rowC s x (k + d) v = NW
  | 0, v => h v
  | d + 1, v => by
    have ih := row_dead hg s h d
    have key : ∀ (y : List DEdge) (_ : ∀ e ∈ y, e ∈ x) (N : Nat → Int) (_ : ∀ u, N u = NW) (u : Nat), (y.foldl (stC s (k + d) (rowC s x (k + d))) N) u = NW := by
      intro y
      induction y with
      | nil => intro _ N hN u; exact hN u
      | cons e y ihy =>
        intro hs N hN u
        refine ihy (fun f hf => hs f (List.mem_cons_of_mem _ hf)) _ (fun u => ?_) u
        have h2 := (hg e (hs e List.mem_cons_self)).2.2.2
        show (if u = to e ∧ _ then min (N u) (rowC s x (k + d) (fr e) + e.cost) else N u) = NW
        split
        · rw [hN u, ih]; omega
        · exact hN u
    exact key x (fun _ h => h) _ (fun _ => rfl) v

/-- node by node -/
def gT (s : ByteArray) (k : Nat) (T : TF) (e : DEdge) : TF := if fr e = k then upT s T e else T
def tTo (s : ByteArray) (x : List DEdge) : Nat → TF
  | 0 => T0
  | k + 1 => x.foldl (gT s k) (tTo s x k)
theorem tTo_fold (s : ByteArray) (x : List DEdge) : ∀ m, tTo s x m = (List.range m).foldl (fun a k => x.foldl (fun a e => if decide (fr e = k) = true then upT s a e else a) a) T0
  | 0 => rfl
  | m + 1 => by
    rw [List.range_succ, List.foldl_append, ← tTo_fold s x m]
    simp only [List.foldl_cons, List.foldl_nil, tTo]
    congr 1
    funext a e
    simp [gT]
theorem tTo_all {n : Nat} {x : List DEdge} (hg : Good n x) (hr : Rises x) (s : ByteArray) : tTo s x n = tabT s x := by
  rw [tTo_fold, foldl_rows fr (upT s) hr (fun e he => by have := hg.lt he; omega)]
  rfl
/-- small values of a table -/
def okT (T : TF) : Prop := ∀ v k, T v k = NW ∨ (0 ≤ T v k ∧ T v k ≤ 1000000 * (v : Int))
theorem okT_up {n : Nat} {x : List DEdge} (hg : Good n x) {e : DEdge} (he : e ∈ x) {s : ByteArray} {m : Nat} {T : TF} (hT : okT T) : okT (upK s e m T) := by
  intro v k
  have h1 := hg.lt he
  have h2 := (hg e he).2.2.2
  have eN := NW_eq
  unfold upK
  split
  · rename_i h
    have a1 := hT v k
    have a2 := hT (fr e) (k - 1)
    rw [h.1] at *
    omega
  · exact hT v k
theorem okT_0 : okT T0 := by
  intro v k
  unfold T0
  split
  · rename_i h; rw [h.1]; right; simp
  · exact .inl rfl
theorem upK_zero (s : ByteArray) (e : DEdge) (T : TF) : upK s e 0 T = T := by
  funext v k
  unfold upK
  rw [if_neg (by rintro ⟨_, h1, h2, _⟩; omega)]

/-- the table in an array, -1 in the place of 'no way' -/
def Tab (A : List Int) (T : TF) (m N : Nat) : Prop := A.length = m * N ∧ ∀ v k, v < m → k < N → A[v * N + k]? = some (enc1 (T v k))
theorem place_ne {N v k v' k' : Nat} (hk : k < N) (hk' : k' < N) (h : v * N + k = v' * N + k') : v = v' ∧ k = k' := by
  have hN : 0 < N := by omega
  have h1 : (v * N + k) / N = v := by rw [Nat.mul_comm, Nat.mul_add_div hN, Nat.div_eq_of_lt hk]; rfl
  have h2 : (v' * N + k') / N = v' := by rw [Nat.mul_comm, Nat.mul_add_div hN, Nat.div_eq_of_lt hk']; rfl
  have hv : v = v' := by rw [← h1, ← h2, h]
  subst hv
  exact ⟨rfl, by omega⟩
theorem place_lt {N v k m : Nat} (hv : v < m) (hk : k < N) : v * N + k < m * N := by
  have : (v + 1) * N ≤ m * N := Nat.mul_le_mul_right N hv
  rw [Nat.succ_mul] at this
  omega
theorem Tab.set {A : List Int} {T T' : TF} {m N v k : Nat} {r : Int} (h : Tab A T m N) (hv : v < m) (hk : k < N) (hr : enc1 (T' v k) = r) (hT : ∀ v' k', (v' ≠ v ∨ k' ≠ k) → T' v' k' = T v' k') : Tab (A.set (v * N + k) r) T' m N := by
  refine ⟨by rw [List.length_set]; exact h.1, fun v' k' h1 h2 => ?_⟩
  by_cases e : v' = v ∧ k' = k
  · obtain ⟨rfl, rfl⟩ := e
    rw [List.getElem?_set_self (by rw [h.1]; exact place_lt hv hk), hr]
  · have hne : v * N + k ≠ v' * N + k' := fun hh => e (by have := place_ne hk h2 hh; exact ⟨this.1.symm, this.2.symm⟩)
    rw [List.getElem?_set_ne hne, h.2 v' k' h1 h2, hT v' k' (Decidable.or_iff_not_not_and_not.2 fun hh => e ⟨Decidable.not_not.1 hh.1, Decidable.not_not.1 hh.2⟩)]
theorem Tab.same {A : List Int} {T T' : TF} {m N : Nat} (h : Tab A T m N) (hT : ∀ v k, T' v k = T v k) : Tab A T' m N :=
  ⟨h.1, fun v k h1 h2 => by rw [hT]; exact h.2 v k h1 h2⟩
/-- one place on -/
theorem upK_else {s : ByteArray} {e : DEdge} {m : Nat} {T : TF} {v k : Nat} (h : v ≠ to e ∨ k ≠ m + 1) : upK s e (m + 1) T v k = upK s e m T v k := by
  unfold upK
  by_cases c : v = to e ∧ 1 ≤ k ∧ k ≤ m ∧ eqS (pieceAt s (k - 1)) e.label = true
  · rw [if_pos c, if_pos ⟨c.1, c.2.1, by omega, c.2.2.2⟩]
  · rw [if_neg c, if_neg (by rintro ⟨h1, h2, h3, h4⟩; exact c ⟨h1, h2, by omega, h4⟩)]
theorem upK_here {s : ByteArray} {e : DEdge} {m : Nat} {T : TF} : upK s e (m + 1) T (to e) (m + 1) = if eqS (pieceAt s m) e.label = true then min (T (to e) (m + 1)) (T (fr e) m + e.cost) else T (to e) (m + 1) := by
  unfold upK
  rw [Nat.add_sub_cancel]
  by_cases c : eqS (pieceAt s m) e.label = true
  · rw [if_pos c, if_pos ⟨rfl, by omega, Nat.le_refl _, c⟩]
  · rw [if_neg c, if_neg (by rintro ⟨_, _, _, h⟩; exact c h)]
theorem upK_from {s : ByteArray} {e : DEdge} {m : Nat} {T : TF} (h : fr e ≠ to e) (k : Nat) : upK s e m T (fr e) k = T (fr e) k := by
  unfold upK
  rw [if_neg (by rintro ⟨h1, _⟩; exact h h1)]
theorem upK_later {s : ByteArray} {e : DEdge} {m : Nat} {T : TF} {v k : Nat} (h : m < k) : upK s e m T v k = T v k := by
  unfold upK
  rw [if_neg (by rintro ⟨_, _, h1, _⟩; omega)]
theorem eqS_comm (a b : ByteArray) : eqS a b = eqS b a := by
  unfold eqS
  by_cases h : a.toList = b.toList
  · rw [h]
  · rw [beq_eq_false_iff_ne.2 h, beq_eq_false_iff_ne.2 (Ne.symm h)]

def textR (x : XLattice) (s : ByteArray) : Int := rowC s x.2 s.size (x.1.toNat - 1)
def textN (x : XLattice) (s : ByteArray) : Int := if validLt x && decide (textR x s < NW) then textR x s else 0
def textC (x : XLattice) (s : ByteArray) : Int := if validLt x then (if textR x s < NW then 0 else 3) else 1
end Go.Proofs.YtcikndmmbfompaaGreatDoor
