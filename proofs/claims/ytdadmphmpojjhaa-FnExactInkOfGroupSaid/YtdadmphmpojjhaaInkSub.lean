/- The ink of a group: which strokes it has. Plain lemmas, no program. -/
import Derived.Test.YtdadmphmpojjhaaInkGap
import Derived.Test.YtdadmphmpojjhaaSrtPl
namespace Go.Proofs.Ytdadmphmpojjhaa

theorem ordRow_mem {H : List Int} {k m : Nat} {e : Int} (h : e ∈ ordRow H k m) : ∃ d : Nat, e = (d : Int) ∧ d < m ∧ H[d]? = some (k : Int) := by
  unfold ordRow at h
  obtain ⟨d, hd, rfl⟩ := List.mem_map.1 h
  rw [List.mem_filter, List.mem_range] at hd
  exact ⟨d, rfl, hd.1, by simpa using hd.2⟩
theorem ordRow_nodup (H : List Int) (k m : Nat) : (ordRow H k m).Nodup := by
  unfold ordRow
  have h1 : ((List.range m).filter fun d => H[d]? == some (k : Int)).Nodup := List.nodup_range.filter _
  unfold List.Nodup
  rw [List.pairwise_map]
  exact List.Pairwise.imp (fun h e => h (Int.ofNat.inj e)) h1
theorem ordAt_mem {H : List Int} {k : Nat} {e : Int} (h : e ∈ ordAt H k) : (∃ x, H[k]? = some x ∧ x < 0) ∧ (e = (k : Int) ∨ ∃ d : Nat, e = (d : Int) ∧ H[d]? = some (k : Int)) := by
  unfold ordAt at h
  split at h
  · rename_i x hx
    split at h
    · cases h
    · rename_i h0
      refine ⟨⟨x, hx, by omega⟩, ?_⟩
      rcases List.mem_cons.1 h with h1 | h1
      · exact .inl h1
      · obtain ⟨d, h2, _, h3⟩ := ordRow_mem h1
        exact .inr ⟨d, h2, h3⟩
  · cases h
theorem ordAt_nodup (H : List Int) (k : Nat) : (ordAt H k).Nodup := by
  unfold ordAt
  split
  · rename_i x hx
    split
    · exact List.nodup_nil
    · rename_i h0
      refine List.nodup_cons.2 ⟨fun hm => ?_, ordRow_nodup _ _ _⟩
      obtain ⟨d, h2, _, h3⟩ := ordRow_mem hm
      have e : d = k := by omega
      subst e
      rw [hx] at h3
      have := Option.some.inj h3
      omega
  · exact List.nodup_nil
theorem ordTo_mem {H : List Int} : ∀ {n : Nat} {e : Int}, e ∈ ordTo H n → ∃ k, k < n ∧ e ∈ ordAt H k
  | 0, e, h => by simp [ordTo] at h
  | n + 1, e, h => by
    rw [ordTo_succ, List.mem_append] at h
    rcases h with h | h
    · obtain ⟨k, h1, h2⟩ := ordTo_mem h
      exact ⟨k, by omega, h2⟩
    · exact ⟨n, by omega, h⟩
theorem ordTo_nodup (H : List Int) : ∀ n, (ordTo H n).Nodup
  | 0 => by simp [ordTo]
  | n + 1 => by
    rw [ordTo_succ, List.nodup_append]
    refine ⟨ordTo_nodup H n, ordAt_nodup H n, fun a ha b hb hab => ?_⟩
    subst hab
    obtain ⟨k, hk, hk2⟩ := ordTo_mem ha
    obtain ⟨⟨x, hx, hx0⟩, h1⟩ := ordAt_mem hk2
    obtain ⟨⟨y, hy, hy0⟩, h2⟩ := ordAt_mem hb
    rcases h1 with h1 | ⟨d, h1, h1'⟩
    · rcases h2 with h2 | ⟨d2, h2, h2'⟩
      · omega
      · have e : d2 = k := by omega
        subst e
        rw [hx] at h2'
        have := Option.some.inj h2'
        omega
    · rcases h2 with h2 | ⟨d2, h2, h2'⟩
      · have e : d = n := by omega
        subst e
        rw [hy] at h1'
        have := Option.some.inj h1'
        omega
      · have e : d = d2 := by omega
        subst e
        rw [h1'] at h2'
        have := Option.some.inj h2'
        omega
theorem ordTo_bds {H : List Int} {n : Nat} {e : Int} (h : e ∈ ordTo H n) : ∃ d : Nat, e = (d : Int) ∧ d < H.length := by
  obtain ⟨k, hk, hk2⟩ := ordTo_mem h
  obtain ⟨⟨x, hx, hx0⟩, h1⟩ := ordAt_mem hk2
  rcases h1 with h1 | ⟨d, h1, h1'⟩
  · exact ⟨k, h1, (List.getElem?_eq_some_iff.1 hx).1⟩
  · exact ⟨d, h1, (List.getElem?_eq_some_iff.1 h1').1⟩
theorem orderI_nodup (X : XInk) : (orderI X).Nodup := ordTo_nodup _ _
theorem orderI_bds {X : XInk} {e : Int} (h : e ∈ orderI X) : ∃ d : Nat, e = (d : Int) ∧ d < X.length := by
  have := ordTo_bds h
  rw [homesTo_len] at this
  exact this
/-- the places of a group, in the strokes' own order -/
def subO (X : XInk) (f t : Nat) : List Int := ((orderI X).take t).drop f
theorem subO_nodup (X : XInk) (f t : Nat) : (subO X f t).Nodup := ((orderI_nodup X).sublist (List.take_sublist _ _)).sublist (List.drop_sublist _ _)
theorem subO_bds {X : XInk} {f t : Nat} {e : Int} (h : e ∈ subO X f t) : ∃ d : Nat, e = (d : Int) ∧ d < X.length := orderI_bds (List.mem_of_mem_take (List.mem_of_mem_drop h))
def selN (S : List Int) (n : Nat) : List Nat := (List.range n).filter fun k => decide ((k : Int) ∈ S)
def inkG (X : XInk) (f t : Nat) : XInk := (selN (subO X f t) X.length).map fun k => (X[k]?).getD []
/-- two ascending lists with the same members are one -/
theorem asc_uniq : ∀ {a b : List Int}, a.Pairwise (· < ·) → b.Pairwise (· < ·) → (∀ x, x ∈ a ↔ x ∈ b) → a = b
  | [], [], _, _, _ => rfl
  | [], y :: b, _, _, h => by have := (h y).2 List.mem_cons_self; cases this
  | x :: a, [], _, _, h => by have := (h x).1 List.mem_cons_self; cases this
  | x :: a, y :: b, ha, hb, h => by
    rw [List.pairwise_cons] at ha hb
    have e : x = y := by
      have h1 := (h x).1 List.mem_cons_self
      have h2 := (h y).2 List.mem_cons_self
      rcases List.mem_cons.1 h1 with h1 | h1
      · exact h1
      · rcases List.mem_cons.1 h2 with h2 | h2
        · exact h2.symm
        · have := ha.1 y h2
          have := hb.1 x h1
          omega
    subst e
    congr 1
    refine asc_uniq ha.2 hb.2 fun z => ⟨fun hz => ?_, fun hz => ?_⟩
    · rcases List.mem_cons.1 ((h z).1 (List.mem_cons_of_mem _ hz)) with e | h1
      · subst e; have := ha.1 z hz; omega
      · exact h1
    · rcases List.mem_cons.1 ((h z).2 (List.mem_cons_of_mem _ hz)) with e | h1
      · subst e; have := hb.1 z hz; omega
      · exact h1
theorem selN_asc (S : List Int) (n : Nat) : ((selN S n).map fun (k : Nat) => (k : Int)).Pairwise (· < ·) := by
  rw [List.pairwise_map]
  refine List.Pairwise.imp (fun h => Int.ofNat_lt.2 h) ?_
  exact List.Pairwise.filter _ List.pairwise_lt_range
/-- what the sort makes of the places -/
theorem sort_is {X : XInk} {f t : Nat} {d' : List Int} (hp : d'.Perm (subO X f t)) (hs : SortOn 0 d'.length d') : d' = (selN (subO X f t) X.length).map fun (k : Nat) => (k : Int) := by
  have hnd : d'.Nodup := hp.nodup_iff.2 (subO_nodup X f t)
  refine asc_uniq ?_ (selN_asc _ _) fun x => ?_
  · rw [List.pairwise_iff_getElem]
    intro i j hi hj hij
    have h1 := hs i j (Nat.zero_le _) hij hj
    have e1 : gI d' i = d'[i] := by have := gI_some hi; rw [List.getElem?_eq_getElem hi] at this; exact (Option.some.inj this).symm
    have e2 : gI d' j = d'[j] := by have := gI_some hj; rw [List.getElem?_eq_getElem hj] at this; exact (Option.some.inj this).symm
    rw [e1, e2] at h1
    have hne : d'[i] ≠ d'[j] := fun e => by
      have h5 : d'[i]? = d'[j]? := by rw [List.getElem?_eq_getElem hi, List.getElem?_eq_getElem hj, e]
      have := (List.getElem?_inj hi hnd).1 h5
      omega
    omega
  · rw [hp.mem_iff]
    unfold selN
    constructor
    · intro h
      obtain ⟨k, rfl, hk⟩ := subO_bds h
      exact List.mem_map.2 ⟨k, List.mem_filter.2 ⟨List.mem_range.2 hk, by simpa using h⟩, rfl⟩
    · intro h
      obtain ⟨k, hk, rfl⟩ := List.mem_map.1 h
      have := (List.mem_filter.1 hk).2
      simpa using this
end Go.Proofs.Ytdadmphmpojjhaa
