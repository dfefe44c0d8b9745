/- slices.SortFunc at readings: the shelf's contract at this program, by the numbers of its functions and types (written by the kit's lay-plain). -/
import Derived.Shelf.SlSortCmp.NoneTotal
import Derived.Ground.SlsfProg
import Derived.Test.YtcikndmmbfompaaGreatDoorProg
import Derived.Test.YtcikndmmbfompaaGreatDoorRdMerge
import Derived.Maps.Own
import Derived.Maps.OwnSet
import Derived.Maps.Views
import Derived.StringKeys
import Derived.Test.YtcikndmmbfompaaGreatDoorSortOwn
import Derived.Deep.RegionHeld3
namespace Go.Proofs
open Go.Shelf
def Tryz.sortReading_ren : Go.Shelf.Ren := ⟨fun | 6 => 80 | 15 => 86 | 14 => 93 | 28 => 102 | 29 => 103 | 20 => 109 | 21 => 110 | 22 => 111 | 23 => 112 | 24 => 113 | 25 => 114 | 26 => 115 | 27 => 116 | 46 => 128 | 47 => 118 | 48 => 119 | 49 => 129 | 50 => 130 | 57 => 134 | n => n, fun | 22 => 69 | 24 => 74 | 25 => 124 | 3 => 3 | 39 => 126 | 0 => 0 | 53 => 147 | 55 => 133 | 4 => 4 | 46 => 141 | 45 => 140 | 50 => 87 | 5 => 5 | 9 => 9 | 66 => 157 | 70 => 161 | 76 => 166 | 77 => 167 | n => n, fun | n => n⟩
theorem Tryz.sortReading : Go.Proofs.SlLaysF0.n6 Tryz.prog Tryz.sortReading_ren := {
  mixed := by kernel_rfl
  f6 := ⟨Tryz.f80.name, by decide, Tryz.func80.trans (congrArg some (by kernel_rfl))⟩
  f14 := ⟨Tryz.f93.name, by decide, Tryz.func93.trans (congrArg some (by kernel_rfl))⟩
  f15 := Tryz.func86.trans (congrArg some (by kernel_rfl))
  f20 := ⟨Tryz.f109.name, by decide, Tryz.func109.trans (congrArg some (by kernel_rfl))⟩
  f21 := ⟨Tryz.f110.name, by decide, Tryz.func110.trans (congrArg some (by kernel_rfl))⟩
  f22 := ⟨Tryz.f111.name, by decide, Tryz.func111.trans (congrArg some (by kernel_rfl))⟩
  f23 := ⟨Tryz.f112.name, by decide, Tryz.func112.trans (congrArg some (by kernel_rfl))⟩
  f24 := ⟨Tryz.f113.name, by decide, Tryz.func113.trans (congrArg some (by kernel_rfl))⟩
  f25 := ⟨Tryz.f114.name, by decide, Tryz.func114.trans (congrArg some (by kernel_rfl))⟩
  f26 := ⟨Tryz.f115.name, by decide, Tryz.func115.trans (congrArg some (by kernel_rfl))⟩
  f27 := ⟨Tryz.f116.name, by decide, Tryz.func116.trans (congrArg some (by kernel_rfl))⟩
  f28 := Tryz.func102.trans (congrArg some (by kernel_rfl))
  f29 := Tryz.func103.trans (congrArg some (by kernel_rfl))
  f46 := ⟨Tryz.f128.name, by decide, Tryz.func128.trans (congrArg some (by kernel_rfl))⟩
  f47 := Tryz.func118.trans (congrArg some (by kernel_rfl))
  f48 := Tryz.func119.trans (congrArg some (by kernel_rfl))
  f49 := ⟨Tryz.f129.name, by decide, Tryz.func129.trans (congrArg some (by kernel_rfl))⟩
  f50 := ⟨Tryz.f130.name, by decide, Tryz.func130.trans (congrArg some (by kernel_rfl))⟩
  f57 := ⟨Tryz.f134.name, by decide, Tryz.func134.trans (congrArg some (by kernel_rfl))⟩
  t0 := Tryz.underlying0
  a0 := Tryz.isAgg0
  z0 := Tryz.sizeOf0
  v0 := Tryz.zeroValue0
  t3 := Tryz.underlying3
  a3 := Tryz.isAgg3
  z3 := Tryz.sizeOf3
  v3 := Tryz.zeroValue3
  t4 := Tryz.underlying4
  a4 := Tryz.isAgg4
  z4 := Tryz.sizeOf4
  v4 := Tryz.zeroValue4
  t5 := Tryz.underlying5
  a5 := Tryz.isAgg5
  z5 := Tryz.sizeOf5
  v5 := Tryz.zeroValue5
  t9 := Tryz.underlying9
  a9 := Tryz.isAgg9
  z9 := Tryz.sizeOf9
  v9 := Tryz.zeroValue9
  t22 := Tryz.underlying69
  a22 := Tryz.isAgg69
  z22 := Tryz.sizeOf69
  v22 := Tryz.zeroValue69
  t25 := Tryz.underlying124
  a25 := Tryz.isAgg124
  z25 := Tryz.sizeOf124
  v25 := Tryz.zeroValue124
  t39 := Tryz.underlying126
  a39 := Tryz.isAgg126
  z39 := Tryz.sizeOf126
  v39 := Tryz.zeroValue126
  t45 := Tryz.underlying140
  a45 := Tryz.isAgg140
  z45 := Tryz.sizeOf140
  v45 := Tryz.zeroValue140
  t46 := Tryz.underlying141
  a46 := Tryz.isAgg141
  z46 := Tryz.sizeOf141
  v46 := Tryz.zeroValue141
  t50 := Tryz.underlying87
  a50 := Tryz.isAgg87
  z50 := Tryz.sizeOf87
  v50 := Tryz.zeroValue87
  t53 := Tryz.underlying147
  a53 := Tryz.isAgg147
  z53 := Tryz.sizeOf147
  v53 := Tryz.zeroValue147
  t55 := Tryz.underlying133
  a55 := Tryz.isAgg133
  z55 := Tryz.sizeOf133
  v55 := Tryz.zeroValue133
  t66 := Tryz.underlying157
  a66 := Tryz.isAgg157
  z66 := Tryz.sizeOf157
  v66 := Tryz.zeroValue157
  t70 := Tryz.underlying161
  a70 := Tryz.isAgg161
  z70 := Tryz.sizeOf161
  v70 := Tryz.zeroValue161
  t76 := Tryz.underlying166
  a76 := Tryz.isAgg166
  z76 := Tryz.sizeOf166
  v76 := Tryz.zeroValue166
  t77 := Tryz.underlying167
  a77 := Tryz.isAgg167
  z77 := Tryz.sizeOf167
  v77 := Tryz.zeroValue167 }
end Go.Proofs
namespace Go.Proofs.YtcikndmmbfompaaGreatDoor
open Go.Maps Go.RowKit

theorem sameKey_self {k : Lit} (h : WideAt.IsKeyLit k) : k.sameKey k = true := by
  cases k with
  | string a => simp [Lit.sameKey]
  | int q a => simp [Lit.sameKey]
  | bool b => simp [Lit.sameKey]
  | _ => exact h.elim
theorem atKey_fold (u z : DataW Unit) (k : Lit) : ∀ (acc : List Lit) (m : DataW Unit), IsMap m → (∀ x ∈ acc, WideAt.IsKeyLit x) → (acc.foldl (fun m x => m.put x u) m).atKey k z = if acc.any (fun x => x.sameKey k) then u else m.atKey k z
  | [], m, _, _ => rfl
  | x :: acc, m, hm, hk => by
    rw [List.foldl_cons, atKey_fold u z k acc _ (hm.put x u) (fun y hy => hk y (List.mem_cons_of_mem _ hy)), List.any_cons]
    have hx := hk x List.mem_cons_self
    cases ha : acc.any (fun x => x.sameKey k) with
    | true => simp
    | false =>
      by_cases e : x = k
      · subst e
        rw [atKey_put_same hm hx, sameKey_self hx]; simp
      · rw [atKey_put_other (fun h => e h.symm), sameKey_ne e]; rfl
theorem atKey_setOf (u z : DataW Unit) (k : Lit) (acc : List Lit) (h : ∀ x ∈ acc, WideAt.IsKeyLit x) : (setOf u acc).atKey k z = if acc.any (fun x => x.sameKey k) then u else z := by
  unfold setOf
  rw [atKey_fold u z k acc _ isMap_empty h]; rfl
def keyR (r : DReading) : Lit := .string r.text.data.toList
def seenR (L : List DReading) : DataW Unit := setOf (.lit (.bool true)) (L.map keyR)
theorem seen_any (L : List DReading) (s : ByteArray) : ((L.map keyR).any fun x => x.sameKey (.string s.data.toList)) = L.any fun g => eqS g.text s := by
  rw [List.any_map]
  congr 1
  funext g
  show (g.text.data.toList == s.data.toList) = (g.text.toList == s.toList)
  rw [ByteArray.toList_eq, ByteArray.toList_eq]
theorem plainBool_inv {P : Program} {e : TypeId} (he : P.underlying e = some .bool) {v : Value} {z : DataW Unit × List MemPlace} (h : plainElem P e v = some z) : ∃ b, v = .bool b ∧ z.1 = .lit (.bool b) := by
  unfold plainElem at h
  rw [he] at h
  cases v with
  | bool b => simp at h; exact ⟨b, rfl, by rw [← h]⟩
  | _ => simp at h
theorem seen_lookup {P : Program} {t k e : TypeId} {w : World} {b n : Nat} {L : List DReading} (h : w.ownsMap P k (plainElem P e) b n (seenR L)) (K : Keyed P k) (ht : P.underlying t = some (.map k e)) (he : P.underlying e = some .bool) (hk : P.underlying k = some .string)
    (hz : (zeroValue e).run P w = .ok (.bool false) w) {s : ByteArray} (hs : s.size ≤ maxLen) : (Instr.lookup t (.map (some b)) (.string s) false).run P w = .ok (.bool (L.any fun g => eqS g.text s)) w := by
  obtain ⟨v, ps, hrun, hv⟩ := h.lookup K ht hz (plainElem_bool he false) (WideMaps.keyOf_string_mk hk hs)
  obtain ⟨c, rfl, hc⟩ := plainBool_inv he hv
  rw [hrun]
  unfold seenR at hc
  rw [atKey_setOf _ _ _ _ (fun x hx => by obtain ⟨r, _, rfl⟩ := List.mem_map.1 hx; trivial), seen_any] at hc
  cases ha : (L.any fun g => eqS g.text s) with
  | true => rw [ha] at hc; simp at hc; rw [hc]
  | false => rw [ha] at hc; simp at hc; rw [hc]
theorem seen_snoc (L : List DReading) (r : DReading) : (seenR L).put (.string r.text.data.toList) (.lit (.bool true)) = seenR (L ++ [r]) := by
  unfold seenR
  rw [List.map_append]
  exact (setOf_snoc _ _ _).symm
end Go.Proofs.YtcikndmmbfompaaGreatDoor
namespace Go.Proofs.YtcikndmmbfompaaGreatDoor
open Go.RowKit Go.Sort
attribute [local go_sem ↓] Go.wp_at_zero Go.wp_at_succ

instance : Inhabited DReading := ⟨⟨ByteArray.empty, 0⟩⟩
theorem infReading : (Tryz.prog.info? 74).map (fun i => (i.zero, i.size, i.bytes)) = some (some (.agg #[.string ByteArray.empty, .int .i64 0]), eReading.sz, 24) := by kernel_rfl
set_option maxHeartbeats 2000000 in
theorem compareReadings_lays (a b : DReading) (w : World) :
    Calls Tryz.prog 81 #[.agg #[.string a.text, .int .i64 a.cost], .agg #[.string b.text, .int .i64 b.cost]] w fun e w' => e = .returned (.int .i64 (ordR a b)) ∧ ∃ q os', w' = grow (w.drewN q) os' := by
  have HO : Hid (ordR a b = orL [cmpI a.cost b.cost, cmpI a.text.size b.text.size, cmpB a.text b.text]) := hid rfl
  go_enter Tryz.func81, Tryz.ntmps81
  go_wp2
  obtain ⟨w1, hw1⟩ : ∃ w1, w1 = ((w.alloc (.cells #[.string a.text, .int .i64 a.cost] 74)).alloc (.cells #[.string b.text, .int .i64 b.cost] 74)) := ⟨_, rfl⟩
  have hg1 : Hid (w1 = grow w #[.cells #[.string a.text, .int .i64 a.cost] 74, .cells #[.string b.text, .int .i64 b.cost] 74]) := hid (by rw [hw1, alloc_eq_grow, alloc_eq_grow, grow_grow]; rfl)
  have c0 : w1.cell? ⟨w.heap.size, 0, none⟩ = some (.string a.text) := by rw [hw1]; simp
  have c1 : w1.cell? ⟨w.heap.size, 1, none⟩ = some (.int .i64 a.cost) := by rw [hw1]; simp
  have d0 : w1.cell? ⟨w.heap.size + 1, 0, none⟩ = some (.string b.text) := by rw [hw1]; simp
  have d1 : w1.cell? ⟨w.heap.size + 1, 1, none⟩ = some (.int .i64 b.cost) := by rw [hw1]; simp
  rw [← hw1]
  clear hw1
  obtain ⟨n0, hn0⟩ : ∃ n, n = w.heap.size := ⟨_, rfl⟩
  rw [← hn0] at c0 c1 d0 d1 ⊢
  clear hn0
  go_region_held3 (fun w' => w'.cell? ⟨n0, 0, none⟩ = some (.string a.text) ∧ w'.cell? ⟨n0, 1, none⟩ = some (.int .i64 a.cost) ∧ w'.cell? ⟨n0 + 1, 0, none⟩ = some (.string b.text) ∧ w'.cell? ⟨n0 + 1, 1, none⟩ = some (.int .i64 b.cost)) (go_keep)
    (first | (go_at_call 69; refine (cmpInt_any _ _ _).mono ?_; rintro e w' ⟨rfl, rfl⟩) | (go_at_call 70; refine (cmpIntJ_any _ _ _).mono ?_; rintro e w' ⟨rfl, rfl⟩) | (go_at_call 67; refine (cmpStr_any _ _ _).mono ?_; rintro e w' ⟨rfl, rfl⟩) | (go_at_call 68; refine (cmpOr_any _ [cmpI a.cost b.cost, cmpI a.text.size b.text.size, cmpB a.text b.text] _ (Arr.drew (arr_new _ _ rfl rfl (maxLen_ge (Nat.le_of_ble_eq_true rfl))))).mono ?_; rintro e w' ⟨rfl, rfl⟩))
  go_wp2
  go_ret
  exact ⟨by rw [HO.out]; rfl, 1, _, by rw [hg1.out, alloc_eq_grow, grow_grow]; rfl⟩
theorem compareReadings_enters : ∀ args w, (callFunc 81 args).run Tryz.prog w = .ok (.enter 81 args) w := enters_of Tryz.func81 (by kernel_rfl) rfl
theorem sortReading_any (g cap n B : Nat) (X : List DReading) (w : World) (h : Own eReading 74 B w (.slice (some ⟨g, 0, none⟩) n cap) X) (hn : n = X.length) (hs : X.length ≤ 1048576) :
    Calls Tryz.prog 80 #[.slice (some ⟨g, 0, none⟩) n cap, .func (.func 81) #[] #[]] w fun e w' => e = .returned (.tuple #[]) ∧ ∃ Y, Y.Perm X ∧ Up ltR Y ∧ Own eReading 74 B w' (.slice (some ⟨g, 0, none⟩) n cap) Y ∧ w.grownBy w' (some g) := by
  have hlt := h.lt
  have hcon := AnyQ.slices_SortFunc Tryz.sortReading 2 Tryz.isAgg74 Tryz.sizeOf74 eReading.row eReading.len eReading.one ordR swoR 81 #[] g 0 cap X.toArray w compareReadings_enters
    (fun m os dk _ x y => compareReadings_lays x y _) (own_holds h hn) hlt.2 (by simp; omega)
  subst hn
  have hcon' : Calls Tryz.prog 80 #[.slice (some ⟨g, 0, none⟩) X.length cap, .func (.func 81) #[] #[]] w _ := hcon
  refine hcon'.mono ?_
  rintro e w' ⟨rfl, d', m, os, ⟨hsz, _, hperm⟩, hsort, rfl⟩
  refine ⟨rfl, d'.toList, ?_, ?_, ?_⟩
  · have e1 : (d'.extract 0 X.toArray.size).toList = d'.toList := by rw [← hsz]; simp
    have e2 : (X.toArray.extract 0 X.toArray.size).toList = X := by simp
    rw [e1, e2] at hperm
    exact hperm
  · refine List.pairwise_iff_getElem.2 fun i j hi hj hij => ?_
    have hi' : i < d'.size := by simpa using hi
    have hj' : j < d'.size := by simpa using hj
    have := hsort i j (Nat.zero_le _) hij (by rw [← hsz]; exact hj')
    rw [getElem!_pos d' i hi', getElem!_pos d' j hj'] at this
    simpa [ltR, ltOf] using this
  · have := own_sorted (n := m) (os := os) (Y := d'.toList) h rfl (by have := hsz; simpa using this)
    rw [show d'.toList.toArray = d' by simp] at this
    exact ⟨this.1, this.2⟩
theorem stepD_len (out : List DReading) (h : DReading) : (stepD out h).length ≤ out.length + 1 := by
  unfold stepD; split
  · omega
  · simp
theorem dedup_len_go : ∀ (l out : List DReading), (l.foldl stepD out).length ≤ out.length + l.length
  | [], _ => by simp
  | h :: l, out => by
    rw [List.foldl_cons]
    have h1 := dedup_len_go l (stepD out h)
    have h2 := stepD_len out h
    simp only [List.length_cons]; omega
theorem dedup_len (l : List DReading) : (dedup l).length ≤ l.length := by have := dedup_len_go l []; simpa [dedup] using this
theorem own_ne {α : Type} {E : Enc α} {e : TypeId} {B q : Nat} {w : World} {v : Value} {xs : List α} (h : Own E e B w v xs) (hq : q < B) : v.ownBlock = none ∨ v.ownBlock ≠ some q := by
  cases hb : v.ownBlock with
  | none => exact .inl rfl
  | some g =>
    right
    intro hh
    have := (World.ownsRow.lt h g hb).1
    have := Option.some.inj hh
    omega
theorem ownsMap_below {P : Program} {k : TypeId} {R : Value → Option (DataW Unit × List MemPlace)} {b n B : Nat} {D : DataW Unit} {w w' : World} (h : w.ownsMap P k R b n D) (hb : Below B w w') (hlt : b < B) : w'.ownsMap P k R b n D := by
  obtain ⟨es, clock, hh, rest⟩ := h
  exact ⟨es, clock, (hb.block b hlt).trans hh, rest⟩
theorem grownBy_ofBelow {w0 w w' : World} {g : Option Nat} (h : w0.grownBy w g) {q : Nat} (hq : w.heap.size ≤ q) (hb : Below q w w') : w0.grownBy w' g :=
  ⟨hb.os.trans h.os, hb.tape.trans h.tape, hb.output.trans h.output, Nat.le_trans h.size hb.size, fun k hk hne => (hb.block k (by have := h.size; omega)).trans (h.block k hk hne)⟩
set_option maxHeartbeats 4000000 in
set_option maxRecDepth 100000 in
/-- the first k of a list that the caller owns: it is sorted in its place -/
theorem firstReadings_any (v : Value) (X : List DReading) (k B : Nat) (w : World) (h : Own eReading 74 B w v X) (hBw : B ≤ w.heap.size) (hk : k ≤ 1048576) (hX : X.length ≤ 1048576) (hT : ∀ r ∈ X, r.text.size ≤ 1048576) :
    Calls Tryz.prog 64 #[v, .int .i64 k] w fun e w' => ∃ u, e = .returned u ∧ Own eReading 74 w.heap.size w' u (topR k X) ∧ w.grownBy w' v.ownBlock := by
  obtain ⟨sv, cv, hv⟩ := h.isSlice
  subst hv
  have HS : Calls Tryz.prog 80 #[.slice sv X.length cv, .func (.func 81) #[] #[]] w fun e w' => e = .returned (.tuple #[]) ∧ ∃ Y, Y.Perm X ∧ Up ltR Y ∧ Own eReading 74 B w' (.slice sv X.length cv) Y ∧ w.grownBy w' (Value.slice sv X.length cv).ownBlock := by
    rcases h.shape with ⟨hn, h0⟩ | ⟨g, cap, hn, hB, hl⟩
    · simp only [Value.slice.injEq] at hn
      obtain ⟨rfl, _, rfl⟩ := hn
      subst h0
      refine (AnyF.slices_SortFunc_none { Tryz.sortReading with } none 0 (.func (.func 81) #[] #[]) w).mono ?_
      rintro e w' ⟨rfl, rfl⟩
      exact ⟨rfl, [], List.Perm.refl _, List.Pairwise.nil, Own.nil _ _ _, ⟨rfl, rfl, rfl, Nat.le_refl _, fun _ _ _ => rfl⟩⟩
    · simp only [Value.slice.injEq] at hn
      obtain ⟨rfl, _, rfl⟩ := hn
      refine (sortReading_any g cv X.length B X w h rfl hX).mono ?_
      rintro e w' ⟨rfl, Y, h1, h2, h3, h4⟩
      exact ⟨rfl, Y, h1, h2, h3, by simpa [Value.ownBlock] using h4⟩
  have HSS := hid HS
  have hki : (k : Int) ≤ 1048576 := by omega
  have hkey : Go.Maps.Keyed Tryz.prog 9 := Go.Maps.string_keyed Tryz.underlying9
  have hmm := @run_makeMap Tryz.prog
  have zeroB : ∀ w : World, (zeroValue 4).run Tryz.prog w = .ok (.bool false) w := fun w => by kernel_rfl
  have HKY := hid hkey
  have HZB := hid zeroB
  clear HS hkey zeroB
  obtain ⟨OB, hOB⟩ : ∃ OB, OB = (Value.slice sv X.length cv).ownBlock := ⟨_, rfl⟩
  rw [← hOB] at HSS ⊢
  have HOB := hid hOB
  clear hOB h
  go_enter Tryz.func64, Tryz.ntmps64
  go_wp2_with (go_at_call 80; refine HSS.out.mono ?_; rintro e w2 ⟨rfl, Y, hperm, hup, hoY, hg2⟩)
  have hYl : Y.length = X.length := hperm.length_eq
  obtain ⟨q, hq⟩ : ∃ q, q = w2.heap.size := ⟨_, rfl⟩
  have hwq : w.heap.size ≤ q := by rw [hq]; exact hg2.size
  obtain ⟨by_, offy, ay, capy, hey, hncy, hcmy, haoy, hcy⟩ := hoY.arr
  simp only [Value.slice.injEq] at hey
  obtain ⟨rfl, hyx, rfl⟩ := hey
  unfold maxLen at hcmy
  rw [← hq] at haoy
  have HYT := hid (show ∀ (i : Nat) (r : DReading), Y[i]? = some r → r.text.size ≤ 1048576 from fun i r hr => hT r (hperm.subset (List.mem_of_getElem? hr)))
  have HYL := hid hYl
  have HQ := hid hq
  have HP := hid hperm
  have HU := hid hup
  have HG2 := hid hg2
  have hm0 : (w2.alloc (.map #[] 0)).ownsMap Tryz.prog 9 (plainElem Tryz.prog 4) q 0 (seenR []) := by rw [hq]; exact World.ownsMap_made w2 Tryz.prog _ _
  have hb0 : Below q w2 (w2.alloc (.map #[] 0)) := by rw [hq]; exact below_alloc _ _
  have hq0 : q < (w2.alloc (.map #[] 0)).heap.size := by rw [hq]; simp
  clear hoY hYl hperm hup hyx hg2 hT
  rw [← hq]
  clear hq
  go_loopw [6, 14] (fun l i wr => ∃ j : Nat, j ≤ X.length ∧ i = .int .i64 j ∧ Own eReading 74 (q + 1) wr l ((Y.take j).foldl (stepM k) []) ∧ Below q w2 wr ∧ q < wr.heap.size ∧ wr.ownsMap Tryz.prog 9 (plainElem Tryz.prog 4) q j (seenR ((Y.take j).foldl (stepM k) []))) (fun _ i _ => X.length - (intOf i).toNat)
  case atStart => exact ⟨0, Nat.zero_le _, rfl, Own.nil _ _ _, hb0, hq0, hm0⟩
  case round =>
    clear hm0 hb0 hq0
    obtain ⟨j, hj, rfl, ho, hb, hqr, hmap⟩ := hrel
    by_cases hlt : j < X.length
    · obtain ⟨hao', hbw⟩ := haoy (by rw [HYL.out]; omega)
      subst hao'
      obtain ⟨e, he⟩ : ∃ e, Y[j]? = some e := ⟨_, List.getElem?_eq_getElem (by rw [HYL.out]; exact hlt)⟩
      have hli : (j : Int) < (X.length : Int) := by omega
      obtain ⟨c0, c1⟩ := eReading_cells (hcy.below hb hbw) he
      have HET := hid (HYT.out j e he)
      have HT : Hid ((Y.take (j + 1)).foldl (stepM k) [] = stepM k ((Y.take j).foldl (stepM k) []) e) := hid (by rw [List.take_add_one, he, List.foldl_append]; rfl)
      have hxl : ((Y.take j).foldl (stepM k) []).length ≤ X.length := by
        have := fold_take_m k (Y.take j) []
        rw [List.take_nil] at this
        rw [this, List.length_take]
        exact Nat.le_trans (Nat.min_le_right _ _) (Nat.le_trans (dedup_len _) (by rw [List.length_take]; omega))
      obtain ⟨XS, hXS⟩ : ∃ XS, XS = (Y.take j).foldl (stepM k) [] := ⟨_, rfl⟩
      rw [← hXS] at ho hxl HT hmap
      have hxi : (XS.length : Int) ≤ 1048576 := by omega
      obtain ⟨sl, sc2, hls⟩ := ho.isSlice
      subst hls
      obtain ⟨la, co⟩ := e
      simp only at c0 c1 HET
      clear he hXS
      have hlk : (Instr.lookup 125 (.map (some q)) (.string la) false).run Tryz.prog (wr.alloc (.cells #[.string la, .int .i64 co] 74)) = .ok (.bool (XS.any fun g => eqS g.text la)) (wr.alloc (.cells #[.string la, .int .i64 co] 74)) :=
        seen_lookup (hmap.alloc _) HKY.out Tryz.underlying125 Tryz.underlying4 Tryz.underlying9 (HZB.out _) (by have := HET.out; unfold maxLen; omega)
      have ho3 := ho.alloc (.cells #[.string la, .int .i64 co] 74)
      have hm3 := hmap.alloc (.cells #[.string la, .int .i64 co] 74)
      have hb3 : Below q w2 (wr.alloc (.cells #[.string la, .int .i64 co] 74)) := hb.alloc (Nat.le_of_lt hqr) _
      have hq3 : q < (wr.alloc (.cells #[.string la, .int .i64 co] 74)).heap.size := by simp; omega
      have e0 : (wr.alloc (.cells #[.string la, .int .i64 co] 74)).cell? ⟨wr.heap.size, 0, none⟩ = some (.string la) := by simp
      have e1 : (wr.alloc (.cells #[.string la, .int .i64 co] 74)).cell? ⟨wr.heap.size, 1, none⟩ = some (.int .i64 co) := by simp
      have hqne : ¬ q = wr.heap.size := by omega
      by_cases hlk2 : XS.length < k
      · have hlki : (XS.length : Int) < (k : Int) := by omega
        cases ha : XS.any (fun g => eqS g.text la)
        · have HT' : Hid ((Y.take (j + 1)).foldl (stepM k) [] = XS ++ [⟨la, co⟩]) := hid (by rw [HT.out]; unfold stepM smR; simp only [ha]; simp [hlk2])
          rw [ha] at hlk
          clear ha
          go_wp2_with (first | (at_mapUpdate; refine wpList_mapUpdate_own _ rfl _ _ _ 125 rfl 9 4 HKY.out Tryz.underlying125 _ q j _ rfl hm3 (by unfold maxLen; omega) _ _ _ rfl rfl (WideMaps.keyOf_string_mk Tryz.underlying9 (by have := HET.out; unfold maxLen; omega)) _ [] (plainElem_bool Tryz.underlying4 true) ?_; intro w4 hm4 hg4; have f0 : w4.cell? ⟨wr.heap.size, 0, none⟩ = some (.string la) := (World.cell?_of_block (hg4.block wr.heap.size (by simp) (by intro hh; exact hqne (Option.some.inj hh).symm))).trans e0; have f1 : w4.cell? ⟨wr.heap.size, 1, none⟩ = some (.int .i64 co) := (World.cell?_of_block (hg4.block wr.heap.size (by simp) (by intro hh; exact hqne (Option.some.inj hh).symm))).trans e1; have ho4 := World.ownsRow.kept ho3 hg4 (own_ne ho3 (Nat.lt_succ_self q)); have hb4 := hb3.grown hg4 (Nat.le_of_lt hq3) (by intro kk hh; cases hh; exact Nat.le_refl _); have hq4 := Nat.lt_of_lt_of_le hq3 hg4.size) | (at_builtin; (refine wpList_appA rfl _ _ 69 rfl (q + 1) 74 _ 24 infReading Tryz.underlying69 rfl _ XS rfl (Own.alloc (show Own eReading _ _ _ _ _ from ho4) _) _ [⟨la, co⟩] rfl (by exact arr_block1 (E := eReading) (n := 1) [⟨la, co⟩] #[.string la, .int .i64 co] rfl rfl (maxLen_ge (Nat.le_of_ble_eq_true rfl)) (by simp)) (by unfold maxLen; simp <;> omega) (by simp <;> omega) (by simp <;> omega) ?_; intro v' wA hoA hbA htA)))
          go_roundw
          case rel =>
            have hbA' : Below q w2 wA := (hb4.alloc (Nat.le_of_lt hq4) _).trans (hbA.mono (Nat.le_succ q))
            refine ⟨j + 1, by omega, by go_num, by rw [HT'.out]; exact hoA, hbA', ?_, ?_⟩
            · exact Nat.lt_of_lt_of_le hq4 (Nat.le_trans (by simp) hbA.size)
            · rw [HT'.out, ← seen_snoc]
              exact ownsMap_below (hm4.alloc _) hbA (Nat.lt_succ_self q)
          case measure => simp [intOf]; omega
        · have HT' : Hid ((Y.take (j + 1)).foldl (stepM k) [] = XS) := hid (by rw [HT.out]; unfold stepM smR; simp only [ha]; simp)
          rw [ha] at hlk
          clear ha
          go_wp2_with fail
          go_roundw
          case rel => exact ⟨j + 1, by omega, by go_num, by rw [HT'.out]; exact ho3, hb3, hq3, by rw [HT'.out]; exact hm3.mono (Nat.le_succ j)⟩
          case measure => simp [intOf]; omega
      · have hdk : decide ((XS.length : Int) < (k : Int)) = false := by simp; omega
        have HT' : Hid ((Y.take (j + 1)).foldl (stepM k) [] = XS) := hid (by rw [HT.out]; unfold stepM; simp [hlk2])
        have hdi : ¬ ((XS.length : Int) < (k : Int)) := by omega
        go_wp2_with fail
        go_roundw
        case rel => exact ⟨j + 1, by omega, by go_num, by rw [HT'.out]; exact ho3, hb3, hq3, by rw [HT'.out]; exact hm3.mono (Nat.le_succ j)⟩
        case measure => simp [intOf]; omega
    · obtain rfl : j = X.length := by omega
      have hfin : Hid ((Y.take X.length).foldl (stepM k) [] = topR k X) := hid (by
        rw [← HYL.out, List.take_length, ← top_eq k HP.out HU.out]
        have := fold_take_m k Y []
        rwa [List.take_nil] at this)
      go_wp2_with fail
      go_ret
      exact ⟨_, rfl, by rw [← hfin.out]; exact ho.mono (by omega), grownBy_ofBelow HG2.out (by rw [HQ.out]; exact Nat.le_refl _) hb⟩
end Go.Proofs.YtcikndmmbfompaaGreatDoor
