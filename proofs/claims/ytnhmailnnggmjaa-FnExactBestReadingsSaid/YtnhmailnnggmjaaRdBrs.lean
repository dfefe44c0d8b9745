/- The first reading, the first readings: both calls. -/
import Derived.Test.YtnhmailnnggmjaaRdBr
import Derived.Test.YtnhmailnnggmjaaRdBest
import Derived.Test.YtnhmailnnggmjaaRdImp
namespace Go.Proofs.Ytnhmailnnggmjaa
open Go.RowKit Go.Sort
attribute [local go_sem ↓] Go.wp_at_zero Go.wp_at_succ

def brO (x : XLattice) (m : Nat) : List DReading := statesR m (fun _ => true) I0 x.2 (x.1 - 1).toNat
def rz : DReading := ⟨⟨#[]⟩, 0⟩
def brW (x : XLattice) : DReading := if validLt x then (brO x 1)[0]?.getD rz else rz
def brC (x : XLattice) : Int := if validLt x then (if (brO x 1).length = 0 then 3 else 0) else 1
def brL (x : XLattice) (k : Int) : List DReading := if validLt x && inB k 1 20 then brO x k.toNat else []
def brD (x : XLattice) (k : Int) : Int := if validLt x then (if inB k 1 20 then 0 else 2) else 1
theorem brO_len {n : Nat} {x : List DEdge} (h : validLt ((n : Int), x) = true) {m : Nat} (hm : 1 ≤ m) : (brO ((n : Int), x) m).length ≤ m := states_len (valid_good h) (valid_rises h) (by simp [I0]) hm _
theorem okBr {x : XLattice} {k : Int} : okReadingS (brL x k) := by
  unfold brL okReadingS
  split
  · rename_i h
    rw [Bool.and_eq_true] at h
    obtain ⟨n, x⟩ := x
    obtain ⟨b1, b2, b3⟩ := valid_bd h.1
    obtain ⟨m, rfl⟩ : ∃ m : Nat, n = m := ⟨n.toNat, by omega⟩
    have h2 := inB_true.1 h.2
    have := brO_len h.1 (m := k.toNat) (by omega)
    omega
  · simp

set_option maxHeartbeats 4000000 in
set_option maxRecDepth 100000 in
theorem specBestReading_any (v1 : Value) (x : XLattice) (w : World) {lo1 hi1 : Nat} (h1 : rLattice.at_ lo1 hi1 w v1 x) (ok1 : okLattice x) (g1 : goodLattice x) :
    Calls Try.prog 10 #[v1] w (Ret (.tuple #[.agg #[.string (brW x).text, .int .i64 (brW x).cost], .int .i64 (brC x)]) w) := by
  obtain ⟨u1, rfl, h1⟩ := h1
  replace h1 := ArrIn.arr h1
  obtain ⟨n, x⟩ := x
  obtain ⟨a1, k1, hu⟩ := h1.isSlice
  subst hu
  simp only at h1
  obtain ⟨W, hW⟩ : ∃ u, u = ((w.alloc (.cells #[.int .i64 n, .slice a1 x.length k1] 32)).alloc (.cells #[.string ⟨#[]⟩, .int .i64 0] 27)) := ⟨_, rfl⟩
  have hbW : Below w.heap.size w W := by rw [hW]; exact belowA2 _ _ _
  have q1 : Box W (w.heap.size) #[.int .i64 n, .slice a1 x.length k1] 32 := by
    have hq := Box.new w #[.int .i64 n, .slice a1 x.length k1] 32
    rw [hW]
    exact (hq.alloc _)
  have q2 : Box W (w.heap.size + 1) #[.string ⟨#[]⟩, .int .i64 0] 27 := by
    have hq := Box.new (w.alloc (.cells #[.int .i64 n, .slice a1 x.length k1] 32)) #[.string ⟨#[]⟩, .int .i64 0] 27
    simp at hq
    rw [hW]
    exact hq
  obtain ⟨p1, hp1⟩ : ∃ p, p = w.heap.size := ⟨_, rfl⟩
  rw [← hp1] at q1
  have hge1 : w.heap.size ≤ p1 := by omega
  obtain ⟨p2, hp2⟩ : ∃ p, p = w.heap.size + 1 := ⟨_, rfl⟩
  rw [← hp2] at q2
  have hge2 : w.heap.size ≤ p2 := by omega
  have hlW : w.heap.size ≤ W.heap.size := hbW.size
  have hlp1 : p1 < W.heap.size := q1.lt
  have hlp2 : p2 < W.heap.size := q2.lt
  have hne12 : p1 ≠ p2 := by omega
  have HP1 := hid hp1
  have HP2 := hid hp2
  have HW := hid hW
  clear hW hp1 hp2
  have hA := h1.below hbW
  have m10 := q1.cell (j := 0) rfl
  have m11 := q1.cell (j := 1) rfl
  have finish : ∀ (w' : World) (f : DReading) (c : Int), Hid (brW (n, x) = f ∧ brC (n, x) = c) → Below w.heap.size w w' → Ret (.tuple #[.agg #[.string (brW (n, x)).text, .int .i64 (brW (n, x)).cost], .int .i64 (brC (n, x))]) w (.returned (.tuple #[.agg #[.string f.text, .int .i64 f.cost], .int .i64 c])) w' := by
    intro w' f c hz hb
    rw [hz.out.1, hz.out.2]
    exact ⟨rfl, hb⟩
  have CL := fun w' (hb : Below W.heap.size W w') => l15Ok_any p1 n _ x w' (cell_later hb m10) (cell_later hb m11) (hA.below hb) ok1 g1
  cases hv : validLt (n, x)
  · have HZ : Hid (brW (n, x) = rz ∧ brC (n, x) = 1) := by show _ ∧ _; simp [brW, brC, hv]
    rw [hv] at CL
    go_enter Try.func10, Try.ntmps10
    go_wp2_with fail
    rw [← HP2.out, ← HP1.out, ← HW.out]
    refine (CL W (Below.refl _ _)).mono ?_
    rintro e w3 ⟨rfl, hb⟩
    have b0 := (q2.later hb).cell (j := 0) rfl
    have b1 := (q2.later hb).cell (j := 1) rfl
    have bf := (q2.later hb).free
    clear m10 m11
    go_wp2_with fail
    refine bodyPost_ret (v := .tuple #[.agg #[.string ⟨#[]⟩, .int .i64 0], .int .i64 1]) (by simp [results, Try.results10, go_sem, b0, b1]) rfl (finish _ rz _ HZ ?_)
    exact ((hbW.trans (hb.mono hlW)).setCell hge2 _).setCell hge2 _
  rw [hv] at CL
  obtain ⟨n1, n2, x2⟩ := valid_bd hv
  obtain ⟨N, rfl⟩ : ∃ N : Nat, n = N := ⟨n.toNat, by omega⟩
  have hNt : ((N : Int) - 1).toNat = N - 1 := by omega
  have CA := fun w' (hb : Below W.heap.size W w') => l15Best_any p1 _ N 1 x w' (cell_later hb m10) (cell_later hb m11) (hA.below hb) hv (Nat.le_refl _) (by omega)
  have hBR : brO ((N : Int), x) 1 = statesR 1 (fun _ => true) [⟨⟨#[]⟩, 0⟩] x (N - 1) := by unfold brO; simp only [hNt]; rfl
  rw [← hBR] at CA
  have hBl := brO_len hv (m := 1) (Nat.le_refl _)
  rcases hF : brO ((N : Int), x) 1 with _ | ⟨f, t⟩
  · have HZ : Hid (brW ((N : Int), x) = rz ∧ brC ((N : Int), x) = 3) := by show _ ∧ _; simp [brW, brC, hv, hF]
    rw [hF] at CA
    clear hBR hBl hF
    go_enter Try.func10, Try.ntmps10
    go_wp2_with fail
    rw [← HP2.out, ← HP1.out, ← HW.out]
    refine (CL W (Below.refl _ _)).mono ?_
    rintro e w3 ⟨rfl, hb⟩
    go_wp2_with fail
    refine (CA w3 hb).mono ?_
    rintro e w5 ⟨u, rfl, ho, hb6⟩
    have hb7 := hb.trans (hb6.mono hb.size)
    obtain ⟨sa, sc, hu⟩ := (ArrIn.arr ho).isSlice
    subst hu
    have b0 := (q2.later hb7).cell (j := 0) rfl
    have b1 := (q2.later hb7).cell (j := 1) rfl
    have bf := (q2.later hb7).free
    clear m10 m11
    go_wp2_with fail
    refine bodyPost_ret (v := .tuple #[.agg #[.string ⟨#[]⟩, .int .i64 0], .int .i64 3]) (by simp [results, Try.results10, go_sem, b0, b1]) rfl (finish _ rz _ HZ ?_)
    exact ((hbW.trans (hb7.mono hlW)).setCell hge2 _).setCell hge2 _
  · have HZ : Hid (brW ((N : Int), x) = f ∧ brC ((N : Int), x) = 0) := by show _ ∧ _; simp [brW, brC, hv, hF]
    rw [hF] at CA hBl
    clear hBR hF
    simp only [List.length_cons] at hBl
    go_enter Try.func10, Try.ntmps10
    go_wp2_with fail
    rw [← HP2.out, ← HP1.out, ← HW.out]
    refine (CL W (Below.refl _ _)).mono ?_
    rintro e w3 ⟨rfl, hb⟩
    go_wp2_with fail
    refine (CA w3 hb).mono ?_
    rintro e w5 ⟨u, rfl, ho, hb6⟩
    have hb7 := hb.trans (hb6.mono hb.size)
    obtain ⟨br, offr, ar, capr, rfl, hncr, hcmr, haor, hcr⟩ := ArrIn.arr ho
    obtain ⟨har, _⟩ := haor (by simp)
    subst har
    unfold maxLen at hcmr
    obtain ⟨c0, c1⟩ := eReading_cells hcr (k := 0) (x := f) rfl
    simp only [Nat.zero_mul, Nat.add_zero] at c0 c1
    have b0 := (q2.later hb7).cell (j := 0) rfl
    have b1 := (q2.later hb7).cell (j := 1) rfl
    have bf := (q2.later hb7).free
    have hl0 : (((f :: t).length : Int) == 0) = false := by rw [beq_eq_false_iff_ne]; simp only [List.length_cons]; omega
    have hl1 : (0 : Int) < ((f :: t).length : Int) := by simp only [List.length_cons]; omega
    have hl2 : 0 < (f :: t).length := by simp
    generalize (f :: t).length = ln at hl0 hl1 hl2 ⊢
    clear m10 m11
    go_wp2_with fail
    refine bodyPost_ret (v := .tuple #[.agg #[.string f.text, .int .i64 f.cost], .int .i64 0]) (by simp [results, Try.results10, go_sem, b0, b1]) rfl (finish _ f _ HZ ?_)
    exact ((hbW.trans (hb7.mono hlW)).setCell hge2 _).setCell hge2 _
set_option maxHeartbeats 4000000 in
set_option maxRecDepth 100000 in
theorem implBestReading_any (v1 : Value) (x : XLattice) (w : World) {lo1 hi1 : Nat} (h1 : rLattice.at_ lo1 hi1 w v1 x) (ok1 : okLattice x) (g1 : goodLattice x) :
    Calls Try.prog 12 #[v1] w (Ret (.tuple #[.agg #[.string (brW x).text, .int .i64 (brW x).cost], .int .i64 (brC x)]) w) := by
  obtain ⟨u1, rfl, h1⟩ := h1
  replace h1 := ArrIn.arr h1
  obtain ⟨n, x⟩ := x
  obtain ⟨a1, k1, hu⟩ := h1.isSlice
  subst hu
  simp only at h1
  obtain ⟨W, hW⟩ : ∃ u, u = ((w.alloc (.cells #[.int .i64 n, .slice a1 x.length k1] 32)).alloc (.cells #[.string ⟨#[]⟩, .int .i64 0] 27)) := ⟨_, rfl⟩
  have hbW : Below w.heap.size w W := by rw [hW]; exact belowA2 _ _ _
  have q1 : Box W (w.heap.size) #[.int .i64 n, .slice a1 x.length k1] 32 := by
    have hq := Box.new w #[.int .i64 n, .slice a1 x.length k1] 32
    rw [hW]
    exact (hq.alloc _)
  have q2 : Box W (w.heap.size + 1) #[.string ⟨#[]⟩, .int .i64 0] 27 := by
    have hq := Box.new (w.alloc (.cells #[.int .i64 n, .slice a1 x.length k1] 32)) #[.string ⟨#[]⟩, .int .i64 0] 27
    simp at hq
    rw [hW]
    exact hq
  obtain ⟨p1, hp1⟩ : ∃ p, p = w.heap.size := ⟨_, rfl⟩
  rw [← hp1] at q1
  have hge1 : w.heap.size ≤ p1 := by omega
  obtain ⟨p2, hp2⟩ : ∃ p, p = w.heap.size + 1 := ⟨_, rfl⟩
  rw [← hp2] at q2
  have hge2 : w.heap.size ≤ p2 := by omega
  have hlW : w.heap.size ≤ W.heap.size := hbW.size
  have hlp1 : p1 < W.heap.size := q1.lt
  have hlp2 : p2 < W.heap.size := q2.lt
  have hne12 : p1 ≠ p2 := by omega
  have HP1 := hid hp1
  have HP2 := hid hp2
  have HW := hid hW
  clear hW hp1 hp2
  have hA := h1.below hbW
  have m10 := q1.cell (j := 0) rfl
  have m11 := q1.cell (j := 1) rfl
  have finish : ∀ (w' : World) (f : DReading) (c : Int), Hid (brW (n, x) = f ∧ brC (n, x) = c) → Below w.heap.size w w' → Ret (.tuple #[.agg #[.string (brW (n, x)).text, .int .i64 (brW (n, x)).cost], .int .i64 (brC (n, x))]) w (.returned (.tuple #[.agg #[.string f.text, .int .i64 f.cost], .int .i64 c])) w' := by
    intro w' f c hz hb
    rw [hz.out.1, hz.out.2]
    exact ⟨rfl, hb⟩
  have CL := fun w' (hb : Below W.heap.size W w') => implValidLattice_any _ (n, x) w' (show rLattice.at_ 0 w'.heap.size w' (.agg #[.int .i64 n, .slice a1 x.length k1]) (n, x) from ⟨_, rfl, (hA.below hb).in_⟩) ok1 g1
  cases hv : validLt (n, x)
  · have HZ : Hid (brW (n, x) = rz ∧ brC (n, x) = 1) := by show _ ∧ _; simp [brW, brC, hv]
    rw [hv] at CL
    go_enter Try.func12, Try.ntmps12
    go_wp2_with fail
    rw [← HP2.out, ← HP1.out, ← HW.out]
    refine (CL W (Below.refl _ _)).mono ?_
    rintro e w3 ⟨rfl, hb⟩
    have b0 := (q2.later hb).cell (j := 0) rfl
    have b1 := (q2.later hb).cell (j := 1) rfl
    have bf := (q2.later hb).free
    clear m10 m11
    go_wp2_with fail
    refine bodyPost_ret (v := .tuple #[.agg #[.string ⟨#[]⟩, .int .i64 0], .int .i64 1]) (by simp [results, Try.results12, go_sem, b0, b1]) rfl (finish _ rz _ HZ ?_)
    exact ((hbW.trans (hb.mono hlW)).setCell hge2 _).setCell hge2 _
  rw [hv] at CL
  obtain ⟨n1, n2, x2⟩ := valid_bd hv
  obtain ⟨N, rfl⟩ : ∃ N : Nat, n = N := ⟨n.toNat, by omega⟩
  have hNt : ((N : Int) - 1).toNat = N - 1 := by omega
  have CA := fun w' (hb : Below W.heap.size W w') => bestReadings_any (.agg #[.int .i64 N, .slice a1 x.length k1]) N 1 x w' (show rLattice.at_ 0 w'.heap.size w' (.agg #[.int .i64 N, .slice a1 x.length k1]) ((N : Int), x) from ⟨_, rfl, (hA.below hb).in_⟩) hv (Nat.le_refl _) (by omega)
  have hBR : brO ((N : Int), x) 1 = statesR 1 (fun _ => true) I0 x (N - 1) := by unfold brO; simp only [hNt]
  rw [← hBR] at CA
  have hBl := brO_len hv (m := 1) (Nat.le_refl _)
  rcases hF : brO ((N : Int), x) 1 with _ | ⟨f, t⟩
  · have HZ : Hid (brW ((N : Int), x) = rz ∧ brC ((N : Int), x) = 3) := by show _ ∧ _; simp [brW, brC, hv, hF]
    rw [hF] at CA
    clear hBR hBl hF
    go_enter Try.func12, Try.ntmps12
    go_wp2_with fail
    rw [← HP2.out, ← HP1.out, ← HW.out]
    refine (CL W (Below.refl _ _)).mono ?_
    rintro e w3 ⟨rfl, hb⟩
    have s10 := cell_later hb m10
    have s11 := cell_later hb m11
    go_wp2_with fail
    refine (CA w3 hb).mono ?_
    rintro e w5 ⟨u, rfl, ho, hb6⟩
    have hb7 := hb.trans (hb6.mono hb.size)
    obtain ⟨sa, sc, hu⟩ := ho.isSlice
    subst hu
    have b0 := (q2.later hb7).cell (j := 0) rfl
    have b1 := (q2.later hb7).cell (j := 1) rfl
    have bf := (q2.later hb7).free
    clear m10 m11
    go_wp2_with fail
    refine bodyPost_ret (v := .tuple #[.agg #[.string ⟨#[]⟩, .int .i64 0], .int .i64 3]) (by simp [results, Try.results12, go_sem, b0, b1]) rfl (finish _ rz _ HZ ?_)
    exact ((hbW.trans (hb7.mono hlW)).setCell hge2 _).setCell hge2 _
  · have HZ : Hid (brW ((N : Int), x) = f ∧ brC ((N : Int), x) = 0) := by show _ ∧ _; simp [brW, brC, hv, hF]
    rw [hF] at CA hBl
    clear hBR hF
    simp only [List.length_cons] at hBl
    go_enter Try.func12, Try.ntmps12
    go_wp2_with fail
    rw [← HP2.out, ← HP1.out, ← HW.out]
    refine (CL W (Below.refl _ _)).mono ?_
    rintro e w3 ⟨rfl, hb⟩
    have s10 := cell_later hb m10
    have s11 := cell_later hb m11
    go_wp2_with fail
    refine (CA w3 hb).mono ?_
    rintro e w5 ⟨u, rfl, ho, hb6⟩
    have hb7 := hb.trans (hb6.mono hb.size)
    obtain ⟨g, cap, rfl, hBg, hg⟩ := ho.shape.resolve_left (fun h => by have := h.2; cases this)
    obtain ⟨c0, c1⟩ := eReading_cells (own_cells ho rfl).1 (k := 0) (x := f) rfl
    simp only [Nat.zero_mul, Nat.zero_add] at c0 c1
    have b0 := (q2.later hb7).cell (j := 0) rfl
    have b1 := (q2.later hb7).cell (j := 1) rfl
    have bf := (q2.later hb7).free
    have hl0 : (((f :: t).length : Int) == 0) = false := by rw [beq_eq_false_iff_ne]; simp only [List.length_cons]; omega
    have hl1 : (0 : Int) < ((f :: t).length : Int) := by simp only [List.length_cons]; omega
    have hl2 : 0 < (f :: t).length := by simp
    generalize (f :: t).length = ln at hl0 hl1 hl2 ⊢
    clear m10 m11
    go_wp2_with fail
    refine bodyPost_ret (v := .tuple #[.agg #[.string f.text, .int .i64 f.cost], .int .i64 0]) (by simp [results, Try.results12, go_sem, b0, b1]) rfl (finish _ f _ HZ ?_)
    exact ((hbW.trans (hb7.mono hlW)).setCell hge2 _).setCell hge2 _
set_option maxHeartbeats 4000000 in
set_option maxRecDepth 100000 in
theorem specBestReadings_any (v1 : Value) (x : XLattice) (k : Int) (w : World) {lo1 hi1 : Nat} (h1 : rLattice.at_ lo1 hi1 w v1 x) (ok1 : okLattice x) (g1 : goodLattice x) :
    Calls Try.prog 15 #[v1, .int .i64 k] w (RetNew rReadingS (brL x k) #[.int .i64 (brD x k)] w) := by
  obtain ⟨u1, rfl, h1⟩ := h1
  replace h1 := ArrIn.arr h1
  obtain ⟨n, x⟩ := x
  obtain ⟨a1, k1, hu⟩ := h1.isSlice
  subst hu
  simp only at h1
  obtain ⟨W, hW⟩ : ∃ u, u = (w.alloc (.cells #[.int .i64 n, .slice a1 x.length k1] 32)) := ⟨_, rfl⟩
  have hbW : Below w.heap.size w W := by rw [hW]; exact belowA1 _ _
  have q1 : Box W (w.heap.size) #[.int .i64 n, .slice a1 x.length k1] 32 := by
    have hq := Box.new w #[.int .i64 n, .slice a1 x.length k1] 32
    rw [hW]
    exact hq
  obtain ⟨p1, hp1⟩ : ∃ p, p = w.heap.size := ⟨_, rfl⟩
  rw [← hp1] at q1
  have hge1 : w.heap.size ≤ p1 := by omega
  have hlW : w.heap.size ≤ W.heap.size := hbW.size
  have hlp1 : p1 < W.heap.size := q1.lt
  have HP1 := hid hp1
  have HW := hid hW
  clear hW hp1
  have hA := h1.below hbW
  have m10 := q1.cell (j := 0) rfl
  have m11 := q1.cell (j := 1) rfl
  have finish : ∀ (w' : World) (u : Value) (z : List DReading) (c : Int), Hid (brL (n, x) k = z ∧ brD (n, x) k = c) → Own eReading 27 w.heap.size w' u z → Below w.heap.size w w' → RetNew rReadingS (brL (n, x) k) #[.int .i64 (brD (n, x) k)] w (.returned (.tuple #[u, .int .i64 c])) w' := by
    intro w' u z c hz ho hb
    rw [hz.out.1, hz.out.2]
    exact ⟨_, rfl, rReadingS_own ho (Nat.le_refl _), hb⟩
  have CL := fun w' (hb : Below W.heap.size W w') => l15Ok_any p1 n _ x w' (cell_later hb m10) (cell_later hb m11) (hA.below hb) ok1 g1
  have CI : ∀ w', Calls Try.prog 44 #[.int .i64 k, .int .i64 1, .int .i64 20] w' fun e w'' => e = .returned (.bool (inB k 1 20)) ∧ w' = w'' := fun w' => l00In_any _ _ _ w'
  cases hv : validLt (n, x)
  · have HZ : Hid (brL (n, x) k = [] ∧ brD (n, x) k = 1) := by show _ ∧ _; simp [brL, brD, hv]
    rw [hv] at CL
    go_enter Try.func15, Try.ntmps15
    go_wp2_with fail
    rw [← HP1.out, ← HW.out]
    refine (CL W (Below.refl _ _)).mono ?_
    rintro e w3 ⟨rfl, hb⟩
    go_wp2_with fail
    go_ret2
    exact finish _ _ _ _ HZ (Own.nil _ _ _) (hbW.trans (hb.mono hlW))
  rw [hv] at CL
  obtain ⟨n1, n2, x2⟩ := valid_bd hv
  obtain ⟨N, rfl⟩ : ∃ N : Nat, n = N := ⟨n.toNat, by omega⟩
  have hNt : ((N : Int) - 1).toNat = N - 1 := by omega
  cases hi : inB k 1 20
  · have HZ : Hid (brL ((N : Int), x) k = [] ∧ brD ((N : Int), x) k = 2) := by show _ ∧ _; simp [brL, brD, hv, hi]
    rw [hi] at CI
    go_enter Try.func15, Try.ntmps15
    go_wp2_with fail
    rw [← HP1.out, ← HW.out]
    refine (CL W (Below.refl _ _)).mono ?_
    rintro e w3 ⟨rfl, hb⟩
    go_wp2_with (go_at_call 44; refine (CI _).mono ?_; rintro e w' ⟨rfl, rfl⟩)
    go_ret2
    exact finish _ _ _ _ HZ (Own.nil _ _ _) (hbW.trans (hb.mono hlW))
  · have hi' := inB_true.1 hi
    obtain ⟨m, rfl⟩ : ∃ m : Nat, k = m := ⟨k.toNat, by omega⟩
    have HZ : Hid (brL ((N : Int), x) (m : Int) = brO ((N : Int), x) m ∧ brD ((N : Int), x) (m : Int) = 0) := by show _ ∧ _; simp [brL, brD, hv, hi]
    rw [hi] at CI
    have CA := fun w' (hb : Below W.heap.size W w') => l15Best_any p1 _ N m x w' (cell_later hb m10) (cell_later hb m11) (hA.below hb) hv (by omega) (by omega)
    have hBR : brO ((N : Int), x) m = statesR m (fun _ => true) [⟨⟨#[]⟩, 0⟩] x (N - 1) := by unfold brO; simp only [hNt]; rfl
    have hBl := brO_len hv (m := m) (by omega)
    rw [← hBR] at CA
    obtain ⟨RS, hRS⟩ : ∃ RS, RS = brO ((N : Int), x) m := ⟨_, rfl⟩
    rw [← hRS] at CA hBl HZ
    have hRl : RS.length ≤ 20 := by omega
    clear hBR hRS hi hi' hBl
    go_enter Try.func15, Try.ntmps15
    go_wp2_with fail
    rw [← HP1.out, ← HW.out]
    refine (CL W (Below.refl _ _)).mono ?_
    rintro e w3 ⟨rfl, hb⟩
    have hbA := hb.trans ((below_alloc w3 (.cells #[] 27)).mono hb.size)
    have hl3 : w.heap.size ≤ w3.heap.size := Nat.le_trans hlW hb.size
    go_wp2_with (first | (go_at_call 44; refine (CI _).mono ?_; rintro e w' ⟨rfl, rfl⟩) | (go_at_call 39; refine (CA _ hbA).mono ?_; rintro e w4 ⟨u4, rfl, hAr, hb4⟩; obtain ⟨sa, sc, hu4⟩ := (ArrIn.arr hAr).isSlice; subst hu4) | (at_builtin; (refine wpList_appA rfl _ _ 37 rfl w.heap.size 27 _ 24 infReading Try.underlying37 rfl _ [] rfl ((Own.empty (E := eReading) 27 w3 hl3).below (hb4.mono (by simp))) _ RS rfl (ArrIn.arr hAr) (by unfold maxLen; simp; omega) (by simp; omega) (Nat.le_trans hl3 (Nat.le_trans (by simp) hb4.size)) ?_; intro v' wA hoA hbA2 htA)))
    go_ret2
    exact finish _ _ _ _ HZ (by simpa using hoA) ((hbW.trans ((hbA.trans (hb4.mono hbA.size)).mono hlW)).trans hbA2)
set_option maxHeartbeats 4000000 in
set_option maxRecDepth 100000 in
theorem implBestReadings_any (v1 : Value) (x : XLattice) (k : Int) (w : World) {lo1 hi1 : Nat} (h1 : rLattice.at_ lo1 hi1 w v1 x) (ok1 : okLattice x) (g1 : goodLattice x) :
    Calls Try.prog 16 #[v1, .int .i64 k] w (RetNew rReadingS (brL x k) #[.int .i64 (brD x k)] w) := by
  obtain ⟨u1, rfl, h1⟩ := h1
  replace h1 := ArrIn.arr h1
  obtain ⟨n, x⟩ := x
  obtain ⟨a1, k1, hu⟩ := h1.isSlice
  subst hu
  simp only at h1
  obtain ⟨W, hW⟩ : ∃ u, u = (w.alloc (.cells #[.int .i64 n, .slice a1 x.length k1] 32)) := ⟨_, rfl⟩
  have hbW : Below w.heap.size w W := by rw [hW]; exact belowA1 _ _
  have q1 : Box W (w.heap.size) #[.int .i64 n, .slice a1 x.length k1] 32 := by
    have hq := Box.new w #[.int .i64 n, .slice a1 x.length k1] 32
    rw [hW]
    exact hq
  obtain ⟨p1, hp1⟩ : ∃ p, p = w.heap.size := ⟨_, rfl⟩
  rw [← hp1] at q1
  have hge1 : w.heap.size ≤ p1 := by omega
  have hlW : w.heap.size ≤ W.heap.size := hbW.size
  have hlp1 : p1 < W.heap.size := q1.lt
  have HP1 := hid hp1
  have HW := hid hW
  clear hW hp1
  have hA := h1.below hbW
  have m10 := q1.cell (j := 0) rfl
  have m11 := q1.cell (j := 1) rfl
  have finish : ∀ (w' : World) (u : Value) (z : List DReading) (c : Int), Hid (brL (n, x) k = z ∧ brD (n, x) k = c) → Own eReading 27 w.heap.size w' u z → Below w.heap.size w w' → RetNew rReadingS (brL (n, x) k) #[.int .i64 (brD (n, x) k)] w (.returned (.tuple #[u, .int .i64 c])) w' := by
    intro w' u z c hz ho hb
    rw [hz.out.1, hz.out.2]
    exact ⟨_, rfl, rReadingS_own ho (Nat.le_refl _), hb⟩
  have CL := fun w' (hb : Below W.heap.size W w') => implValidLattice_any _ (n, x) w' (show rLattice.at_ 0 w'.heap.size w' (.agg #[.int .i64 n, .slice a1 x.length k1]) (n, x) from ⟨_, rfl, (hA.below hb).in_⟩) ok1 g1
  have CI : ∀ w', Calls Try.prog 45 #[.int .i64 k, .int .i64 1, .int .i64 20] w' fun e w'' => e = .returned (.bool (inB k 1 20)) ∧ w' = w'' := fun w' => within_any _ _ _ w'
  cases hv : validLt (n, x)
  · have HZ : Hid (brL (n, x) k = [] ∧ brD (n, x) k = 1) := by show _ ∧ _; simp [brL, brD, hv]
    rw [hv] at CL
    go_enter Try.func16, Try.ntmps16
    go_wp2_with fail
    rw [← HP1.out, ← HW.out]
    refine (CL W (Below.refl _ _)).mono ?_
    rintro e w3 ⟨rfl, hb⟩
    go_wp2_with fail
    go_ret2
    exact finish _ _ _ _ HZ (Own.nil _ _ _) (hbW.trans (hb.mono hlW))
  rw [hv] at CL
  obtain ⟨n1, n2, x2⟩ := valid_bd hv
  obtain ⟨N, rfl⟩ : ∃ N : Nat, n = N := ⟨n.toNat, by omega⟩
  have hNt : ((N : Int) - 1).toNat = N - 1 := by omega
  cases hi : inB k 1 20
  · have HZ : Hid (brL ((N : Int), x) k = [] ∧ brD ((N : Int), x) k = 2) := by show _ ∧ _; simp [brL, brD, hv, hi]
    rw [hi] at CI
    go_enter Try.func16, Try.ntmps16
    go_wp2_with fail
    rw [← HP1.out, ← HW.out]
    refine (CL W (Below.refl _ _)).mono ?_
    rintro e w3 ⟨rfl, hb⟩
    go_wp2_with (go_at_call 45; refine (CI _).mono ?_; rintro e w' ⟨rfl, rfl⟩)
    go_ret2
    exact finish _ _ _ _ HZ (Own.nil _ _ _) (hbW.trans (hb.mono hlW))
  · have hi' := inB_true.1 hi
    obtain ⟨m, rfl⟩ : ∃ m : Nat, k = m := ⟨k.toNat, by omega⟩
    have HZ : Hid (brL ((N : Int), x) (m : Int) = brO ((N : Int), x) m ∧ brD ((N : Int), x) (m : Int) = 0) := by show _ ∧ _; simp [brL, brD, hv, hi]
    rw [hi] at CI
    have CA := fun w' (hb : Below W.heap.size W w') => bestReadings_any (.agg #[.int .i64 N, .slice a1 x.length k1]) N m x w' (show rLattice.at_ 0 w'.heap.size w' (.agg #[.int .i64 N, .slice a1 x.length k1]) ((N : Int), x) from ⟨_, rfl, (hA.below hb).in_⟩) hv (by omega) (by omega)
    have hBR : brO ((N : Int), x) m = statesR m (fun _ => true) I0 x (N - 1) := by unfold brO; simp only [hNt]
    rw [← hBR] at CA
    obtain ⟨RS, hRS⟩ : ∃ RS, RS = brO ((N : Int), x) m := ⟨_, rfl⟩
    rw [← hRS] at CA HZ
    clear hBR hRS hi hi'
    go_enter Try.func16, Try.ntmps16
    go_wp2_with fail
    rw [← HP1.out, ← HW.out]
    refine (CL W (Below.refl _ _)).mono ?_
    rintro e w3 ⟨rfl, hb⟩
    have s10 := cell_later hb m10
    have s11 := cell_later hb m11
    go_wp2_with (first | (go_at_call 45; refine (CI _).mono ?_; rintro e w' ⟨rfl, rfl⟩) | (go_at_call 42; refine (CA w3 hb).mono ?_; rintro e w5 ⟨u, rfl, ho, hb6⟩))
    go_ret2
    have hb7 := hb.trans (hb6.mono hb.size)
    exact finish _ _ _ _ HZ (ho.mono (Nat.le_trans hlW hb.size)) (hbW.trans (hb7.mono hlW))
end Go.Proofs.Ytnhmailnnggmjaa
