/- Spots and boxes: both calls. -/
import Derived.Test.YtlnoelbeaolikaaGreatK13
import Derived.Deep.Cut
namespace Go.Proofs.YtlnoelbeaolikaaGreat
open Go.RowKit
structure DSpot where
 x : Int
 y : Int
def eSpot : Enc DSpot := ⟨fun p => [.int .i64 p.x, .int .i64 p.y], 2, fun _ => rfl, by decide, fun x u hu => by simp at hu; rcases hu with rfl | rfl <;> rfl⟩
theorem eSpot_cells {w : World} {b off : Nat} {es : List DSpot} (h : Cells eSpot w b off es) {k : Nat} {x : DSpot} (hx : es[k]? = some x) :
  w.cell? ⟨b, off + k * 2, none⟩ = some (.int .i64 x.x) ∧ w.cell? ⟨b, off + k * 2 + 1, none⟩ = some (.int .i64 x.y) := ⟨h k x hx 0 _ rfl, h k x hx 1 _ rfl⟩
def okSp (p : DSpot) : Prop := 0 ≤ p.x ∧ p.x ≤ 4095 ∧ 0 ≤ p.y ∧ p.y ≤ 4095
def ptSp (p : DPoint) : DSpot := ⟨p.x, p.y⟩
def boxLe (b : DBox) : Prop := b.x1 ≤ b.x2 ∧ b.y1 ≤ b.y2
def sideB (b : DBox) : Int := max (max (b.x2 - b.x1) (b.y2 - b.y1)) 1
def normP (p : DSpot) (b : DBox) : DSpot := ⟨(255 - (b.x2 - b.x1) * 255 / sideB b) / 2 + nearG ((p.x - b.x1) * 255) (sideB b), (255 - (b.y2 - b.y1) * 255 / sideB b) / 2 + nearG ((p.y - b.y1) * 255) (sideB b)⟩
theorem sideB_bd {b : DBox} (hb : okBox b) : 1 ≤ sideB b ∧ sideB b ≤ 4095 ∧ b.x2 - b.x1 ≤ sideB b ∧ b.y2 - b.y1 ≤ sideB b := by
 obtain ⟨h1, h2, h3, h4, h5, h6, h7, h8⟩ := hb
 unfold sideB
 omega
theorem quo_bd {d S : Int} (h0 : 0 ≤ d) (h1 : d ≤ S) (hS : 1 ≤ S) : 0 ≤ d * 255 / S ∧ d * 255 / S ≤ 255 := by
 constructor
 ·exact Int.ediv_nonneg (by omega) (by omega)
 ·exact Int.ediv_le_of_le_mul (by omega) (by rw [Int.mul_comm 255 S]; omega)
theorem nearG_abs {n d : Int} (hd : 1 ≤ d) {B : Int} (h0 : -B ≤ n) (h1 : n ≤ B) (hB : 0 ≤ B) : -B ≤ nearG n d ∧ nearG n d ≤ B := by
 have e := Int.mul_le_mul_of_nonneg_left (c := B) hd hB
 rw [Int.mul_one] at e
 constructor
 ·refine nearG_ge (by omega) ?_
  rw [Int.neg_mul]; omega
 ·exact nearG_le (by omega) (by omega)
/-- normal places do not lie far out -/
theorem normP_bd {p : DSpot} {b : DBox} (hp : okSp p) (hb : okBox b) (hl : boxLe b) : -1045000 ≤ (normP p b).x ∧ (normP p b).x ≤ 1045000 ∧ -1045000 ≤ (normP p b).y ∧ (normP p b).y ≤ 1045000 := by
 obtain ⟨s1, s2, s3, s4⟩ := sideB_bd hb
 obtain ⟨h1, h2, h3, h4, h5, h6, h7, h8⟩ := hb
 obtain ⟨l1, l2⟩ := hl
 obtain ⟨p1, p2, p3, p4⟩ := hp
 have q1 := quo_bd (d := b.x2 - b.x1) (by omega) s3 s1
 have q2 := quo_bd (d := b.y2 - b.y1) (by omega) s4 s1
 have n1 := nearG_abs (n := (p.x - b.x1) * 255) s1 (B := 1044225) (by omega) (by omega) (by omega)
 have n2 := nearG_abs (n := (p.y - b.y1) * 255) s1 (B := 1044225) (by omega) (by omega) (by omega)
 unfold normP
 simp only
 omega
set_option maxHeartbeats 400000 in
theorem spotOf_any (p : DPoint) (w : World) : Calls Tryz.prog 217 #[.agg #[.int .i64 p.x, .int .i64 p.y, .int .i64 p.t]] w (Ret (.agg #[.int .i64 p.x, .int .i64 p.y]) w) := by
 go_enter Tryz.func217, Tryz.ntmps217
 go_wp2
 exact bodyPost_ret (v := .agg #[.int .i64 p.x, .int .i64 p.y]) (by simp [results, Tryz.results217, go_sem]) rfl (ret_ret rfl (belowA2 _ _ _))
set_option maxHeartbeats 400000 in
theorem l06Spot_any (p : DPoint) (w : World) : Calls Tryz.prog 212 #[.agg #[.int .i64 p.x, .int .i64 p.y, .int .i64 p.t]] w (Ret (.agg #[.int .i64 p.x, .int .i64 p.y]) w) := by
 go_enter Tryz.func212, Tryz.ntmps212
 go_wp2
 exact bodyPost_ret (v := .agg #[.int .i64 p.x, .int .i64 p.y]) (by simp [results, Tryz.results212, go_sem]) rfl (ret_ret rfl (belowA2 _ _ _))
set_option maxHeartbeats 1000000 in
theorem sideOfBox_any (b : DBox) (w : World) (hb : okBox b) : Calls Tryz.prog 194 #[vBox b] w (Ret (.int .i64 (sideB b)) w) := by
 unfold vBox
 obtain ⟨h1, h2, h3, h4, h5, h6, h7, h8⟩ := hb
 go_enter Tryz.func194, Tryz.ntmps194
 go_wp2
 all_goals
  go_ret
  exact ret_int (by unfold sideB; omega) (below_alloc _ _)
set_option maxHeartbeats 1000000 in
theorem l07Side_any (b : DBox) (w : World) (hb : okBox b) : Calls Tryz.prog 186 #[vBox b] w (Ret (.int .i64 (sideB b)) w) := by
 unfold vBox
 obtain ⟨h1, h2, h3, h4, h5, h6, h7, h8⟩ := hb
 have HS := hid (show max 1 (max (b.x2 - b.x1) (b.y2 - b.y1)) = sideB b by unfold sideB; omega)
 obtain ⟨dx, hdx⟩ : ∃ d, d = b.x2 - b.x1 := ⟨_, rfl⟩
 obtain ⟨dy, hdy⟩ : ∃ d, d = b.y2 - b.y1 := ⟨_, rfl⟩
 have C1 := fun w' => l00Max_any (b.x2 - b.x1) (b.y2 - b.y1) w'
 have C2 := fun w' => l00Max_any 1 (max (b.x2 - b.x1) (b.y2 - b.y1)) w'
 rw [HS.out] at C2
 generalize max (b.x2 - b.x1) (b.y2 - b.y1) = M at C1 C2
 go_enter Tryz.func186, Tryz.ntmps186
 go_wp2_with fail
 refine (C1 _).mono ?_
 rintro e w' ⟨rfl, rfl⟩
 go_wp2_with fail
 refine (C2 _).mono ?_
 rintro e w' ⟨rfl, rfl⟩
 go_wp2_with fail
 go_ret
 exact ret_int rfl (below_alloc _ _)
set_option maxRecDepth 100000 in
set_option maxHeartbeats 2000000 in
theorem normalSpot_any (p : DSpot) (b : DBox) (w : World) (hp : okSp p) (hb : okBox b) (hl : boxLe b) : Calls Tryz.prog 155 #[.agg #[.int .i64 p.x, .int .i64 p.y], vBox b] w (Ret (.agg #[.int .i64 (normP p b).x, .int .i64 (normP p b).y]) w) := by
 obtain ⟨s1, s2, s3, s4⟩ := sideB_bd hb
 have CS := fun w' => sideOfBox_any b w' hb
 have HN := hid (show normP p b = ⟨(255 - (b.x2 - b.x1) * 255 / sideB b) / 2 + nearG ((p.x - b.x1) * 255) (sideB b), (255 - (b.y2 - b.y1) * 255 / sideB b) / 2 + nearG ((p.y - b.y1) * 255) (sideB b)⟩ from rfl)
 unfold vBox at CS ⊢
 obtain ⟨h1, h2, h3, h4, h5, h6, h7, h8⟩ := hb
 obtain ⟨l1, l2⟩ := hl
 obtain ⟨p1, p2, p3, p4⟩ := hp
 have q1 := quo_bd (d := b.x2 - b.x1) (by omega) s3 s1
 have q2 := quo_bd (d := b.y2 - b.y1) (by omega) s4 s1
 generalize sideB b = S at *
 have CN := fun c w' (h0 : -1044225 ≤ c) (h1 : c ≤ 1044225) => nearG_any c S w' (by omega) (by omega) s1 (by omega)
 have n1 := nearG_abs (n := (p.x - b.x1) * 255) s1 (B := 1044225) (by omega) (by omega) (by omega)
 have n2 := nearG_abs (n := (p.y - b.y1) * 255) s1 (B := 1044225) (by omega) (by omega) (by omega)
 obtain ⟨QX, hQX⟩ : ∃ Q, (b.x2 - b.x1) * 255 / S = Q := ⟨_, rfl⟩
 obtain ⟨QY, hQY⟩ : ∃ Q, (b.y2 - b.y1) * 255 / S = Q := ⟨_, rfl⟩
 rw [hQX] at q1
 rw [hQY] at q2
 rw [hQX, hQY] at HN
 obtain ⟨q3, q4⟩ := q1
 obtain ⟨q5, q6⟩ := q2
 obtain ⟨n3, n4⟩ := n1
 obtain ⟨n5, n6⟩ := n2
 have hS0 : ¬ S = 0 := by omega
 have e1 : 0 ≤ (b.x2 - b.x1) * 255 := by omega
 have e2 : 0 ≤ (b.y2 - b.y1) * 255 := by omega
 have e3 : 0 ≤ 255 - QX := by omega
 have e4 : 0 ≤ 255 - QY := by omega
 rw [show normP p b = _ from HN.out]
 clear HN
 obtain ⟨W, hW⟩ : ∃ u, u = (((w.alloc (.cells #[.int .i64 p.x, .int .i64 p.y] 207)).alloc (.cells #[.int .i64 b.x1, .int .i64 b.y1, .int .i64 b.x2, .int .i64 b.y2] 158)).alloc (.cells #[.int .i64 0, .int .i64 0] 207)) := ⟨_, rfl⟩
 have hbW : Below w.heap.size w W := by rw [hW]; exact belowA3 _ _ _ _
 have q1 : Box W (w.heap.size) #[.int .i64 p.x, .int .i64 p.y] 207 := by
  have hq := Box.new w #[.int .i64 p.x, .int .i64 p.y] 207
  rw [hW]
  exact ((hq.alloc _).alloc _)
 have q2 : Box W (w.heap.size + 1) #[.int .i64 b.x1, .int .i64 b.y1, .int .i64 b.x2, .int .i64 b.y2] 158 := by
  have hq := Box.new (w.alloc (.cells #[.int .i64 p.x, .int .i64 p.y] 207)) #[.int .i64 b.x1, .int .i64 b.y1, .int .i64 b.x2, .int .i64 b.y2] 158
  simp at hq
  rw [hW]
  exact (hq.alloc _)
 have q3 : Box W (w.heap.size + 1 + 1) #[.int .i64 0, .int .i64 0] 207 := by
  have hq := Box.new ((w.alloc (.cells #[.int .i64 p.x, .int .i64 p.y] 207)).alloc (.cells #[.int .i64 b.x1, .int .i64 b.y1, .int .i64 b.x2, .int .i64 b.y2] 158)) #[.int .i64 0, .int .i64 0] 207
  simp at hq
  rw [hW]
  exact hq
 obtain ⟨p1, hp1⟩ : ∃ p, p = w.heap.size := ⟨_, rfl⟩
 rw [← hp1] at q1
 have hge1 : w.heap.size ≤ p1 := by omega
 obtain ⟨p2, hp2⟩ : ∃ p, p = w.heap.size + 1 := ⟨_, rfl⟩
 rw [← hp2] at q2
 have hge2 : w.heap.size ≤ p2 := by omega
 obtain ⟨p3, hp3⟩ : ∃ p, p = w.heap.size + 1 + 1 := ⟨_, rfl⟩
 rw [← hp3] at q3
 have hge3 : w.heap.size ≤ p3 := by omega
 have hlW : w.heap.size ≤ W.heap.size := hbW.size
 have hlp1 : p1 < W.heap.size := q1.lt
 have hlp2 : p2 < W.heap.size := q2.lt
 have hlp3 : p3 < W.heap.size := q3.lt
 have hne12 : p1 ≠ p2 := by omega
 have hne13 : p1 ≠ p3 := by omega
 have hne23 : p2 ≠ p3 := by omega
 have HP1 := hid hp1
 have HP2 := hid hp2
 have HP3 := hid hp3
 have HW := hid hW
 clear hW hp1 hp2 hp3
 have a0 := q1.cell (j := 0) rfl
 have a1 := q1.cell (j := 1) rfl
 have b0 := q2.cell (j := 0) rfl
 have b1 := q2.cell (j := 1) rfl
 have b2 := q2.cell (j := 2) rfl
 have b3 := q2.cell (j := 3) rfl
 go_enter Tryz.func155, Tryz.ntmps155
 go_upto_region 1 with fail
 rw [← HP3.out, ← HP2.out, ← HP1.out, ← HW.out]
 go_wp2_with fail
 refine (CS _).mono ?_
 rintro e w2 ⟨rfl, hb2⟩
 have a0 := cell_later hb2 a0
 have a1 := cell_later hb2 a1
 have b0 := cell_later hb2 b0
 have b1 := cell_later hb2 b1
 have b2 := cell_later hb2 b2
 have b3 := cell_later hb2 b3
 have bx := q3.later hb2
 have c0 := bx.cell (j := 0) rfl
 have c1 := bx.cell (j := 1) rfl
 have cf := bx.free
 clear CS q1 q2 q3
 go_upto_region 4 with fail
 have wr1 : IntKind.i64.wrap (p.x - b.x1) = p.x - b.x1 := IntWalk.i64_in _ (by omega)
 have wr2 : IntKind.i64.wrap ((p.x - b.x1) * 255) = (p.x - b.x1) * 255 := IntWalk.i64_in _ (by omega)
 have wr3 : IntKind.i64.wrap ((255 - QX) / 2 + nearG ((p.x - b.x1) * 255) S) = (255 - QX) / 2 + nearG ((p.x - b.x1) * 255) S := IntWalk.i64_in _ (by omega)
 have wr4 : IntKind.i64.wrap (p.y - b.y1) = p.y - b.y1 := IntWalk.i64_in _ (by omega)
 have wr5 : IntKind.i64.wrap ((p.y - b.y1) * 255) = (p.y - b.y1) * 255 := IntWalk.i64_in _ (by omega)
 have wr6 : IntKind.i64.wrap ((255 - QY) / 2 + nearG ((p.y - b.y1) * 255) S) = (255 - QY) / 2 + nearG ((p.y - b.y1) * 255) S := IntWalk.i64_in _ (by omega)
 refine wp_region_still_tail 21 (by kernel_rfl) (by kernel_rfl) ?_
 simp only [List.take_succ_cons, List.take_zero, List.drop_succ_cons, List.drop_zero]
 repeat (first | still_step | still_call ((CN _ _ (by omega) (by omega)).mono fun _ _ h => ⟨h.1, h.2.symm⟩))
 refine wpStill_nil ?_
 change wpList _ _ _ _ _ (World.drew _)
 go_wp2
 refine bodyPost_ret (v := .agg #[.int .i64 ((255 - QX) / 2 + nearG ((p.x - b.x1) * 255) S), .int .i64 ((255 - QY) / 2 + nearG ((p.y - b.y1) * 255) S)]) (by simp [results, Tryz.results155, go_sem, c0, c1]) rfl (ret_ret rfl ?_)
 exact ((((hbW.trans (hb2.mono hlW))).setCell hge3 _).setCell hge3 _).drew
set_option maxRecDepth 100000 in
set_option maxHeartbeats 2000000 in
theorem l07Normal_any (p : DSpot) (b : DBox) (w : World) (hp : okSp p) (hb : okBox b) (hl : boxLe b) : Calls Tryz.prog 144 #[.agg #[.int .i64 p.x, .int .i64 p.y], vBox b] w (Ret (.agg #[.int .i64 (normP p b).x, .int .i64 (normP p b).y]) w) := by
 obtain ⟨s1, s2, s3, s4⟩ := sideB_bd hb
 have CS := fun w' => l07Side_any b w' hb
 have HN := hid (show normP p b = ⟨(255 - (b.x2 - b.x1) * 255 / sideB b) / 2 + nearG ((p.x - b.x1) * 255) (sideB b), (255 - (b.y2 - b.y1) * 255 / sideB b) / 2 + nearG ((p.y - b.y1) * 255) (sideB b)⟩ from rfl)
 unfold vBox at CS ⊢
 obtain ⟨h1, h2, h3, h4, h5, h6, h7, h8⟩ := hb
 obtain ⟨l1, l2⟩ := hl
 obtain ⟨p1, p2, p3, p4⟩ := hp
 have q1 := quo_bd (d := b.x2 - b.x1) (by omega) s3 s1
 have q2 := quo_bd (d := b.y2 - b.y1) (by omega) s4 s1
 generalize sideB b = S at *
 have CN := fun c w' (h0 : -1044225 ≤ c) (h1 : c ≤ 1044225) => l05NearG_any c S w' (by omega) (by omega) s1 (by omega)
 have n1 := nearG_abs (n := (p.x - b.x1) * 255) s1 (B := 1044225) (by omega) (by omega) (by omega)
 have n2 := nearG_abs (n := (p.y - b.y1) * 255) s1 (B := 1044225) (by omega) (by omega) (by omega)
 obtain ⟨QX, hQX⟩ : ∃ Q, (b.x2 - b.x1) * 255 / S = Q := ⟨_, rfl⟩
 obtain ⟨QY, hQY⟩ : ∃ Q, (b.y2 - b.y1) * 255 / S = Q := ⟨_, rfl⟩
 rw [hQX] at q1
 rw [hQY] at q2
 rw [hQX, hQY] at HN
 obtain ⟨q3, q4⟩ := q1
 obtain ⟨q5, q6⟩ := q2
 obtain ⟨n3, n4⟩ := n1
 obtain ⟨n5, n6⟩ := n2
 have hS0 : ¬ S = 0 := by omega
 have e1 : 0 ≤ (b.x2 - b.x1) * 255 := by omega
 have e2 : 0 ≤ (b.y2 - b.y1) * 255 := by omega
 have e3 : 0 ≤ 255 - QX := by omega
 have e4 : 0 ≤ 255 - QY := by omega
 rw [show normP p b = _ from HN.out]
 clear HN
 obtain ⟨W, hW⟩ : ∃ u, u = (((w.alloc (.cells #[.int .i64 p.x, .int .i64 p.y] 207)).alloc (.cells #[.int .i64 b.x1, .int .i64 b.y1, .int .i64 b.x2, .int .i64 b.y2] 158)).alloc (.cells #[.int .i64 0, .int .i64 0] 207)) := ⟨_, rfl⟩
 have hbW : Below w.heap.size w W := by rw [hW]; exact belowA3 _ _ _ _
 have q1 : Box W (w.heap.size) #[.int .i64 p.x, .int .i64 p.y] 207 := by
  have hq := Box.new w #[.int .i64 p.x, .int .i64 p.y] 207
  rw [hW]
  exact ((hq.alloc _).alloc _)
 have q2 : Box W (w.heap.size + 1) #[.int .i64 b.x1, .int .i64 b.y1, .int .i64 b.x2, .int .i64 b.y2] 158 := by
  have hq := Box.new (w.alloc (.cells #[.int .i64 p.x, .int .i64 p.y] 207)) #[.int .i64 b.x1, .int .i64 b.y1, .int .i64 b.x2, .int .i64 b.y2] 158
  simp at hq
  rw [hW]
  exact (hq.alloc _)
 have q3 : Box W (w.heap.size + 1 + 1) #[.int .i64 0, .int .i64 0] 207 := by
  have hq := Box.new ((w.alloc (.cells #[.int .i64 p.x, .int .i64 p.y] 207)).alloc (.cells #[.int .i64 b.x1, .int .i64 b.y1, .int .i64 b.x2, .int .i64 b.y2] 158)) #[.int .i64 0, .int .i64 0] 207
  simp at hq
  rw [hW]
  exact hq
 obtain ⟨p1, hp1⟩ : ∃ p, p = w.heap.size := ⟨_, rfl⟩
 rw [← hp1] at q1
 have hge1 : w.heap.size ≤ p1 := by omega
 obtain ⟨p2, hp2⟩ : ∃ p, p = w.heap.size + 1 := ⟨_, rfl⟩
 rw [← hp2] at q2
 have hge2 : w.heap.size ≤ p2 := by omega
 obtain ⟨p3, hp3⟩ : ∃ p, p = w.heap.size + 1 + 1 := ⟨_, rfl⟩
 rw [← hp3] at q3
 have hge3 : w.heap.size ≤ p3 := by omega
 have hlW : w.heap.size ≤ W.heap.size := hbW.size
 have hlp1 : p1 < W.heap.size := q1.lt
 have hlp2 : p2 < W.heap.size := q2.lt
 have hlp3 : p3 < W.heap.size := q3.lt
 have hne12 : p1 ≠ p2 := by omega
 have hne13 : p1 ≠ p3 := by omega
 have hne23 : p2 ≠ p3 := by omega
 have HP1 := hid hp1
 have HP2 := hid hp2
 have HP3 := hid hp3
 have HW := hid hW
 clear hW hp1 hp2 hp3
 have a0 := q1.cell (j := 0) rfl
 have a1 := q1.cell (j := 1) rfl
 have b0 := q2.cell (j := 0) rfl
 have b1 := q2.cell (j := 1) rfl
 have b2 := q2.cell (j := 2) rfl
 have b3 := q2.cell (j := 3) rfl
 go_enter Tryz.func144, Tryz.ntmps144
 go_upto_region 1 with fail
 rw [← HP3.out, ← HP2.out, ← HP1.out, ← HW.out]
 go_wp2_with fail
 refine (CS _).mono ?_
 rintro e w2 ⟨rfl, hb2⟩
 have a0 := cell_later hb2 a0
 have a1 := cell_later hb2 a1
 have b0 := cell_later hb2 b0
 have b1 := cell_later hb2 b1
 have b2 := cell_later hb2 b2
 have b3 := cell_later hb2 b3
 have bx := q3.later hb2
 have c0 := bx.cell (j := 0) rfl
 have c1 := bx.cell (j := 1) rfl
 have cf := bx.free
 clear CS q1 q2 q3
 go_upto_region 4 with fail
 have wr1 : IntKind.i64.wrap (p.x - b.x1) = p.x - b.x1 := IntWalk.i64_in _ (by omega)
 have wr2 : IntKind.i64.wrap ((p.x - b.x1) * 255) = (p.x - b.x1) * 255 := IntWalk.i64_in _ (by omega)
 have wr3 : IntKind.i64.wrap ((255 - QX) / 2 + nearG ((p.x - b.x1) * 255) S) = (255 - QX) / 2 + nearG ((p.x - b.x1) * 255) S := IntWalk.i64_in _ (by omega)
 have wr4 : IntKind.i64.wrap (p.y - b.y1) = p.y - b.y1 := IntWalk.i64_in _ (by omega)
 have wr5 : IntKind.i64.wrap ((p.y - b.y1) * 255) = (p.y - b.y1) * 255 := IntWalk.i64_in _ (by omega)
 have wr6 : IntKind.i64.wrap ((255 - QY) / 2 + nearG ((p.y - b.y1) * 255) S) = (255 - QY) / 2 + nearG ((p.y - b.y1) * 255) S := IntWalk.i64_in _ (by omega)
 refine wp_region_still_tail 21 (by kernel_rfl) (by kernel_rfl) ?_
 simp only [List.take_succ_cons, List.take_zero, List.drop_succ_cons, List.drop_zero]
 repeat (first | still_step | still_call ((CN _ _ (by omega) (by omega)).mono fun _ _ h => ⟨h.1, h.2.symm⟩))
 refine wpStill_nil ?_
 change wpList _ _ _ _ _ (World.drew _)
 go_wp2
 refine bodyPost_ret (v := .agg #[.int .i64 ((255 - QX) / 2 + nearG ((p.x - b.x1) * 255) S), .int .i64 ((255 - QY) / 2 + nearG ((p.y - b.y1) * 255) S)]) (by simp [results, Tryz.results144, go_sem, c0, c1]) rfl (ret_ret rfl ?_)
 exact ((((hbW.trans (hb2.mono hlW))).setCell hge3 _).setCell hge3 _).drew
end Go.Proofs.YtlnoelbeaolikaaGreat
