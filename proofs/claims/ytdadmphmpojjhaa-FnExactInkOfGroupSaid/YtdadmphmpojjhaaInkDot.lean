/- A stroke that is a dot: the calls that tell it. -/
import Derived.Test.YtdadmphmpojjhaaInkSt2
namespace Go.Proofs.Ytdadmphmpojjhaa
open Go.RowKit

set_option maxHeartbeats 1000000 in
theorem l14Dot_any (p o : Nat) (v : Value) (x : List DPoint) (w : World) (hp : w.cell? ⟨p, o, none⟩ = some v) (h : Arr ePoint w v x) (ok : x.length ≤ 1048576) (hv : validSt x = true) :
    Calls Try.prog 50 #[.pointer (some ⟨p, o, none⟩)] w (Ret (.bool (isDotB x)) w) := by
  obtain ⟨b1, b2, b3, b4, b5, b6, b7, b8⟩ := okBox_st hv
  obtain ⟨l1, l2⟩ := validSt_len hv
  obtain ⟨B, hBB⟩ : ∃ B, B = boxSt x := ⟨_, rfl⟩
  have HD : Hid (isDotB x = (decide (B.x2 - B.x1 ≤ 160) && decide (B.y2 - B.y1 ≤ 160))) := by rw [hBB]; rfl
  have HJ : ∀ w', Hid (w'.cell? ⟨p, o, none⟩ = some v ∧ Arr ePoint w' v x) → Calls Try.prog 51 #[.pointer (some ⟨p, o, none⟩)] w' (Ret (.agg #[.int .i64 B.x1, .int .i64 B.y1, .int .i64 B.x2, .int .i64 B.y2]) w') := by
    intro w' hn
    rw [hBB]
    exact l02BoxOf_any p o v x w' hn.out.1 hn.out.2 ok (by omega)
  rw [← hBB] at b1 b2 b3 b4 b5 b6 b7 b8
  clear hBB
  cases hd : decide (B.x2 - B.x1 ≤ 160)
  all_goals
    rw [hd] at HD
    go_enter Try.func50, Try.ntmps50
    go_wp2_with fail
    refine (HJ _ ⟨hp, h⟩).mono ?_
    rintro e w2 ⟨rfl, hb⟩
    have hbb : Below w.heap.size w w2 := hb
    go_wp2
    go_ret
    exact ret_bool (by rw [HD.out]; rfl) (hbb.alloc hbb.size _)
set_option maxHeartbeats 1000000 in
theorem isDot_any (v : Value) (x : List DPoint) (w : World) (h : Arr ePoint w v x) (ok : x.length ≤ 1048576) (hv : validSt x = true) :
    Calls Try.prog 57 #[.agg #[v]] w (Ret (.bool (isDotB x)) w) := by
  obtain ⟨b1, b2, b3, b4, b5, b6, b7, b8⟩ := okBox_st hv
  obtain ⟨l1, l2⟩ := validSt_len hv
  obtain ⟨sa, sc, hsl⟩ := h.isSlice
  subst hsl
  have hA := h.alloc (.cells #[.slice sa x.length sc] 57)
  obtain ⟨B, hBB⟩ : ∃ B, B = boxSt x := ⟨_, rfl⟩
  have HD : Hid (isDotB x = (decide (B.x2 - B.x1 ≤ 160) && decide (B.y2 - B.y1 ≤ 160))) := by rw [hBB]; rfl
  have HJ : ∀ w', Hid (Arr ePoint w' (.slice sa x.length sc) x) → Calls Try.prog 58 #[.agg #[.slice sa x.length sc]] w' (Ret (.agg #[.int .i64 B.x1, .int .i64 B.y1, .int .i64 B.x2, .int .i64 B.y2]) w') := by
    intro w' hn
    rw [hBB]
    exact boxOfStroke_any _ x w' hn.out ok (by omega)
  rw [← hBB] at b1 b2 b3 b4 b5 b6 b7 b8
  clear hBB
  cases hd : decide (B.x2 - B.x1 ≤ 160)
  all_goals
    rw [hd] at HD
    go_enter Try.func57, Try.ntmps57
    go_wp2_with fail
    refine (HJ _ hA).mono ?_
    rintro e w2 ⟨rfl, hb⟩
    have hbb : Below w.heap.size w w2 := (below_alloc _ _).trans (hb.mono (by simp))
    go_wp2
    go_ret
    exact ret_bool (by rw [HD.out]; rfl) (hbb.alloc hbb.size _)
end Go.Proofs.Ytdadmphmpojjhaa
