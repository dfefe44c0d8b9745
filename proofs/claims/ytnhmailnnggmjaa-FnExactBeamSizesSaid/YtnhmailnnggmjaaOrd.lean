/- The order of strings. Plain lemmas, no program. -/
import Derived.Test.YtnhmailnnggmjaaBase
namespace Go.Proofs.Ytnhmailnnggmjaa

theorem bless_eq : ∀ (x y : List UInt8), Op.bytesLess x y = decide (x < y)
  | [], [] => by simp [Op.bytesLess]
  | _ :: _, [] => by simp [Op.bytesLess]
  | [], _ :: _ => by simp [Op.bytesLess]
  | a :: x, b :: y => by
    rw [Op.bytesLess, bless_eq x y]
    simp only [List.cons_lt_cons_iff]
    by_cases h1 : a < b <;> by_cases h2 : a = b <;> by_cases h3 : x < y <;> simp [h1, h2, h3]

def ltB (a b : ByteArray) : Bool := Op.bytesLess a.toList b.toList
theorem ltB_irrefl (a : ByteArray) : ltB a a = false := by
  unfold ltB; rw [bless_eq]; simp [List.lt_irrefl]
theorem ltB_trans {a b c : ByteArray} (h : ltB a b = true) (k : ltB b c = true) : ltB a c = true := by
  unfold ltB at *; rw [bless_eq] at *; simp at *; exact List.lt_trans h k
theorem ltB_or {a b : ByteArray} (h : ltB a b = false) (k : ltB b a = false) : a.toList = b.toList := by
  unfold ltB at *; rw [bless_eq] at *; simp at h k
  exact List.le_antisymm k h
theorem ltB_ne {a b : ByteArray} (h : ltB a b = true) : (a.toList == b.toList) = false := by
  rw [beq_eq_false_iff_ne]; intro e
  unfold ltB at h; rw [e] at h
  have := ltB_irrefl b
  unfold ltB at this
  rw [this] at h; cases h
theorem ltB_asymm {a b : ByteArray} (h : ltB a b = true) : ltB b a = false := by
  cases k : ltB b a with
  | false => rfl
  | true => have := ltB_trans h k; rw [ltB_irrefl] at this; cases this
theorem ltB_congr {a b c : ByteArray} (h : a.toList = b.toList) : ltB a c = ltB b c ∧ ltB c a = ltB c b := by
  unfold ltB; rw [h]; exact ⟨rfl, rfl⟩
end Go.Proofs.Ytnhmailnnggmjaa
