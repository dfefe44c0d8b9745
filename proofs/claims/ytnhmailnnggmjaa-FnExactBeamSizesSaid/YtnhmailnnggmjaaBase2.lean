/- Small steps of a law's walk from world to world. Plain lemmas, no program. -/
import Derived.Test.YtnhmailnnggmjaaRep
namespace Go.Proofs.Ytnhmailnnggmjaa
open Go.RowKit

theorem baseB0 {w u u' : World} (h : Below w.heap.size w u) (hb : Below u.heap.size u u') : Below w.heap.size w u' := h.trans (hb.mono h.size)
theorem belowA1 (u : World) (a : Obj) : Below u.heap.size u (u.alloc a) := below_alloc u a
theorem belowA2 (u : World) (a b : Obj) : Below u.heap.size u ((u.alloc a).alloc b) := (below_alloc u a).alloc (by simp) b
theorem belowA3 (u : World) (a b c : Obj) : Below u.heap.size u (((u.alloc a).alloc b).alloc c) := (belowA2 u a b).alloc (by simp <;> omega) c
theorem belowA4 (u : World) (a b c d : Obj) : Below u.heap.size u ((((u.alloc a).alloc b).alloc c).alloc d) := (belowA3 u a b c).alloc (by simp <;> omega) d
theorem base1 {w u : World} {a : Obj} (h : Below w.heap.size w u) : Below w.heap.size w (u.alloc a) := baseB0 h (belowA1 u a)
theorem base2 {w u : World} {a b : Obj} (h : Below w.heap.size w u) : Below w.heap.size w ((u.alloc a).alloc b) := baseB0 h (belowA2 u a b)
theorem base3 {w u : World} {a b c : Obj} (h : Below w.heap.size w u) : Below w.heap.size w (((u.alloc a).alloc b).alloc c) := baseB0 h (belowA3 u a b c)
theorem base4 {w u : World} {a b c d : Obj} (h : Below w.heap.size w u) : Below w.heap.size w ((((u.alloc a).alloc b).alloc c).alloc d) := baseB0 h (belowA4 u a b c d)
theorem baseB1 {w u u' : World} {a : Obj} (h : Below w.heap.size w u) (hb : Below (u.alloc a).heap.size (u.alloc a) u') : Below w.heap.size w u' := baseB0 (base1 h) hb
theorem baseB2 {w u u' : World} {a b : Obj} (h : Below w.heap.size w u) (hb : Below ((u.alloc a).alloc b).heap.size ((u.alloc a).alloc b) u') : Below w.heap.size w u' := baseB0 (base2 h) hb
theorem baseB3 {w u u' : World} {a b c : Obj} (h : Below w.heap.size w u) (hb : Below (((u.alloc a).alloc b).alloc c).heap.size (((u.alloc a).alloc b).alloc c) u') : Below w.heap.size w u' := baseB0 (base3 h) hb
theorem baseB4 {w u u' : World} {a b c d : Obj} (h : Below w.heap.size w u) (hb : Below ((((u.alloc a).alloc b).alloc c).alloc d).heap.size ((((u.alloc a).alloc b).alloc c).alloc d) u') : Below w.heap.size w u' := baseB0 (base4 h) hb
end Go.Proofs.Ytnhmailnnggmjaa
