/- Calls of closures. -/
import Derived.Test.YtbgjojnjbplblaaGreatDoorRows
import Derived.Test.YtbgjojnjbplblaaGreatDoorBase
namespace Go.Proofs.YtbgjojnjbplblaaGreatDoor
open Go.RowKit

/-- a function with a Go body is entered -/
def Enters (c : FuncId) : Prop := ∀ (args : Array Value) (w : World), (callFunc c args).run Tryz.prog w = .ok (.enter c args) w
theorem enters_of {f : FuncId} {fn : Func} {c : Code} (hf : Tryz.prog.funcs[f]? = some fn) (hname : (fn.name == "runtime.NumGoroutine") = false) (hb : fn.body = some c) : Enters f := by
  intro args w
  have h1 : fn.name ≠ "runtime.NumGoroutine" := by simpa using hname
  simp [callFunc, hf, h1, hb]
def posOf (o : Option Nat) : Int := match o with
  | none => -1
  | some k => k
theorem find_some {α : Type} {x : List α} {q : α → Bool} {k : Nat} {e : α} (h : x[k]? = some e) (he : q e = true) (hj : ∀ j a, j < k → x[j]? = some a → q a = false) : x.findIdx? q = some k := by
  obtain ⟨hk, hx⟩ := List.getElem?_eq_some_iff.1 h
  rw [List.findIdx?_eq_some_iff_getElem]
  refine ⟨hk, by rw [hx]; exact he, fun j hjk => ?_⟩
  simp [hj j x[j] hjk (List.getElem?_eq_getElem _)]
theorem find_none {α : Type} {x : List α} {q : α → Bool} (hj : ∀ j a, j < x.length → x[j]? = some a → q a = false) : x.findIdx? q = none := by
  rw [List.findIdx?_eq_none_iff]
  intro e he
  obtain ⟨j, h⟩ := List.mem_iff_getElem?.1 he
  exact hj j e (List.getElem?_eq_some_iff.1 h).1 h
theorem pos_any {α : Type} (x : List α) (q : α → Bool) : decide (0 ≤ posOf (x.findIdx? q)) = x.any q := by
  cases h : x.findIdx? q with
  | none =>
    rw [List.findIdx?_eq_none_iff] at h
    have : x.any q = false := by rw [List.any_eq_false]; simpa using h
    rw [this]; simp [posOf]
  | some k =>
    rw [List.findIdx?_eq_some_iff_getElem] at h
    obtain ⟨hk, h1, _⟩ := h
    have : x.any q = true := List.any_eq_true.2 ⟨x[k], List.getElem_mem hk, h1⟩
    rw [this]; simp [posOf]
end Go.Proofs.YtbgjojnjbplblaaGreatDoor
