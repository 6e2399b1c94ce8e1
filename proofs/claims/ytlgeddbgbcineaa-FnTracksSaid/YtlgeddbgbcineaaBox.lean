/-
A variable of two cells in a block of its own, and that it stays. No condition.
-/
import Derived.Test.YtlgeddbgbcineaaBase
namespace Go.Proofs.Ytlgeddbgbcineaa
open Go.RowKit
set_option linter.unusedVariables false

structure Box2 (w : World) (g : Nat) (x y : Value) : Prop where
  lt : g < w.heap.size
  c0 : w.cell? ⟨g, 0, none⟩ = some x
  c1 : w.cell? ⟨g, 1, none⟩ = some y
theorem Box2.ex {w w' : World} {g : Nat} {x y : Value} (h : Box2 w g x y) (hb : Below w.heap.size w w') : Box2 w' g x y :=
  ⟨Nat.lt_of_lt_of_le h.lt hb.size, (hb.cell (p := ⟨g, 0, none⟩) h.lt).trans h.c0, (hb.cell (p := ⟨g, 1, none⟩) h.lt).trans h.c1⟩
theorem Box2.new (w : World) (x y : Value) (t : TypeId) : Box2 (w.alloc (.cells #[x, y] t)) w.heap.size x y :=
  ⟨by simp, by simp [go_sem], by simp [go_sem]⟩
end Go.Proofs.Ytlgeddbgbcineaa
