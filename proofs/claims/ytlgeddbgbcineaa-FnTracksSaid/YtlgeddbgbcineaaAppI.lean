/-
append of one int64 to a row of the call's own; the last rows of a list that grows. No condition but Go's own bound on lengths.
-/
import Derived.Test.YtlgeddbgbcineaaApp
import Derived.Test.YtlgeddbgbcineaaInts
namespace Go.Proofs.Ytlgeddbgbcineaa
open Go.RowKit
set_option linter.unusedVariables false

theorem infoI64 : (Try.prog.info? 2).map (fun i => (i.zero, i.size, i.bytes)) = some (some (.int .i64 0), 1, 8) := by kernel_rfl

theorem wpList_appI (wr : World) {ops : Array Oper} {rest : List Oper} {o : Oper} {a : Act} {Q : Exit → Act → World → Prop} (hgd : o.guard = none) (s x : Operand)
    (ho : o.op = .call { callee := .builtin .append, args := #[s, x], argTypes := #[49, 49] })
    (lo B : Nat) (w0 : World) (A : Option Addr) (n c : Nat) (xs : List Int) (u : Int) (e' : TypeId) (cx : Nat) (hs : a.eval s = .slice A n c) (hown : OwI wr lo (.slice A n c) xs) (hlen : xs.length = n)
    (hx : a.eval x = .slice (some ⟨wr.heap.size, 0, none⟩) 1 cx) (hb : Below B w0 wr) (hB : B ≤ lo) (hlo : lo ≤ wr.heap.size) (hn : n + 1 ≤ 17592186044416)
    (h : ∀ A3 c3 w3, OwI w3 lo (.slice A3 (n + 1) c3) (xs ++ [u]) → wr.grownBy w3 (Value.slice A n c).ownBlock → wr.heap.size < w3.heap.size → Below B w0 w3 → wpList Try.prog ops Q rest (a.put o.dst (.slice A3 (n + 1) c3)) w3) :
    wpList Try.prog ops Q (o :: rest) a (wr.alloc (.cells #[.int .i64 u] e')) := by
  subst hlen
  refine wpList_app wr hgd s x 49 ho lo 2 (.int .i64 0) 1 8 Try.underlying49 infoI64 rfl (by omega) (.slice A xs.length c) xs.length _ hs hown #[.int .i64 u] e' cx hx rfl ?_ hn (by omega) hlo ?_
  · intro v hv; simp at hv; subst hv; rfl
  · intro A3 c3 w3 hown3 hg3 hsz3 _
    refine h A3 c3 w3 ?_ hg3 hsz3 (below_own hb hown hg3 (Nat.le_trans hB hlo) hB)
    unfold OwI
    simpa using hown3

/-- the empty literal -/
theorem owI_empty (w : World) (lo : Nat) (hlo : lo ≤ w.heap.size) : OwI (w.alloc (.cells #[] 2)) lo (.slice (some ⟨w.heap.size, 0, none⟩) 0 0) [] := ow_empty w lo 2 1 hlo
end Go.Proofs.Ytlgeddbgbcineaa
