/-
Slices of int of the call's own: append of one element. It holds for every program with that type; the row's length stays within Go's bound.
-/
import Derived.Test.YtlgeddbgbcineaaAppI
import Derived.Test.YtlgeddbgbcineaaSub
namespace Go.Proofs.Ytlgeddbgbcineaa
open Go.RowKit
set_option linter.unusedVariables false

def OwN (w : World) (lo : Nat) (v : Value) (xs : List Int) : Prop := Ow w lo 3 1 v xs.length (xs.map (Value.int .i64))
theorem OwN.sl {w : World} {lo : Nat} {v : Value} {xs : List Int} (h : OwN w lo v xs) : SlI w v xs := Ow.sl h
theorem OwN.ex {w w' : World} {lo : Nat} {v : Value} {xs : List Int} (h : OwN w lo v xs) (hb : Below w.heap.size w w') : OwN w' lo v xs := Ow.ex h hb
theorem OwN.mono {w : World} {lo : Nat} {v : Value} {xs : List Int} (h : OwN w lo v xs) {lo' : Nat} (hlo : lo' ≤ lo) : OwN w lo' v xs := Ow.mono h hlo
theorem infoN : (Try.prog.info? 3).map (fun i => (i.zero, i.size, i.bytes)) = some (some (.int .i64 0), 1, 8) := by kernel_rfl
theorem owN_empty (w : World) (lo : Nat) (hlo : lo ≤ w.heap.size) : OwN (w.alloc (.cells #[] 3)) lo (.slice (some ⟨w.heap.size, 0, none⟩) 0 0) [] := ow_empty w lo 3 1 hlo
/-- append of one int, beside another row of the call's own that stays -/
theorem wpList_appN2 (wr : World) {ops : Array Oper} {rest : List Oper} {o : Oper} {a : Act} {Q : Exit → Act → World → Prop} (hgd : o.guard = none) (s x : Operand)
    (ho : o.op = .call { callee := .builtin .append, args := #[s, x], argTypes := #[80, 80] })
    (lo B : Nat) (w0 : World) (A : Option Addr) (n c : Nat) (xs : List Int) (u : Int) (e' : TypeId) (cx : Nat) (hs : a.eval s = .slice A n c) (hown : OwN wr lo (.slice A n c) xs) (hlen : xs.length = n)
    (hx : a.eval x = .slice (some ⟨wr.heap.size, 0, none⟩) 1 cx) (hb : Below B w0 wr) (hB : B ≤ lo) (hlo : lo ≤ wr.heap.size) (hn : n + 1 ≤ 17592186044416)
    {lo2 sz2 m2 : Nat} {e2 : TypeId} {vd : Value} {ds : List Value} (hd : Ow wr lo2 e2 sz2 vd m2 ds) (hsep : Sep vd (.slice A n c))
    (h : ∀ A3 c3 w3, OwN w3 lo (.slice A3 (n + 1) c3) (xs ++ [u]) → wr.heap.size < w3.heap.size → Below B w0 w3 → Ow w3 lo2 e2 sz2 vd m2 ds → Sep vd (.slice A3 (n + 1) c3) → wr.grownBy w3 (Value.slice A n c).ownBlock → wpList Try.prog ops Q rest (a.put o.dst (.slice A3 (n + 1) c3)) w3) :
    wpList Try.prog ops Q (o :: rest) a (wr.alloc (.cells #[.int .i64 u] e')) := by
  subst hlen
  refine wpList_app wr hgd s x 80 ho lo 3 (.int .i64 0) 1 8 Try.underlying80 infoN rfl (by omega) (.slice A xs.length c) xs.length _ hs hown #[.int .i64 u] e' cx hx rfl ?_ hn (by omega) hlo ?_
  · intro v hv; simp at hv; subst hv; rfl
  · intro A3 c3 w3 hown3 hg3 hsz3 hor
    refine h A3 c3 w3 ?_ hsz3 (below_own hb hown hg3 (Nat.le_trans hB hlo) hB) (hd.keptS hg3 hsep) ?_ hg3
    · unfold OwN
      simpa using hown3
    · rcases hsep with hsep | hsep
      · exact .inl hsep
      · rcases hor with hor | hor
        · exact .inr (by rw [hor]; exact hsep)
        · cases hvd : vd.ownBlock with
          | none => exact .inl hvd
          | some g =>
            refine .inr fun hq => ?_
            rw [hvd] at hq
            have h1 := hor g hq.symm
            have h2 := (hd.lt g hvd).2
            omega
end Go.Proofs.Ytlgeddbgbcineaa
