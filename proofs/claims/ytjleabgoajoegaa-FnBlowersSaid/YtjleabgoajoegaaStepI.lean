/-
append of one int64 to a row of the call's own, as one step of a region that draws its order. No condition beyond the premises.
-/
import Derived.Test.YtjleabgoajoegaaAppI
import Derived.Deep.AppendLies
import Derived.Deep.RegionLaw
namespace Go.Proofs.Ytjleabgoajoegaa
open Go.RowKit
set_option linter.unusedVariables false

theorem addr_add0 (g j : Nat) : (⟨g, 0, none⟩ : Addr).add j = ⟨g, j, none⟩ := by
  unfold Addr.add; split
  · rename_i h; subst h; rfl
  · simp
/-- append of one element of one cell, at a step -/
theorem step_app1 {P : Program} (w : World) {ops : Array Oper} {o : Oper} {a : Act} {K : Act → World → Prop} {Q : Exit → Act → World → Prop} {E : Prop} (hgd : o.guard = none) (s x : Operand) (t : TypeId)
    (ho : o.op = .call { callee := .builtin .append, args := #[s, x], argTypes := #[t, t] })
    (lo : Nat) (e : TypeId) (z : Value) (sz bytes : Nat) (ht : P.underlying t = some (.slice e)) (hinfo : (P.info? e).map (fun i => (i.zero, i.size, i.bytes)) = some (some z, sz, bytes))
    (hzs : z.cells.size = sz) (hsz : 0 < sz) (v : Value) (n : Nat) (cs : List Value) (hs : a.eval s = v) (hown : Ow w lo e sz v n cs)
    (g cx : Nat) (news : List Value) (hx : a.eval x = .slice (some ⟨g, 0, none⟩) 1 cx) (hl : news.length = sz) (hu : ∀ j u, news[j]? = some u → w.cell? ⟨g, j, none⟩ = some u) (h1 : ∀ u ∈ news, u.oneCell' = true)
    (hn : n + 1 ≤ 17592186044416) (hbytes : (n + 1) * bytes ≤ 140737488355328) (hlo : lo ≤ w.heap.size)
    (h : ∀ g' c' w', Ow w' lo e sz (.slice (some ⟨g', 0, none⟩) (n + 1) c') (n + 1) (cs ++ news) → w.grownBy w' v.ownBlock → (v.ownBlock = some g' ∨ g' = w.heap.size) → g' < w'.heap.size → K (a.put o.dst (.slice (some ⟨g', 0, none⟩) (n + 1) c')) w') :
    if Region.wanted o (yielded ops a.tmps) = true then Oper.wp P o a w K Q else E := by
  obtain ⟨i, hi, hz, hsize, hb⟩ := info_parts hinfo
  refine step_append_lies w hgd s x t ho lo e i z sz bytes ht hi hz hsize hb hzs hsz v n cs hs hown.own ⟨g, 0, none⟩ 1 cx news hx (by rw [hl]; simp) (fun j u hj => by rw [addr_add0]; exact hu j u hj) h1 (by omega) (by unfold maxLen; omega) hbytes hlo w.heap.size rfl ?_
  intro g' c' w' h2 h3 h4 h5
  exact h g' c' w' ⟨h2, hn⟩ h3 h4 h5
end Go.Proofs.Ytjleabgoajoegaa
