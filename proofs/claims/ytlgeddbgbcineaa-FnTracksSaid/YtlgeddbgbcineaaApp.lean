/-
append of one element to a row that the call itself owns: what it leaves. It holds for every program; the row's new length times its element's bytes stays within Go's own bound.
-/
import Derived.Test.YtlgeddbgbcineaaBase
import Derived.Maps.AppendAt
namespace Go.Proofs.Ytlgeddbgbcineaa
open Go.RowKit
set_option linter.unusedVariables false

theorem grown_alloc {w w' : World} {row : Option Nat} {o : Obj} (h : (w.alloc o).grownBy w' row) : w.grownBy w' row :=
  grown_trans (World.grownBy_alloc w o row) h

/-- a literal without elements -/
theorem ow_empty (w : World) (lo : Nat) (e : TypeId) (sz : Nat) (hlo : lo ≤ w.heap.size) : Ow (w.alloc (.cells #[] e)) lo e sz (.slice (some ⟨w.heap.size, 0, none⟩) 0 0) 0 [] :=
  ⟨World.ownsRow_lit w #[] 0 hlo (by unfold maxLen; omega) (by simp), by omega⟩

theorem wpList_app {P : Program} (wr : World) {ops : Array Oper} {rest : List Oper} {o : Oper} {a : Act} {Q : Exit → Act → World → Prop} (hgd : o.guard = none) (s x : Operand) (t : TypeId)
    (ho : o.op = .call { callee := .builtin .append, args := #[s, x], argTypes := #[t, t] })
    (lo : Nat) (e : TypeId) (z : Value) (sz bytes : Nat) (ht : P.underlying t = some (.slice e)) (hinfo : (P.info? e).map (fun i => (i.zero, i.size, i.bytes)) = some (some z, sz, bytes))
    (hzs : z.cells.size = sz) (hsz : 0 < sz) (v : Value) (n : Nat) (cs : List Value) (hs : a.eval s = v) (hown : Ow wr lo e sz v n cs)
    (nw : Array Value) (e' : TypeId) (cx : Nat) (hx : a.eval x = .slice (some ⟨wr.heap.size, 0, none⟩) 1 cx) (hnl : nw.size = sz) (h1 : ∀ u ∈ nw.toList, u.oneCell' = true)
    (hn : n + 1 ≤ 17592186044416) (hbytes : (n + 1) * bytes ≤ 140737488355328) (hlo : lo ≤ wr.heap.size)
    (h : ∀ A c w', Ow w' lo e sz (.slice A (n + 1) c) (n + 1) (cs ++ nw.toList) → wr.grownBy w' v.ownBlock → wr.heap.size < w'.heap.size →
      ((Value.slice A (n + 1) c).ownBlock = v.ownBlock ∨ ∀ g, (Value.slice A (n + 1) c).ownBlock = some g → wr.heap.size ≤ g) → wpList P ops Q rest (a.put o.dst (.slice A (n + 1) c)) w') :
    wpList P ops Q (o :: rest) a (wr.alloc (.cells nw e')) := by
  obtain ⟨i, hi, hz, hsize, hb⟩ := info_parts hinfo
  have hcell : ∀ j u, nw.toList[j]? = some u → (wr.alloc (.cells nw e')).cell? ((⟨wr.heap.size, 0, none⟩ : Addr).add j) = some u := fun j u hu => by
    have ha : (⟨wr.heap.size, 0, none⟩ : Addr).add j = ⟨wr.heap.size, j, none⟩ := by
      unfold Addr.add; split
      · rename_i h; subst h; rfl
      · simp
    rw [ha, World.cell?_alloc_new]
    simpa using hu
  obtain ⟨v', w', hrun, h2, h3, _, h5⟩ := run_append_own_at (P := P) (wr.alloc (.cells nw e')) lo t o.type e i z sz bytes ht hi hz hsize hb hzs hsz v n cs (hown.own.alloc _) ⟨wr.heap.size, 0, none⟩ 1 cx nw.toList (by simp [hnl]) hcell h1 (by unfold maxLen; omega) hbytes (by simp; omega)
  have hform : ∃ A c, v' = .slice A (n + 1) c := by
    rcases h2.2 with ⟨_, h0⟩ | ⟨g, cap, cur, rfl, _⟩
    · omega
    · exact ⟨_, _, rfl⟩
  obtain ⟨A, c, rfl⟩ := hform
  refine wpList_plain hgd fun K hK => ?_
  unfold Oper.wp execOp
  simp only [ho, resolve, invoke, builtin, Sem.run_bind, Sem.run_pure, Result.andThen_ok, List.map_toArray, List.map_cons, List.map_nil, hs, hx, hrun]
  refine hK _ _ (h A c w' ⟨h2, hn⟩ (grown_alloc h3) ?_ ?_)
  · have := h3.size; simp at this; omega
  · rcases h5 with h5 | h5
    · exact .inl h5
    · refine .inr fun g hg => ?_
      rw [h5] at hg; simp at hg; omega
end Go.Proofs.Ytlgeddbgbcineaa
