/-
append of a whole slice to a row of the call's own; copies of []int64: l00Own, slices.Clone. Condition: the slice reads as a list.
-/
import Derived.Test.YtlgeddbgbcineaaAppI
import Derived.Laws.OwnMore
import Derived.Lib.SliceRun
namespace Go.Proofs.Ytlgeddbgbcineaa
open Go.RowKit
set_option linter.unusedVariables false

theorem append_none_any {P : Program} (w : World) (base : Nat) (t ty e : TypeId) (i : TypeInfo) (size : Nat) (ht : P.underlying t = some (.slice e)) (hi : P.info? e = some i)
    (v : Value) (n : Nat) (xs : List Value) (hown : w.ownsRow base e size v n xs) (c : Nat) :
    (Builtin.append_ #[t, t] ty #[v, .slice none 0 c]).run P w = .ok v w := by
  rcases hown.2 with ⟨rfl, rfl⟩ | ⟨g, cap, cur, rfl, _, _, hnc, _⟩
  · simp [Builtin.append_, run_underlying ht, sizeOf, typeInfo, hi, Builtin.lenOf, Builtin.firstCells]
  · simp [Builtin.append_, run_underlying ht, sizeOf, typeInfo, hi, Builtin.lenOf, Builtin.firstCells, hnc, storeCells]

theorem wpList_cat {P : Program} (wr : World) {ops : Array Oper} {rest : List Oper} {o : Oper} {a : Act} {Q : Exit → Act → World → Prop} (hgd : o.guard = none) (s x : Operand) (t : TypeId)
    (ho : o.op = .call { callee := .builtin .append, args := #[s, x], argTypes := #[t, t] })
    (lo : Nat) (e : TypeId) (z : Value) (sz bytes : Nat) (ht : P.underlying t = some (.slice e)) (hinfo : (P.info? e).map (fun i => (i.zero, i.size, i.bytes)) = some (some z, sz, bytes))
    (hzs : z.cells.size = sz) (hsz : 0 < sz) (v : Value) (n : Nat) (cs : List Value) (hs : a.eval s = v) (hown : Ow wr lo e sz v n cs)
    (vx : Value) (m : Nat) (ds : List Value) (hx : a.eval x = vx) (hr : Sl wr sz vx m ds) (h1 : ∀ u ∈ ds, u.oneCell' = true)
    (hn : n + m ≤ 17592186044416) (hbytes : (n + m) * bytes ≤ 140737488355328) (hlo : lo ≤ wr.heap.size)
    (h : ∀ A c w', v = v → Ow w' lo e sz (.slice A (n + m) c) (n + m) (cs ++ ds) → wr.grownBy w' v.ownBlock → wr.heap.size ≤ w'.heap.size → wpList P ops Q rest (a.put o.dst (.slice A (n + m) c)) w') :
    wpList P ops Q (o :: rest) a wr := by
  obtain ⟨i, hi, hz, hsize, hb⟩ := info_parts hinfo
  obtain ⟨A, c, rfl, hl, hm, hc⟩ := hr
  have hrun : ∃ v' w', (Builtin.append_ #[t, t] o.type #[v, .slice A m c]).run P wr = .ok v' w' ∧ w'.ownsRow lo e sz v' (n + m) (cs ++ ds) ∧ wr.grownBy w' v.ownBlock := by
    cases A with
    | some ad =>
      obtain ⟨v', w', h1', h2, h3, _⟩ := run_append_own (P := P) (w := wr) lo t o.type e i z sz bytes ht hi hz hsize hb hzs hsz v n cs hown.own ad m c ds hl (fun j u hj => by
        have hjl := (List.getElem?_eq_some_iff.1 hj).1
        obtain ⟨b', o', hA, hlt, hcell⟩ := hc (by omega)
        injection hA with hA
        subst hA
        have ha : (⟨b', o', none⟩ : Addr).add j = ⟨b', o' + j, none⟩ := by
          unfold Addr.add; split
          · rename_i h; subst h; rfl
          · rfl
        rw [ha, hcell j hjl, ← hj, List.getElem?_eq_getElem hjl]) h1 (by unfold maxLen; omega) hbytes hlo
      exact ⟨v', w', h1', h2, h3⟩
    | none =>
      have hds : ds = [] := by
        rcases Nat.eq_zero_or_pos ds.length with h0 | h0
        · exact List.eq_nil_of_length_eq_zero h0
        · obtain ⟨_, _, hA, _⟩ := hc h0; cases hA
      have hm0 : m = 0 := by
        rw [hds, List.length_nil] at hl
        exact (Nat.mul_eq_zero.1 hl.symm).resolve_right (by omega)
      subst hm0 hds
      exact ⟨v, wr, append_none_any wr lo t o.type e i sz ht hi v n cs hown.own c, by simpa using hown.own, ⟨rfl, rfl, rfl, Nat.le_refl _, fun _ _ _ => rfl⟩⟩
  obtain ⟨v', w', hrun, h2, h3⟩ := hrun
  have hform : ∃ A c, v' = .slice A (n + m) c := by
    rcases h2.2 with ⟨rfl, h0⟩ | ⟨g, cap, cur, rfl, _⟩
    · exact ⟨none, 0, by rw [h0]⟩
    · exact ⟨_, _, rfl⟩
  obtain ⟨A', c', rfl⟩ := hform
  refine wpList_plain hgd fun K hK => ?_
  unfold Oper.wp execOp
  simp only [ho, resolve, invoke, builtin, Sem.run_bind, Sem.run_pure, Result.andThen_ok, List.map_toArray, List.map_cons, List.map_nil, hs, hx, hrun]
  exact hK _ _ (h A' c' w' rfl ⟨h2, hn⟩ h3 h3.size)
end Go.Proofs.Ytlgeddbgbcineaa