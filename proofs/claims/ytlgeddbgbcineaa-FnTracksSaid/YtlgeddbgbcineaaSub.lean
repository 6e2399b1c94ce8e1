/-
A piece of a slice reads as the piece of the list. No condition but the bounds.
-/
import Derived.Test.YtlgeddbgbcineaaAppI
namespace Go.Proofs.Ytlgeddbgbcineaa
open Go.RowKit
set_option linter.unusedVariables false

theorem flat_drop {α β : Type} (f : α → List β) (s : Nat) (hf : ∀ x, (f x).length = s) : ∀ (k : Nat) (xs : List α), (xs.flatMap f).drop (k * s) = (xs.drop k).flatMap f
  | 0, xs => by simp
  | k + 1, [] => by simp
  | k + 1, x :: xs => by
    rw [List.flatMap_cons, List.drop_succ_cons, ← flat_drop f s hf k xs]
    have : (k + 1) * s = (f x).length + k * s := by rw [hf, Nat.add_mul]; omega
    rw [this, List.drop_length_add_append]
theorem flat_take {α β : Type} (f : α → List β) (s : Nat) (hf : ∀ x, (f x).length = s) : ∀ (k : Nat) (xs : List α), (xs.flatMap f).take (k * s) = (xs.take k).flatMap f
  | 0, xs => by simp
  | k + 1, [] => by simp
  | k + 1, x :: xs => by
    rw [List.flatMap_cons, List.take_succ_cons, List.flatMap_cons, ← flat_take f s hf k xs]
    have : (k + 1) * s = (f x).length + k * s := by rw [hf, Nat.add_mul]; omega
    rw [this, List.take_length_add_append]
theorem sl_sub {w : World} {sz n c c' k m b o : Nat} {cs : List Value} (h : Sl w sz (.slice (some ⟨b, o, none⟩) n c) n cs) (hkm : k + m ≤ n) :
    Sl w sz (.slice (some ⟨b, o + k * sz, none⟩) m c') m ((cs.drop (k * sz)).take (m * sz)) := by
  obtain ⟨A, c0, hv, hl, hn, hc⟩ := h
  injection hv with h1 _ _
  subst h1
  have hkm' : k * sz + m * sz ≤ n * sz := by rw [← Nat.add_mul]; exact Nat.mul_le_mul_right _ hkm
  refine ⟨_, _, rfl, by simp; omega, by omega, fun h0 => ?_⟩
  simp only [List.length_take, List.length_drop] at h0
  obtain ⟨b', o', hA, hb, hcell⟩ := hc (by omega)
  injection hA with hA
  injection hA with h1 h2 _
  subst h1 h2
  refine ⟨b, o + k * sz, rfl, hb, fun j hj => ?_⟩
  simp only [List.length_take, List.length_drop] at hj
  have := hcell (k * sz + j) (by omega)
  rw [Nat.add_assoc, this]
  simp
theorem slI_sub {w : World} {c c' k m b o n : Nat} {xs : List Int} (h : SlI w (.slice (some ⟨b, o, none⟩) n c) xs) (hn : xs.length = n) (hkm : k + m ≤ n) :
    SlI w (.slice (some ⟨b, o + k, none⟩) m c') ((xs.drop k).take m) := by
  subst hn
  have h2 := sl_sub (c' := c') h hkm
  simp only [Nat.mul_one] at h2
  have hl : ((xs.drop k).take m).length = m := by simp; omega
  unfold SlI
  rw [hl, List.map_take, List.map_drop]
  exact h2
/-- the room is not less than the length -/
def capOk (v : Value) : Prop := ∀ A n c, v = .slice A n c → n ≤ c
theorem Ow.cap {w : World} {lo sz n : Nat} {e : TypeId} {v : Value} {cs : List Value} (h : Ow w lo e sz v n cs) : capOk v := by
  intro A m c hv
  rcases h.own.2 with ⟨rfl, _⟩ | ⟨g, cap, cur, rfl, _, _, hc, _⟩
  · injection hv with _ h1 h2; omega
  · injection hv with _ h1 h2; omega
/-- append of one int64, beside another row of the call's own that stays -/
theorem wpList_appI2 (wr : World) {ops : Array Oper} {rest : List Oper} {o : Oper} {a : Act} {Q : Exit → Act → World → Prop} (hgd : o.guard = none) (s x : Operand)
    (ho : o.op = .call { callee := .builtin .append, args := #[s, x], argTypes := #[49, 49] })
    (lo B : Nat) (w0 : World) (A : Option Addr) (n c : Nat) (xs : List Int) (u : Int) (e' : TypeId) (cx : Nat) (hs : a.eval s = .slice A n c) (hown : OwI wr lo (.slice A n c) xs) (hlen : xs.length = n)
    (hx : a.eval x = .slice (some ⟨wr.heap.size, 0, none⟩) 1 cx) (hb : Below B w0 wr) (hB : B ≤ lo) (hlo : lo ≤ wr.heap.size) (hn : n + 1 ≤ 17592186044416)
    {lo2 sz2 m2 : Nat} {e2 : TypeId} {vd : Value} {ds : List Value} (hd : Ow wr lo2 e2 sz2 vd m2 ds) (hsep : Sep vd (.slice A n c))
    (h : ∀ A3 c3 w3, OwI w3 lo (.slice A3 (n + 1) c3) (xs ++ [u]) → wr.heap.size < w3.heap.size → Below B w0 w3 → Ow w3 lo2 e2 sz2 vd m2 ds → Sep vd (.slice A3 (n + 1) c3) → wpList Try.prog ops Q rest (a.put o.dst (.slice A3 (n + 1) c3)) w3) :
    wpList Try.prog ops Q (o :: rest) a (wr.alloc (.cells #[.int .i64 u] e')) := by
  subst hlen
  refine wpList_app wr hgd s x 49 ho lo 2 (.int .i64 0) 1 8 Try.underlying49 infoI64 rfl (by omega) (.slice A xs.length c) xs.length _ hs hown #[.int .i64 u] e' cx hx rfl ?_ hn (by omega) hlo ?_
  · intro v hv; simp at hv; subst hv; rfl
  · intro A3 c3 w3 hown3 hg3 hsz3 hor
    refine h A3 c3 w3 ?_ hsz3 (below_own hb hown hg3 (Nat.le_trans hB hlo) hB) (hd.keptS hg3 hsep) ?_
    · unfold OwI
      simpa using hown3
    · rcases hsep with hsep | hsep
      · exact .inl hsep
      · rcases hor with hor | hor
        · exact .inr (by rw [hor]; exact hsep)
        · cases hvd : vd.ownBlock with
          | none => exact .inl hvd
          | some g =>
            refine .inr fun hq => ?_
            rw [hvd] at hq
            have h1 := hor g hq.symm
            have h2 := (hd.lt g hvd).2
            omega
end Go.Proofs.Ytlgeddbgbcineaa
