/-
A world that has grown, and in which certain blocks alone may have changed: what stays. It holds for every program; no condition beyond the premises.
-/
import Derived.Test.YtlgeddbgbcineaaBase
namespace Go.Proofs.Ytlgeddbgbcineaa
open Go.RowKit
set_option linter.unusedVariables false

/-- w' is w, grown; of what was there the blocks in R alone may have changed -/
structure GrS (R : Nat → Prop) (w w' : World) : Prop where
  os : w'.os = w.os
  tape : w'.tape = w.tape
  output : w'.output = w.output
  size : w.heap.size ≤ w'.heap.size
  block : ∀ k, k < w.heap.size → ¬ R k → w'.heap[k]? = w.heap[k]?
/-- the block of a row -/
def RowOf (v : Value) : Nat → Prop := fun k => v.ownBlock = some k
/-- a slice lies in none of the blocks -/
def Off (R : Nat → Prop) (v : Value) : Prop := ∀ g, v.ownBlock = some g → ¬ R g
section
variable {R R' : Nat → Prop} {w w' w'' a b c : World} {v u : Value} {cs : List Value} {sz n lo : Nat} {e : TypeId}
theorem GrS.refl (R : Nat → Prop) (w : World) : GrS R w w := ⟨rfl, rfl, rfl, Nat.le_refl _, fun _ _ _ => rfl⟩
theorem GrS.trans (h : GrS R a b) (k : GrS R b c) : GrS R a c :=
  ⟨k.os.trans h.os, k.tape.trans h.tape, k.output.trans h.output, Nat.le_trans h.size k.size, fun i hi hn => (k.block i (Nat.lt_of_lt_of_le hi h.size) hn).trans (h.block i hi hn)⟩
theorem GrS.mono (h : GrS R w w') (hR : ∀ k, R k → R' k) : GrS R' w w' := ⟨h.os, h.tape, h.output, h.size, fun k hk hn => h.block k hk (fun hr => hn (hR k hr))⟩
/-- blocks from the first world on need not be named -/
theorem GrS.transNew (h : GrS R a b) (k : GrS R' b c) (hR : ∀ i, i < a.heap.size → R' i → R i) : GrS R a c :=
  ⟨k.os.trans h.os, k.tape.trans h.tape, k.output.trans h.output, Nat.le_trans h.size k.size, fun i hi hn => (k.block i (Nat.lt_of_lt_of_le hi h.size) (fun hr => hn (hR i hi hr))).trans (h.block i hi hn)⟩
theorem GrS.ofBelow (h : Below w.heap.size w w') : GrS R w w' := ⟨h.os, h.tape, h.output, h.size, fun k hk _ => h.block k hk⟩
theorem GrS.below {B : Nat} (h : GrS R w w') (hR : ∀ k, k < w.heap.size → R k → B ≤ k) (hB : B ≤ w.heap.size) : Below B w w' :=
  ⟨h.os, h.tape, h.output, h.size, fun k hk => h.block k (by omega) (fun hr => by have := hR k (by omega) hr; omega)⟩
theorem GrS.ofGrown {row : Option Nat} (h : w.grownBy w' row) (hR : ∀ k, row = some k → R k) : GrS R w w' :=
  ⟨h.os, h.tape, h.output, h.size, fun k hk hn => h.block k hk (fun e => hn (hR k e.symm))⟩
theorem GrS.set {p : Addr} (hR : R p.block) (u : Value) : GrS R w (w.setCell p u) :=
  ⟨rfl, rfl, rfl, by simp [World.setCell], fun k hk hn => Below.heap_setCell _ _ _ _ (fun e => hn (e ▸ hR))⟩
theorem GrS.drewN (h : GrS R w w') (k : Nat) : GrS R w (w'.drewN k) := ⟨h.os, h.tape, h.output, h.size, h.block⟩
theorem GrS.alloc (w : World) (o : Obj) : GrS R w (w.alloc o) := GrS.ofBelow ((Below.refl _ _).alloc (Nat.le_refl _) o)
theorem GrS.cell (h : GrS R w w') {b o : Nat} (hb : b < w.heap.size) (hn : ¬ R b) : w'.cell? ⟨b, o, none⟩ = w.cell? ⟨b, o, none⟩ := World.cell?_of_block (w := w) (h.block b hb hn)
/-- a slice that was there lies in no block that was made later -/
theorem Sl.offOld (h : Sl w sz v n cs) (hR : ∀ k, R k → w.heap.size ≤ k) : 0 < cs.length → Off R v := fun h0 g hg hr => by
  obtain ⟨A, c, hv, hl, hn, hc⟩ := h
  obtain ⟨b, o, hA, hb, -⟩ := hc h0
  rw [hv, hA] at hg
  have e : b = g := by simpa [Value.ownBlock] using hg
  have := hR g hr
  omega
theorem Sl.off (h : Sl w sz v n cs) (hg : GrS R w w') (ho : 0 < cs.length → Off R v) : Sl w' sz v n cs := by
  obtain ⟨A, c, hv, hl, hn, hc⟩ := h
  refine ⟨A, c, hv, hl, hn, fun h0 => ?_⟩
  obtain ⟨b, o, hA, hb, hcell⟩ := hc h0
  have hnb : ¬ R b := ho h0 b (by rw [hv, hA]; rfl)
  exact ⟨b, o, hA, Nat.lt_of_lt_of_le hb hg.size, fun k hk => (hg.cell hb hnb).trans (hcell k hk)⟩
theorem Ow.off (h : Ow w lo e sz v n cs) (hg : GrS R w w') (ho : Off R v) : Ow w' lo e sz v n cs := by
  obtain ⟨⟨hl, hr⟩, hn⟩ := h
  refine ⟨⟨hl, ?_⟩, hn⟩
  rcases hr with h1 | ⟨g, cap, cur, rfl, hb, hgg, rest⟩
  · exact .inl h1
  · refine .inr ⟨g, cap, cur, rfl, hb, ?_, rest⟩
    rw [hg.block g (Array.getElem?_eq_some_iff.1 hgg).1 (ho g rfl)]
    exact hgg
/-- a row that was made later lies in no older block -/
theorem Off.new (h : Ow w lo e sz v n cs) (hR : ∀ k, R k → k < lo) : Off R v := fun g hg hr => by have := (h.lt g hg).1; have := hR g hr; omega
theorem Off.mono (h : Off R v) (hR : ∀ k, R' k → R k) : Off R' v := fun g hg hr => h g hg (hR g hr)
theorem RowOf.lt (h : Ow w lo e sz v n cs) : ∀ k, RowOf v k → lo ≤ k ∧ k < w.heap.size := fun k hk => h.lt k hk
/-- two rows of different element types -/
theorem Off.sep (h : Sep u v) : Off (RowOf v) u := fun g hg hr => by
  rcases h with h | h
  · rw [h] at hg; cases hg
  · exact h (by rw [hg]; exact hr.symm)
end
end Go.Proofs.Ytlgeddbgbcineaa
