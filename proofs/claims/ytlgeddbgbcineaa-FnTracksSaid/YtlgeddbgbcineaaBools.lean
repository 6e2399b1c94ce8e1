/-
Rows of bools of the call's own. No condition beyond the premises.
-/
import Derived.Test.YtlgeddbgbcineaaBase
namespace Go.Proofs.Ytlgeddbgbcineaa
open Go.RowKit
set_option linter.unusedVariables false

/-- rows of bools -/
def OwB (w : World) (lo : Nat) (v : Value) (xs : List Bool) : Prop := Ow w lo 4 1 v xs.length (xs.map Value.bool)
theorem infoB : (Try.prog.info? 4).map (fun i => (i.zero, i.size, i.bytes)) = some (some (.bool false), 1, 1) := by kernel_rfl
section
variable {w w' : World} {v : Value} {xs : List Bool} {lo : Nat}
theorem OwB.ex (h : OwB w lo v xs) (hb : Below w.heap.size w w') : OwB w' lo v xs := Ow.ex h hb
theorem OwB.mono (h : OwB w lo v xs) {lo' : Nat} (hlo : lo' ≤ lo) : OwB w lo' v xs := Ow.mono h hlo
theorem OwB.set {g c : Nat} (h : OwB w lo (.slice (some ⟨g, 0, none⟩) xs.length c) xs) (k : Nat) (u : Bool) : OwB (w.setCell ⟨g, k, none⟩ (.bool u)) lo (.slice (some ⟨g, 0, none⟩) xs.length c) (xs.set k u) := by
  have := Ow.set h k (.bool u)
  rw [← List.map_set] at this
  unfold OwB
  rwa [List.length_set]
theorem OwB.cell {g c : Nat} (h : OwB w lo (.slice (some ⟨g, 0, none⟩) xs.length c) xs) {k : Nat} (hk : k < xs.length) : w.cell? ⟨g, k, none⟩ = some (.bool xs[k]) := by
  have := Ow.cell h (k := k) (by simpa using hk)
  simpa using this
theorem OwB.free {g c : Nat} (h : OwB w lo (.slice (some ⟨g, 0, none⟩) xs.length c) xs) (k : Nat) : w.frozen? ⟨g, k, none⟩ = false := Ow.free h k
end
theorem owB_at {w : World} {lo n c j : Nat} {A : Option Addr} {xs : List Bool} (h : OwB w lo (.slice A n c) xs) (hn : xs.length = n) (hj : j < n) : ∃ g, A = some ⟨g, 0, none⟩ ∧ lo ≤ g ∧ g < w.heap.size ∧ w.cell? ⟨g, j, none⟩ = some (.bool (xs[j]'(by omega))) ∧ w.frozen? ⟨g, j, none⟩ = false := by
  subst hn
  rcases Ow.form h with ⟨_, h0, _⟩ | ⟨g, c4, hA2, hlo, hlt, _⟩
  · omega
  · injection hA2 with hA2 _ hc2
    subst hA2 hc2
    exact ⟨g, rfl, hlo, hlt, OwB.cell h hj, OwB.free h j⟩
end Go.Proofs.Ytlgeddbgbcineaa
