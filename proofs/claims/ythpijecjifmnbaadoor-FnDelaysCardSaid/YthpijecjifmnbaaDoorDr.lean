/-
What a draw leaves: a list, or a list of lists, of the call's own, the source gone on; and how bytes of an argument open. No condition beyond the premises.
-/
import Derived.Test.YthpijecjifmnbaaDoorSrc
import Derived.Test.YthpijecjifmnbaaDoorAppI
import Derived.Test.YthpijecjifmnbaaDoorLaw
namespace Go.Proofs.YthpijecjifmnbaaDoor
open Go.ChangeShapes Go.WideShapes Go.ChangeAt Go.RowKit Go.Deep Go.Joins
set_option linter.unusedVariables false
set_option linter.unusedSimpArgs false

def ChoI (P : List Int → Prop) (g hi m : Nat) (w : World) (e : Ending) (w' : World) : Prop :=
  ∃ (A : Option Addr) (c : Nat) (xs : List Int), P xs ∧ e = .returned (.slice A xs.length c) ∧ OwI w' w.heap.size (.slice A xs.length c) xs ∧ Src w' g hi m ∧ Gr1 g w w'
/-- a number that is counted down -/
theorem dec_num {k : Nat} (h : 0 < k) : Value.int .i64 ((k : Int) - 1) = .int .i64 ((k - 1 : Nat) : Int) := by congr 1; omega
theorem mem_snoc {α : Type} {P : α → Prop} {xs : List α} {y : α} (h : ∀ x ∈ xs, P x) (hy : P y) : ∀ x ∈ xs ++ [y], P x := by
  intro x hx
  rcases List.mem_append.1 hx with hx | hx
  · exact h x hx
  · obtain rfl := List.mem_singleton.1 hx; exact hy

section
variable {H : Type} {enc : TypeId × Value → H} {P : Program} {W : World} {base : Nat} {fuel : Nat} {t e : TypeId} {v : Value} {d : DataW H} {p : List MemPlace}
theorem openB (hu : P.underlying t = some (.slice e)) (he : P.underlying e = some (.int .u8)) (hc : P.cellsOf e = 1) (hby : P.bytesOf e = 1)
    (h : DataW.trod enc P W base (fun _ => true) true fuel t [v] = some (d, p)) (hw : ∀ n ∈ d.weights P t, n ≤ reachBytes) : ∃ xs : List Int, SlB W v xs := by
  rcases open_ints hu he hc h with ⟨hcs, _⟩ | ⟨a, len, cap, zs, hcs, _, hl, hm, hz, hx, hcell, hwf⟩
  · injection hcs with hv _
    subst hv
    exact ⟨[], ⟨none, 0, rfl, by simp, fun h => absurd h (by simp)⟩, by simp⟩
  · injection hcs with hv _
    subst hv
    simp only [if_true] at hz
    injection hx with hd _
    subst hd
    have h1 := hw _ (by simp only [DataW.weights, hu]; exact List.mem_cons_self)
    simp only [lits, List.length_map, List.length_take, List.length_drop, hby, hz] at h1
    have hr : reachBytes = 140737488351232 := rfl
    have hlen : (zs.take len).length = len := by rw [List.length_take]; omega
    refine ⟨zs.take len, ⟨some a, cap, by rw [hlen], by omega, cel_of_add fun i hi => ?_⟩, fun b hb => ?_⟩
    · have hi' : i < len := by rw [List.length_map, hlen] at hi; exact hi
      rw [hcell i (by omega)]
      simp [List.getD_eq_getElem?_getD, show i < zs.length from by omega]
    · have h2 := hwf b (List.mem_of_mem_take hb)
      have h3 : IntKind.u8.min = 0 := rfl
      have h4 : IntKind.u8.max = 255 := rfl
      simp only [Lit.wf, Bool.and_eq_true, decide_eq_true_eq] at h2
      omega
theorem argB {r : Reach} {b0 : Nat} (hu : P.underlying t = some (.slice e)) (he : P.underlying e = some (.int .u8)) (hc : P.cellsOf e = 1) (hby : P.bytesOf e = 1)
    (hv : Value.okWide P W r b0 t v) (h : DataW.Trod enc P W base (fun _ => true) true t v d p) (hw : ∀ n ∈ d.weights P t, n ≤ reachBytes) : ∃ bs : List Int, SlB W v bs := by
  obtain ⟨a0, len, cap, rfl⟩ := okWide_slice hu hv
  obtain ⟨fuel, hf⟩ := h
  exact openB hu he hc hby (by simpa [Value.cells] using hf) hw
end
end Go.Proofs.YthpijecjifmnbaaDoor
