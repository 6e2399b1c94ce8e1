/-
What a draw leaves: a list, or a list of lists, of the call's own, the source gone on; and how bytes of an argument open. No condition beyond the premises.
-/
import Derived.Test.YtlgeddbgbcineaaSrc
import Derived.Test.YtlgeddbgbcineaaAppI
import Derived.Test.YtlgeddbgbcineaaLaw
namespace Go.Proofs.Ytlgeddbgbcineaa
open Go.ChangeShapes Go.WideShapes Go.ChangeAt Go.RowKit Go.Deep Go.Joins
set_option linter.unusedVariables false
set_option linter.unusedSimpArgs false

def ChoI (P : List Int → Prop) (g hi m : Nat) (w : World) (e : Ending) (w' : World) : Prop :=
  ∃ (A : Option Addr) (c : Nat) (xs : List Int), P xs ∧ e = .returned (.slice A xs.length c) ∧ OwI w' w.heap.size (.slice A xs.length c) xs ∧ Src w' g hi m ∧ Gr1 g w w'
/-- a number that is counted down -/
theorem dec_num {k : Nat} (h : 0 < k) : Value.int .i64 ((k : Int) - 1) = .int .i64 ((k - 1 : Nat) : Int) := by congr 1; omega
theorem mem_snoc {α : Type} {P : α → Prop} {xs : List α} {y : α} (h : ∀ x ∈ xs, P x) (hy : P y) : ∀ x ∈ xs ++ [y], P x := by
  intro x hx
  rcases List.mem_append.1 hx with hx | hx
  · exact h x hx
  · obtain rfl := List.mem_singleton.1 hx; exact hy
theorem infoRw : (Try.prog.info? 49).map (fun i => (i.zero, i.size, i.bytes)) = some (some (.slice none 0 0), 1, 24) := by kernel_rfl
/-- slices of slices whose rows the call itself made -/
structure OwRows (w : World) (lo : Nat) (v : Value) (n : Nat) (us : List Value) (xss : List (List Int)) : Prop where
  outer : Ow w lo 49 1 v n us
  ul : us.length = xss.length
  row : ∀ (i : Nat) (h : i < us.length) (h' : i < xss.length), OwI w lo us[i] xss[i]
section
variable {w w' : World} {lo n g : Nat} {v : Value} {us : List Value} {xss : List (List Int)}
theorem OwRows.ex (h : OwRows w lo v n us xss) (hb : Below w.heap.size w w') : OwRows w' lo v n us xss := ⟨h.outer.ex hb, h.ul, fun i h1 h2 => (h.row i h1 h2).ex hb⟩
theorem OwRows.gr1 (h : OwRows w lo v n us xss) (hg : Gr1 g w w') (hl : g < lo) : OwRows w' lo v n us xss := ⟨h.outer.gr1 hg hl, h.ul, fun i h1 h2 => Ow.gr1 (h.row i h1 h2) hg hl⟩
theorem OwRows.len (h : OwRows w lo v n us xss) : xss.length = n := by have h1 := h.outer.len; have h2 := h.ul; omega
theorem OwRows.sl (h : OwRows w lo v n us xss) : SlII w v xss := ⟨us, by rw [h.len]; exact h.outer.sl, fun i h1 h2 => (h.row i h1 h2).sl⟩
theorem OwRows.snoc (h : OwRows w lo v n us xss) {v' u : Value} {x : List Int} (hu : OwI w lo u x) (ho : Ow w' lo 49 1 v' (n + 1) (us ++ [u])) (hg : w.grownBy w' v.ownBlock) : OwRows w' lo v' (n + 1) (us ++ [u]) (xss ++ [x]) := by
  refine ⟨ho, by simp [h.ul], fun i h1 h2 => ?_⟩
  by_cases e : i < us.length
  · rw [List.getElem_append_left e, List.getElem_append_left (by rw [← h.ul]; exact e)]
    have h3 := h.row i e (by rw [← h.ul]; exact e)
    exact OwI.keptS h3 hg (Ow.sep_type h3 h.outer (by decide))
  · have hi : i = us.length := by simp at h1; omega
    subst hi
    have e1 : (us ++ [u])[us.length]'h1 = u := by simp
    have e2 : (xss ++ [x])[us.length]'h2 = x := by simp [h.ul]
    rw [e1, e2]
    exact OwI.keptS hu hg (Ow.sep_type hu h.outer (by decide))
theorem owRows_nil (w : World) (lo : Nat) (hlo : lo ≤ w.heap.size) : OwRows (w.alloc (.cells #[] 49)) lo (.slice (some ⟨w.heap.size, 0, none⟩) 0 0) 0 [] [] :=
  ⟨ow_empty w lo 49 1 hlo, rfl, fun i h _ => absurd h (by simp)⟩
end
def ChoII (P : List (List Int) → Prop) (g hi m : Nat) (w : World) (e : Ending) (w' : World) : Prop :=
  ∃ (A : Option Addr) (n c : Nat) (us : List Value) (xss : List (List Int)), P xss ∧ e = .returned (.slice A n c) ∧ OwRows w' w.heap.size (.slice A n c) n us xss ∧ Src w' g hi m ∧ Gr1 g w w'

section
variable {H : Type} {enc : TypeId × Value → H} {P : Program} {W : World} {base : Nat} {fuel : Nat} {t e : TypeId} {v : Value} {d : DataW H} {p : List MemPlace}
theorem openB (hu : P.underlying t = some (.slice e)) (he : P.underlying e = some (.int .u8)) (hc : P.cellsOf e = 1) (hby : P.bytesOf e = 1)
    (h : DataW.trod enc P W base (fun _ => true) true fuel t [v] = some (d, p)) (hw : ∀ n ∈ d.weights P t, n ≤ reachBytes) : ∃ xs : List Int, SlB W v xs := by
  rcases open_ints hu he hc h with ⟨hcs, _⟩ | ⟨a, len, cap, zs, hcs, _, hl, hm, hz, hx, hcell, hwf⟩
  · injection hcs with hv _
    subst hv
    exact ⟨[], ⟨none, 0, rfl, by simp, fun h => absurd h (by simp)⟩, by simp⟩
  · injection hcs with hv _
    subst hv
    simp only [if_true] at hz
    injection hx with hd _
    subst hd
    have h1 := hw _ (by simp only [DataW.weights, hu]; exact List.mem_cons_self)
    simp only [lits, List.length_map, List.length_take, List.length_drop, hby, hz] at h1
    have hr : reachBytes = 140737488351232 := rfl
    have hlen : (zs.take len).length = len := by rw [List.length_take]; omega
    refine ⟨zs.take len, ⟨some a, cap, by rw [hlen], by omega, cel_of_add fun i hi => ?_⟩, fun b hb => ?_⟩
    · have hi' : i < len := by rw [List.length_map, hlen] at hi; exact hi
      rw [hcell i (by omega)]
      simp [List.getD_eq_getElem?_getD, show i < zs.length from by omega]
    · have h2 := hwf b (List.mem_of_mem_take hb)
      have h3 : IntKind.u8.min = 0 := rfl
      have h4 : IntKind.u8.max = 255 := rfl
      simp only [Lit.wf, Bool.and_eq_true, decide_eq_true_eq] at h2
      omega
theorem argB {r : Reach} {b0 : Nat} (hu : P.underlying t = some (.slice e)) (he : P.underlying e = some (.int .u8)) (hc : P.cellsOf e = 1) (hby : P.bytesOf e = 1)
    (hv : Value.okWide P W r b0 t v) (h : DataW.Trod enc P W base (fun _ => true) true t v d p) (hw : ∀ n ∈ d.weights P t, n ≤ reachBytes) : ∃ bs : List Int, SlB W v bs := by
  obtain ⟨a0, len, cap, rfl⟩ := okWide_slice hu hv
  obtain ⟨fuel, hf⟩ := h
  exact openB hu he hc hby (by simpa [Value.cells] using hf) hw
end
end Go.Proofs.Ytlgeddbgbcineaa
