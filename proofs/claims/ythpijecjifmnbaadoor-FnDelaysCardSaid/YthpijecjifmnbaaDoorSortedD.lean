/-
slices.Sort on a row of the call's own: behind it the row holds the sorted numbers. Condition: the row is the call's own.
-/
import Derived.Test.YthpijecjifmnbaaDoorSortDoor
import Derived.Test.YthpijecjifmnbaaDoorSrt
import Derived.Test.YthpijecjifmnbaaDoorAppI
import Derived.Lib.SortBridge
namespace Go.Proofs.YthpijecjifmnbaaDoor
open Go.RowKit
set_option linter.unusedVariables false

theorem ow_setCells {lo n c g : Nat} {e : TypeId} : ∀ (vs : List Value) (o : Nat) (w : World) (cs : List Value), Ow w lo e 1 (.slice (some ⟨g, 0, none⟩) n c) n cs → o + vs.length ≤ cs.length →
    Ow (w.setCells g o vs) lo e 1 (.slice (some ⟨g, 0, none⟩) n c) n (cs.take o ++ vs ++ cs.drop (o + vs.length)) ∧ w.grownBy (w.setCells g o vs) (some g)
  | [], o, w, cs, h, hl => ⟨by show Ow w lo e 1 _ n _; simpa using h, ⟨rfl, rfl, rfl, Nat.le_refl _, fun _ _ _ => rfl⟩⟩
  | v :: r, o, w, cs, h, hl => by
    simp only [List.length_cons] at hl
    have h1 := Ow.set h o v
    have hg := Ow.grow (k := o) h v
    obtain ⟨h2, h3⟩ := ow_setCells r (o + 1) _ _ h1 (by simp; omega)
    refine ⟨?_, grown_trans hg h3⟩
    show Ow ((w.setCell ⟨g, o, none⟩ v).setCells g (o + 1) r) lo e 1 _ n _
    have e1 : (cs.set o v).take (o + 1) ++ r ++ (cs.set o v).drop (o + 1 + r.length) = cs.take o ++ v :: r ++ cs.drop (o + (v :: r).length) := by
      have ho : o < cs.length := by omega
      rw [List.drop_set_of_lt (by omega), List.take_succ_eq_append_getElem (by simpa using ho), List.take_set_of_le (Nat.le_refl _)]
      simp [Nat.add_comm, Nat.add_left_comm]
    rw [← e1]
    exact h2
theorem sort_any {g c n : Nat} {lo : Nat} {xs : List Int} (w : World) (hl : xs.length = n) (h : OwI w lo (.slice (some ⟨g, 0, none⟩) n c) xs) (hn : n ≤ 1048576) :
    Calls Tryd.prog 41 #[.slice (some ⟨g, 0, none⟩) n c] w fun e w' => e = .returned (.tuple #[]) ∧ OwI w' lo (.slice (some ⟨g, 0, none⟩) n c) (srtI xs) ∧ Below lo w w' := by
  subst hl
  have hH : Go.Sort.Holds (Value.int .i64) w g 0 xs.toArray := by
    intro j hj
    have hj' : j < xs.length := by simpa using hj
    have h1 := OwI.cell h hj'
    have h2 := OwI.free h j
    refine ⟨?_, by simpa using h2⟩
    rw [Nat.zero_add, h1]
    simp [hj']
  have hlt := (h.lt g rfl)
  refine (Tryd.slices_Sort_int g 0 c xs w hH hlt.2 (by omega)).mono ?_
  rintro e w' ⟨rfl, q, os, rfl⟩
  have hly : (srtI xs).length = xs.length := (srtI_is xs).len
  have hsz : (xs.mergeSort fun x y => decide (x ≤ y)).length = xs.toArray.size := by simp
  rw [Go.Lib.sorted_world (Value.int .i64) w g 0 q xs.toArray _ os hH hsz]
  have h0 : Ow (w.drewN q) lo 2 1 (.slice (some ⟨g, 0, none⟩) xs.length c) xs.length (xs.map (Value.int .i64)) := Ow.drewN h q
  obtain ⟨h1, h2⟩ := ow_setCells ((xs.mergeSort fun x y => decide (x ≤ y)).map (Value.int .i64)) 0 _ _ h0 (by simp)
  have h3 : Below lo w ((w.drewN q).setCells g 0 ((xs.mergeSort fun x y => decide (x ≤ y)).map (Value.int .i64))) := (below_drewN (Below.refl _ _) q).grown h2 (show lo ≤ (w.drewN q).heap.size from Nat.le_trans hlt.1 (Nat.le_of_lt hlt.2)) (fun k hk => by cases hk; exact hlt.1)
  have h4 : Below ((w.drewN q).setCells g 0 ((xs.mergeSort fun x y => decide (x ≤ y)).map (Value.int .i64))).heap.size ((w.drewN q).setCells g 0 ((xs.mergeSort fun x y => decide (x ≤ y)).map (Value.int .i64))) (Go.Sort.grow ((w.drewN q).setCells g 0 ((xs.mergeSort fun x y => decide (x ≤ y)).map (Value.int .i64))) os) := by
    exact ⟨rfl, rfl, rfl, by simp [Go.Sort.grow], fun k hk => by simp only [Go.Sort.grow]; rw [Array.getElem?_append_left hk]⟩
  refine ⟨rfl, ?_, h3.trans (h4.mono (Nat.le_trans (Nat.le_trans hlt.1 (Nat.le_of_lt hlt.2)) h3.size))⟩
  unfold OwI
  rw [hly]
  refine Ow.ex ?_ h4
  have e1 : (xs.map (Value.int .i64)).take 0 ++ (xs.mergeSort fun x y => decide (x ≤ y)).map (Value.int .i64) ++ (xs.map (Value.int .i64)).drop (0 + ((xs.mergeSort fun x y => decide (x ≤ y)).map (Value.int .i64)).length) = (srtI xs).map (Value.int .i64) := by
    simp [srtI]
  rw [e1] at h1
  exact h1
end Go.Proofs.YthpijecjifmnbaaDoor
