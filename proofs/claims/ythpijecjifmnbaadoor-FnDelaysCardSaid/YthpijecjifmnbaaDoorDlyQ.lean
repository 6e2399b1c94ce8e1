/-
f6big, f6ints, f6sum (delays, door seat); a variable of three cells. No condition but small numbers in f6sum.
-/
import Derived.Test.YthpijecjifmnbaaDoorDrF
import Derived.Test.YthpijecjifmnbaaDoorDlyPl
import Derived.Test.YthpijecjifmnbaaDoorTrpB
import Derived.Test.YthpijecjifmnbaaDoorBox
import Derived.Deep.CutRange
namespace Go.Proofs.YthpijecjifmnbaaDoor
open Go.ChangeShapes Go.WideShapes Go.ChangeAt Go.RowKit Go.Deep Go.Joins
set_option linter.unusedVariables false

structure Box3t (w : World) (g : Nat) (x y z : Value) : Prop where
  lt : g < w.heap.size
  c0 : w.cell? ⟨g, 0, none⟩ = some x
  c1 : w.cell? ⟨g, 1, none⟩ = some y
  c2 : w.cell? ⟨g, 2, none⟩ = some z
theorem Box3t.ex {w w' : World} {g : Nat} {x y z : Value} (h : Box3t w g x y z) (hb : Below w.heap.size w w') : Box3t w' g x y z :=
  ⟨Nat.lt_of_lt_of_le h.lt hb.size, (hb.cell (p := ⟨g, 0, none⟩) h.lt).trans h.c0, (hb.cell (p := ⟨g, 1, none⟩) h.lt).trans h.c1, (hb.cell (p := ⟨g, 2, none⟩) h.lt).trans h.c2⟩
theorem Box3t.new (w : World) (x y z : Value) (t : TypeId) : Box3t (w.alloc (.cells #[x, y, z] t)) w.heap.size x y z :=
  ⟨by simp, by simp [go_sem], by simp [go_sem], by simp [go_sem]⟩
theorem f6big_any (v : Value) (bs : List Int) (w : World) (hv : SlB w v bs) : Calls Tryd.prog 8 #[v] w fun e w' => e = .returned (.bool (decide (4096 < bs.length))) ∧ w = w' := by
  obtain ⟨A, c, rfl, hl⟩ := hv.op
  clear hv
  go_enter Tryd.func8, Tryd.ntmps8
  go_wp2
  go_ret
  exact ⟨ret_bool (by rw [Bool.eq_iff_iff]; simp; omega), rfl⟩

theorem f6ints_any (v u : Value) (xs : List Int) (w : World) (hv : SlI w v xs) (hu : SlI w u xs) :
    Calls Tryd.prog 25 #[v, u] w fun e w' => e = .returned (.bool true) ∧ Below w.heap.size w w' := by
  obtain ⟨A, c, rfl, hla, ha⟩ := hv.op
  obtain ⟨B, d, rfl, hlb, hb⟩ := hu.op
  have HA := Lib.hid ha; have HBB := Lib.hid hb
  clear hv ha hu hb
  go_enter Tryd.func25, Tryd.ntmps25
  go_wp2
  go_loopw [5] (fun i wr => ∃ k : Nat, k ≤ xs.length ∧ i = .int .i64 k ∧ Below w.heap.size w wr) (fun i _ => xs.length - (intOf i).toNat)
  case atStart => exact ⟨0, Nat.zero_le _, rfl, Below.refl _ _⟩
  case round =>
    obtain ⟨k, hk, rfl, hb⟩ := hrel
    by_cases hlt : k < xs.length
    · obtain ⟨b1, o1, rfl, hbs, hcc⟩ := HA.out k hlt
      obtain ⟨b2, o2, rfl, hbs2, hcc2⟩ := HBB.out k hlt
      have hx := (hb.cell (p := ⟨b1, o1 + k, none⟩) hbs).trans (hcc k hlt)
      have hy := (hb.cell (p := ⟨b2, o2 + k, none⟩) hbs2).trans (hcc2 k hlt)
      have hlti : (k : Int) < (xs.length : Int) := by omega
      have HB := Lib.hid hb
      generalize xs[k] = x at hx hy
      clear hcc hcc2 hb
      go_wp2
      go_region
      go_wp2
      go_roundw
      case rel => exact ⟨k + 1, by omega, by go_num, below_drewN HB.out _⟩
      case measure => simp [intOf]; omega
    · have hkn : k = xs.length := by omega
      subst hkn
      go_wp2
      go_ret
      exact ⟨rfl, hb⟩

theorem f6sum_any (v : Value) (xs : List Int) (w : World) (hv : SlI w v xs) (hx : ∀ x ∈ xs, 0 ≤ x ∧ x ≤ 10000) (hl : xs.length ≤ 100) :
    Calls Tryd.prog 28 #[v] w fun e w' => e = .returned (.int .i64 xs.sum) ∧ w = w' := by
  obtain ⟨A, c, rfl, hla, hcs⟩ := hv.op
  have HC := Lib.hid hcs; have HS := Lib.hid (sum_bd hx); have HX := Lib.hid hx
  clear hv hcs hx
  go_enter Tryd.func28, Tryd.ntmps28
  go_wp2
  go_loopw [3, 4] (fun s i wr => ∃ k : Nat, k ≤ xs.length ∧ i = .int .i64 k ∧ s = .int .i64 (xs.take k).sum ∧ w = wr) (fun _ i _ => xs.length - (intOf i).toNat)
  case atStart => exact ⟨0, Nat.zero_le _, rfl, rfl, rfl⟩
  case round =>
    obtain ⟨k, hk, rfl, rfl, rfl⟩ := hrel
    by_cases hlt : k < xs.length
    · obtain ⟨b, o, rfl, hbs, hc⟩ := HC.out k hlt
      have hcell := hc k hlt
      have hlti : (k : Int) < (xs.length : Int) := by omega
      have HT := Lib.hid (sum_take hlt)
      obtain ⟨hs1, hs2⟩ := HS.out k hk
      obtain ⟨hx1, hx2⟩ := HX.out _ (List.getElem_mem hlt)
      generalize xs[k] = x at hcell HT hx1 hx2
      generalize (xs.take k).sum = s at HT hs1 hs2 ⊢
      clear hc
      go_wp2
      go_roundw
      case rel => exact ⟨k + 1, by omega, by go_num, by rw [HT.out], by first | trivial | rfl⟩
      case measure => simp [intOf]; omega
    · have hkn : k = xs.length := by omega
      subst hkn
      go_wp2
      go_ret
      exact ⟨ret_int (by simp), rfl⟩
end Go.Proofs.YthpijecjifmnbaaDoor
