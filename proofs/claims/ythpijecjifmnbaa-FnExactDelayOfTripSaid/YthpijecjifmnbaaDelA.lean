/-
Trips by value: the copy, validity, the delay of one trip, by their contracts. No condition.
-/
import Derived.Test.YthpijecjifmnbaaCommon
namespace Go.Proofs.Ythpijecjifmnbaa
open Go.RowKit
set_option linter.unusedVariables false

structure Trip where
  to : Int
  due : Int
  came : Int
  deriving DecidableEq
def Trip.vals (t : Trip) : List Value := [.int .i64 t.to, .int .i64 t.due, .int .i64 t.came]
def Trip.val (t : Trip) : Value := .agg #[.int .i64 t.to, .int .i64 t.due, .int .i64 t.came]
def Trip.ok (t : Trip) : Bool := inB t.to 0 9 && inB t.due 0 10000 && inB t.came 0 10000
def Trip.late (t : Trip) : Int := max 0 (t.came - t.due)
theorem Trip.okd {x y z : Int} (h : Trip.ok ⟨x, y, z⟩ = true) : (0 ≤ x ∧ x ≤ 9) ∧ (0 ≤ y ∧ y ≤ 10000) ∧ (0 ≤ z ∧ z ≤ 10000) := by
  simp only [Trip.ok, Bool.and_eq_true, inB_iff] at h; exact ⟨h.1.1, h.1.2, h.2⟩

theorem toTrip_any (x y z : Int) (w : World) : Calls Try.prog 15 #[.agg #[.int .i64 x, .int .i64 y, .int .i64 z]] w fun e w' => e = .returned (.agg #[.int .i64 x, .int .i64 y, .int .i64 z]) ∧ Below w.heap.size w w' := by
  go_enter Try.func15, Try.ntmps15
  go_wp2
  exact bodyPost_ret (v := .agg #[.int .i64 x, .int .i64 y, .int .i64 z]) (by simp [results, Try.results15, go_sem]) rfl ⟨rfl, (below_alloc2 _ _ _).alloc (by simp; omega) _⟩

theorem validTrip_any (x y z : Int) (w : World) : Calls Try.prog 51 #[.agg #[.int .i64 x, .int .i64 y, .int .i64 z]] w fun e w' => e = .returned (.bool (Trip.ok ⟨x, y, z⟩)) ∧ Below w.heap.size w w' := by
  cases hx : inB x 0 9
  all_goals cases hy : inB y 0 10000
  all_goals
    go_enter Try.func51, Try.ntmps51
    go_wp2_with (go_at_call 58; refine (within_any _ _ _ _).mono ?_; rintro e w' ⟨rfl, rfl⟩)
    go_ret
    refine ⟨ret_bool (by simp [Trip.ok, hx, hy]), below_alloc _ _⟩

theorem delay_any (x y z : Int) (w : World) (h : Trip.ok ⟨x, y, z⟩ = true) : Calls Try.prog 52 #[.agg #[.int .i64 x, .int .i64 y, .int .i64 z]] w fun e w' => e = .returned (.int .i64 (Trip.late ⟨x, y, z⟩)) ∧ Below w.heap.size w w' := by
  obtain ⟨_, hy, hz⟩ := Trip.okd h
  clear h
  go_enter Try.func52, Try.ntmps52
  go_wp2
  all_goals
    go_ret
    refine ⟨ret_int ?_, below_alloc _ _⟩
    simp only [Trip.late]; omega

theorem implDelayOfTrip_any (x y z : Int) (w : World) : Calls Try.prog 16 #[.agg #[.int .i64 x, .int .i64 y, .int .i64 z]] w fun e w' => e = .returned (if Trip.ok ⟨x, y, z⟩ = true then .tuple #[.int .i64 (Trip.late ⟨x, y, z⟩), .int .i64 0] else .tuple #[.int .i64 0, .int .i64 1]) ∧ Below w.heap.size w w' := by
  cases hok : Trip.ok ⟨x, y, z⟩ with
  | true =>
    have H := Lib.hid hok
    go_enter Try.func16, Try.ntmps16
    go_wp2_with fail
    refine (validTrip_any _ _ _ _).mono ?_
    rintro e w1 ⟨rfl, hb1⟩
    obtain ⟨c0, c1, c2⟩ := box3 hb1
    go_wp2_with fail
    refine (delay_any _ _ _ _ H.out).mono ?_
    rintro e w2 ⟨rfl, hb2⟩
    go_wp2
    go_ret2
    exact ⟨by simp, below_next0 (below_next0 (below_alloc _ _) hb1) hb2⟩
  | false =>
    go_enter Try.func16, Try.ntmps16
    go_wp2_with fail
    refine (validTrip_any _ _ _ _).mono ?_
    rintro e w1 ⟨rfl, hb1⟩
    obtain ⟨c0, c1, c2⟩ := box3 hb1
    go_wp2
    go_ret2
    exact ⟨by simp, below_next0 (below_alloc _ _) hb1⟩

theorem l13Ok_any (x y z : Int) (b o : Nat) (w : World) (h0 : w.cell? ⟨b, o, none⟩ = some (.int .i64 x)) (h1 : w.cell? ⟨b, o + 1, none⟩ = some (.int .i64 y)) (h2 : w.cell? ⟨b, o + 2, none⟩ = some (.int .i64 z)) :
    Calls Try.prog 49 #[.pointer (some ⟨b, o, none⟩)] w fun e w' => e = .returned (.bool (Trip.ok ⟨x, y, z⟩)) ∧ w = w' := by
  cases hx : inB x 0 9
  all_goals cases hy : inB y 0 10000
  all_goals
    go_enter Try.func49, Try.ntmps49
    go_wp2_with (go_at_call 57; refine (l00In_any _ _ _ _).mono ?_; rintro e w' ⟨rfl, rfl⟩)
    go_ret
    exact ⟨ret_bool (by simp [Trip.ok, hx, hy]), rfl⟩

theorem l00Max_any (x y : Int) (w : World) : Calls Try.prog 77 #[.int .i64 x, .int .i64 y] w fun e w' => e = .returned (.int .i64 (max x y)) ∧ w = w' := by
  go_enter Try.func77, Try.ntmps77
  go_wp2
  all_goals go_ret
  all_goals exact ⟨ret_int (by omega), rfl⟩

theorem l13Late_any (x y z : Int) (b o : Nat) (w : World) (h0 : w.cell? ⟨b, o, none⟩ = some (.int .i64 x)) (h1 : w.cell? ⟨b, o + 1, none⟩ = some (.int .i64 y)) (h2 : w.cell? ⟨b, o + 2, none⟩ = some (.int .i64 z)) (h : Trip.ok ⟨x, y, z⟩ = true) :
    Calls Try.prog 50 #[.pointer (some ⟨b, o, none⟩)] w fun e w' => e = .returned (.int .i64 (Trip.late ⟨x, y, z⟩)) ∧ ∃ n, w' = w.drewN n := by
  obtain ⟨_, hy, hz⟩ := Trip.okd h
  clear h
  go_enter Try.func50, Try.ntmps50
  go_wp2
  go_quiet ((go_at_call 77; exact quiet_same_left (l00Max_any _ _ _)))
  go_wp2
  go_ret
  exact ⟨rfl, nq, rfl⟩

theorem specDelayOfTrip_any (x y z : Int) (w : World) : Calls Try.prog 14 #[.agg #[.int .i64 x, .int .i64 y, .int .i64 z]] w fun e w' => e = .returned (if Trip.ok ⟨x, y, z⟩ = true then .tuple #[.int .i64 (Trip.late ⟨x, y, z⟩), .int .i64 0] else .tuple #[.int .i64 0, .int .i64 1]) ∧ Below w.heap.size w w' := by
  cases hok : Trip.ok ⟨x, y, z⟩ with
  | true =>
    have H := Lib.hid hok
    go_enter Try.func14, Try.ntmps14
    go_wp2_with fail
    obtain ⟨c0, c1, c2⟩ := box3 (w := w) (x := .int .i64 x) (y := .int .i64 y) (z := .int .i64 z) (t := 26) (Below.refl _ _)
    refine (l13Ok_any x y z _ _ _ c0 c1 c2).mono ?_
    rintro e w1 ⟨rfl, rfl⟩
    go_wp2_with fail
    refine (l13Late_any x y z _ _ _ c0 c1 c2 H.out).mono ?_
    rintro e w2 ⟨rfl, n, rfl⟩
    go_wp2
    go_ret2
    exact ⟨by simp, below_drewN (below_alloc _ _) n⟩
  | false =>
    go_enter Try.func14, Try.ntmps14
    go_wp2_with fail
    obtain ⟨c0, c1, c2⟩ := box3 (w := w) (x := .int .i64 x) (y := .int .i64 y) (z := .int .i64 z) (t := 26) (Below.refl _ _)
    refine (l13Ok_any x y z _ _ _ c0 c1 c2).mono ?_
    rintro e w1 ⟨rfl, rfl⟩
    go_wp2
    go_ret2
    exact ⟨by simp, below_alloc _ _⟩
end Go.Proofs.Ythpijecjifmnbaa
