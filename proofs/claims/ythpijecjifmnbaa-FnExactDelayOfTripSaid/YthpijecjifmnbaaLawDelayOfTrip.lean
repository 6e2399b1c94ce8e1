/-
FnExactDelayOfTrip returns true for every trip: the program's DelayOfTrip and the reference's give the same two numbers. No condition beyond the form's own reach.
-/
import Derived.Test.YthpijecjifmnbaaRows
import Derived.Test.YthpijecjifmnbaaLaw
import Derived.Test.YthpijecjifmnbaaDelA
namespace Go.Proofs.Ythpijecjifmnbaa
open Go.ChangeShapes Go.WideShapes Go.ChangeAt Go.RowKit Go.Deep Go.Joins
set_option linter.unusedVariables false

theorem lawDelayOfTrip_any (x y z : Int) (w : World) : Calls Try.prog 3 #[.agg #[.int .i64 x, .int .i64 y, .int .i64 z]] w fun e w' => e = .returned (.bool true) ∧ Below w.heap.size w w' := by
  have hs := specDelayOfTrip_any x y z
  have hi := implDelayOfTrip_any x y z
  cases hok : Trip.ok ⟨x, y, z⟩
  all_goals
    simp only [hok, if_true, if_false, Bool.false_eq_true] at hs hi
    generalize Trip.late ⟨x, y, z⟩ = l at hs hi
    have HS := Lib.hid hs; have HI := Lib.hid hi
    clear hs hi hok
    go_enter Try.func3, Try.ntmps3
    go_wp2_with fail
    refine (toTrip_any x y z _).mono ?_
    rintro e w1 ⟨rfl, hb1⟩
    go_wp2_with fail
    refine (HS.out _).mono ?_
    rintro e w2 ⟨rfl, hb2⟩
    replace hb2 := below_next hb1 hb1.size hb2
    obtain ⟨c0, c1, c2⟩ := box3 hb2
    go_wp2_with fail
    refine (toTrip_any x y z _).mono ?_
    rintro e w3 ⟨rfl, hb3⟩
    go_wp2_with fail
    refine (HI.out _).mono ?_
    rintro e w4 ⟨rfl, hb4⟩
    go_wp2
    go_ret
    exact ⟨rfl, below_next0 (below_next0 (below_next0 (below_alloc _ _) hb2) hb3) hb4⟩

set_option maxRecDepth 100000 in
theorem delayOfTrip_lifted (os : Os) (started : os.Started) (H : Type) (enc : TypeId × Value → H) :
    ReturnsInHanded {} Try.checked os 3 .any (Rows.fnExactDelayOfTripSpec.pre6 enc Try.checked.prog Try.f3 Rows.fnExactDelayOfTripRow.domain false) (Rows.fnExactDelayOfTripSpec.post enc Try.checked.prog Try.f3 false true false false) := by
  refine law_lifted os started H enc (by kernel_rfl) Try.func3
    (ChangeSpec.witness6 (enc := enc) (C := Try.checked) false ⟨#[], #[.agg #[.int .i64 0, .int .i64 0, .int .i64 0]], []⟩ 8 (by kernel_rfl) (by kernel_rfl) (by kernel_rfl) (by kernel_rfl))
    rfl rfl rfl (by rw [Try.params3]; intro t ht; simp only [List.mem_cons, List.not_mem_nil, or_false] at ht; subst ht; exact ⟨by kernel_rfl, of_decide_eq_true (by kernel_rfl)⟩)
    (fun ds hl => by match ds, hl with | [d], _ => exact ⟨rfl, rfl, rfl⟩) ?_
  intro W base args ds p hval hA hlt hsz
  rw [Try.params3] at hA hval hsz
  obtain ⟨v0, vs0, d0, ds0, p0, q0, hargs, rfl, rfl, h0, r0⟩ := trodAll_cons hA
  obtain ⟨rfl, rfl, rfl⟩ := trodAll_nil r0
  obtain rfl : args = #[v0] := by cases args; simp_all
  obtain ⟨c0, c1, c2, y0, y1, y2, m, rfl, rfl, rfl, hy0, hy1, hy2⟩ := open_agg3 Try.underlying23 (by kernel_rfl) (by kernel_rfl) (hval 0 _ _ rfl rfl) h0
  obtain ⟨x, e0, _, _⟩ := DataW.trod_int Try.underlying2 hy0
  obtain ⟨y, e1, _, _⟩ := DataW.trod_int Try.underlying2 hy1
  obtain ⟨z, e2, _, _⟩ := DataW.trod_int Try.underlying2 hy2
  simp only [List.cons.injEq, and_true] at e0 e1 e2
  subst e0 e1 e2
  exact lawDelayOfTrip_any x y z W

theorem delayOfTrip_holds : Rows.FnExactDelayOfTripSaid :=
  OpenClaim.holds_of_wide 3 Try.f3 rfl rfl rfl rfl rfl rfl rfl ⟨rfl, rfl, rfl, rfl, rfl⟩ rfl rfl rfl rfl rfl (by kernel_rfl) Try.func3 (by kernel_rfl)
    (of_decide_eq_true (by kernel_rfl)) (by unfold Func.isWrapper; first | (rw [if_pos (by decide +kernel)]; kernel_rfl) | (rw [if_neg (by decide +kernel)]; exact ⟨rfl, rfl⟩))
    (fun os started H enc _ => delayOfTrip_lifted os started H enc)
#print axioms delayOfTrip_holds
end Go.Proofs.Ythpijecjifmnbaa
