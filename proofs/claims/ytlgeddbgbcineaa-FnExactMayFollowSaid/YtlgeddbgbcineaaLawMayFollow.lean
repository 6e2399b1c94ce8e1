/-
FnExactMayFollow returns true for all arguments: the program's MayFollow and the reference's return the same, and the arguments stay as they were. No condition beyond the form's own reach.
-/
import Derived.Test.YtlgeddbgbcineaaRows
import Derived.Test.YtlgeddbgbcineaaLaw
import Derived.Test.YtlgeddbgbcineaaSensD
import Derived.Test.YtlgeddbgbcineaaIntss
import Derived.Test.YtlgeddbgbcineaaArgReading
import Derived.Deep.RegionHeld3
import Derived.Lib.SmallJoins
namespace Go.Proofs.Ytlgeddbgbcineaa
open Go.ChangeShapes Go.WideShapes Go.ChangeAt Go.RowKit Go.Deep Go.Joins
set_option linter.unusedVariables false

theorem cell_lt {w : World} {b o : Nat} {x : Value} (h : w.cell? ⟨b, o, none⟩ = some x) : b < w.heap.size := by
  rcases Nat.lt_or_ge b w.heap.size with h1 | h1
  · exact h1
  · simp [World.cell?, Array.getElem?_eq_none h1] at h
theorem keepS2 {W0 w w1 : World} {g0 g1 : Nat} {x0 x1 x2 x3 : Value} (h : w.cell? ⟨g0, 0, none⟩ = some x0 ∧ w.cell? ⟨g0, 1, none⟩ = some x1 ∧ w.cell? ⟨g1, 0, none⟩ = some x2 ∧ w.cell? ⟨g1, 1, none⟩ = some x3 ∧ Below W0.heap.size W0 w) (hn : Below w.heap.size w w1) : w1.cell? ⟨g0, 0, none⟩ = some x0 ∧ w1.cell? ⟨g0, 1, none⟩ = some x1 ∧ w1.cell? ⟨g1, 0, none⟩ = some x2 ∧ w1.cell? ⟨g1, 1, none⟩ = some x3 ∧ Below W0.heap.size W0 w1 := by
  obtain ⟨q0, q1, q2, q3, hb⟩ := h
  exact ⟨(hn.cell (p := ⟨g0, 0, none⟩) (cell_lt q0)).trans q0, (hn.cell (p := ⟨g0, 1, none⟩) (cell_lt q1)).trans q1, (hn.cell (p := ⟨g1, 0, none⟩) (cell_lt q2)).trans q2, (hn.cell (p := ⟨g1, 1, none⟩) (cell_lt q3)).trans q3, below_next0 hb hn⟩
theorem keepA2 {W0 w : World} {g0 g1 : Nat} {x0 x1 x2 x3 : Value} (h : w.cell? ⟨g0, 0, none⟩ = some x0 ∧ w.cell? ⟨g0, 1, none⟩ = some x1 ∧ w.cell? ⟨g1, 0, none⟩ = some x2 ∧ w.cell? ⟨g1, 1, none⟩ = some x3 ∧ Below W0.heap.size W0 w) : w.cell? ⟨g0, 0, none⟩ = some x0 ∧ w.cell? ⟨g0, 1, none⟩ = some x1 ∧ w.cell? ⟨g1, 0, none⟩ = some x2 ∧ w.cell? ⟨g1, 1, none⟩ = some x3 ∧ Below W0.heap.size W0 w := h
theorem keepB2 {W0 w : World} {g0 g1 : Nat} {x0 x1 x2 x3 : Value} (h : w.cell? ⟨g0, 0, none⟩ = some x0 ∧ w.cell? ⟨g0, 1, none⟩ = some x1 ∧ w.cell? ⟨g1, 0, none⟩ = some x2 ∧ w.cell? ⟨g1, 1, none⟩ = some x3 ∧ Below W0.heap.size W0 w) : Below W0.heap.size W0 w := h.2.2.2.2

set_option maxHeartbeats 2000000 in
theorem lawMayFollow_any (v0 : Value) (x0 : List (List Int)) (a0 a1 b0 b1 : Int) (w : World) (h0 : SlII w v0 x0) : Calls Try.prog 6 #[v0, .agg #[.int .i64 a0, .int .i64 a1], .agg #[.int .i64 b0, .int .i64 b1]] w fun e w' => e = .returned (.bool true) ∧ Below w.heap.size w w' := by
  have hs := fun (u0 : Value) (W : World) (k0 : SlII W u0 x0) => specMay_any u0 x0 a0 a1 b0 b1 W k0
  have hi := fun (u0 : Value) (W : World) (k0 : SlII W u0 x0) => implMay_any u0 x0 a0 a1 b0 b1 W k0
  generalize (mfR x0 ⟨a0, a1⟩ ⟨b0, b1⟩).1 = r0 at hs hi
  generalize (mfR x0 ⟨a0, a1⟩ ⟨b0, b1⟩).2 = r1 at hs hi
  have HS := Lib.hid hs; have HI := Lib.hid hi
  clear hs hi
  have HV0 := Lib.hid (h0.ex (below_alloc2 w (.cells #[.int .i64 a0, .int .i64 a1] 39) (.cells #[.int .i64 b0, .int .i64 b1] 39)))
  have HB0 := Lib.hid (below_alloc2 w (.cells #[.int .i64 a0, .int .i64 a1] 39) (.cells #[.int .i64 b0, .int .i64 b1] 39))
  have HBX := Lib.hid (boxes2B w a0 a1 b0 b1 39)
  clear h0
  have HS0 : Hid (((w.alloc (.cells #[.int .i64 a0, .int .i64 a1] 39)).alloc (.cells #[.int .i64 b0, .int .i64 b1] 39)).cell? ⟨w.heap.size, 0, none⟩ = some (.int .i64 a0) ∧ ((w.alloc (.cells #[.int .i64 a0, .int .i64 a1] 39)).alloc (.cells #[.int .i64 b0, .int .i64 b1] 39)).cell? ⟨w.heap.size, 1, none⟩ = some (.int .i64 a1) ∧ ((w.alloc (.cells #[.int .i64 a0, .int .i64 a1] 39)).alloc (.cells #[.int .i64 b0, .int .i64 b1] 39)).cell? ⟨w.heap.size + 1, 0, none⟩ = some (.int .i64 b0) ∧ ((w.alloc (.cells #[.int .i64 a0, .int .i64 a1] 39)).alloc (.cells #[.int .i64 b0, .int .i64 b1] 39)).cell? ⟨w.heap.size + 1, 1, none⟩ = some (.int .i64 b1) ∧ Below ((w.alloc (.cells #[.int .i64 a0, .int .i64 a1] 39)).alloc (.cells #[.int .i64 b0, .int .i64 b1] 39)).heap.size ((w.alloc (.cells #[.int .i64 a0, .int .i64 a1] 39)).alloc (.cells #[.int .i64 b0, .int .i64 b1] 39)) ((w.alloc (.cells #[.int .i64 a0, .int .i64 a1] 39)).alloc (.cells #[.int .i64 b0, .int .i64 b1] 39))) := Lib.hid (by obtain ⟨q0, q1, q2, q3⟩ := HBX.out _ (Below.refl _ _); exact ⟨q0, q1, q2, q3, Below.refl _ _⟩)
  go_enter Try.func6, Try.ntmps6
  go_wp2_with fail
  refine (szInt64SS_any _ x0 _ _ HV0.out (by omega) (by omega)).mono ?_
  rintro e w1 ⟨⟨s0, rfl, hs0⟩, rfl⟩
  by_cases g0 : s0 < 0
  · clear hs0
    go_wp2
    go_ret
    exact ⟨rfl, HB0.out⟩
  have z0 : x0.length ≤ 1048576 := by unfold total at hs0; omega
  have qq : 0 ≤ s0 ∧ s0 ≤ 1048576 := by unfold total at hs0; omega
  obtain ⟨qa0, qb0⟩ := qq
  clear hs0
  clear qa0 qb0
  go_wp2
  go_region_held3 (fun w' => w'.cell? ⟨w.heap.size, 0, none⟩ = some (.int .i64 a0) ∧ w'.cell? ⟨w.heap.size, 1, none⟩ = some (.int .i64 a1) ∧ w'.cell? ⟨w.heap.size + 1, 0, none⟩ = some (.int .i64 b0) ∧ w'.cell? ⟨w.heap.size + 1, 1, none⟩ = some (.int .i64 b1) ∧ Below ((w.alloc (.cells #[.int .i64 a0, .int .i64 a1] 39)).alloc (.cells #[.int .i64 b0, .int .i64 b1] 39)).heap.size ((w.alloc (.cells #[.int .i64 a0, .int .i64 a1] 39)).alloc (.cells #[.int .i64 b0, .int .i64 b1] 39)) w') (first | (exact keepS2 (by assumption) hn) | (exact keepS2 HS0.out (Below.refl _ _).drew)) (first | (go_at_call 16; refine (toInt64SS_any _ x0 _ (HV0.out.ex (keepB2 (by assumption))) z0).mono ?_; rintro e wA ⟨As0, cs0, uss0, rfl, os0, hn⟩) | (go_at_call 25; refine (toReading_any _ _ _).mono ?_; rintro e wB ⟨rfl, hn⟩; replace os0 := os0.ex hn) | (go_at_call 26; refine (HS.out _ _ os0.sl).mono ?_; rintro e wC ⟨rfl, hn⟩; have os0 := os0.ex hn))
  have HS1 := Lib.hid (keepA2 (by assumption))
  obtain ⟨p0, p1, p2, p3, hb1⟩ := HS1.out
  clear os0 hn p0 p1 p2 p3
  go_wp2_with fail
  refine (toInt64SS_any _ x0 _ (HV0.out.ex hb1) z0).mono ?_
  rintro e w2 ⟨Ax0, cx0, usx0, rfl, ox0, hn⟩
  have HS2 := Lib.hid (keepS2 HS1.out hn)
  clear hn hb1
  go_wp2
  go_region_held3 (fun w' => w'.cell? ⟨w.heap.size, 0, none⟩ = some (.int .i64 a0) ∧ w'.cell? ⟨w.heap.size, 1, none⟩ = some (.int .i64 a1) ∧ w'.cell? ⟨w.heap.size + 1, 0, none⟩ = some (.int .i64 b0) ∧ w'.cell? ⟨w.heap.size + 1, 1, none⟩ = some (.int .i64 b1) ∧ Below ((w.alloc (.cells #[.int .i64 a0, .int .i64 a1] 39)).alloc (.cells #[.int .i64 b0, .int .i64 b1] 39)).heap.size ((w.alloc (.cells #[.int .i64 a0, .int .i64 a1] 39)).alloc (.cells #[.int .i64 b0, .int .i64 b1] 39)) w') (first | (exact keepS2 (by assumption) hn) | (exact keepS2 HS2.out (Below.refl _ _).drew)) (first | (go_at_call 25; refine (toReading_any _ _ _).mono ?_; rintro e wB ⟨rfl, hn⟩; replace ox0 := (ox0.ex (by first | exact (Below.refl _ _).drew | exact Below.refl _ _)).ex hn) | (go_at_call 23; refine (HI.out _ _ (ox0.ex (by first | exact (Below.refl _ _).drew | exact Below.refl _ _)).sl).mono ?_; rintro e wC ⟨rfl, hn⟩; have ox0 := ox0.ex hn))
  have HS3 := Lib.hid (keepA2 (by assumption))
  obtain ⟨p0, p1, p2, p3, hb3⟩ := HS3.out
  clear hn p0 p1 p2 p3
  go_wp2_with fail
  refine (toInt64SS_any _ x0 _ (HV0.out.ex hb3) z0).mono ?_
  rintro e w5 ⟨Ay0, cy0, usy0, rfl, oy0, hn⟩
  replace ox0 := ox0.ex hn
  have hb5 := below_next0 hb3 hn
  clear hn hb3
  go_wp2_with fail
  refine (eqInt64SS_any _ _ x0 x0 _ ox0.sl oy0.sl).mono ?_
  rintro e w6 ⟨rfl, hn⟩
  have hb6 := below_next0 hb5 hn
  clear hn hb5
  simp only [decide_true]
  go_wp2
  go_ret
  exact ⟨rfl, below_next0 HB0.out hb6⟩

set_option maxRecDepth 100000 in
theorem mayFollow_lifted (os : Os) (started : os.Started) (H : Type) (enc : TypeId × Value → H) :
    ReturnsInHanded {} Try.checked os 6 .any (Rows.fnExactMayFollowSpec.pre6 enc Try.checked.prog Try.f6 Rows.fnExactMayFollowRow.domain false) (Rows.fnExactMayFollowSpec.post enc Try.checked.prog Try.f6 false true false false) := by
  refine law_lifted os started H enc (by kernel_rfl) Try.func6
    (ChangeSpec.witness6 (enc := enc) (C := Try.checked) false ⟨#[], #[.slice none 0 0, .agg #[.int .i64 0, .int .i64 0], .agg #[.int .i64 0, .int .i64 0]], []⟩ 8 (by kernel_rfl) (by kernel_rfl) (by kernel_rfl) (by kernel_rfl))
    rfl rfl rfl (by rw [Try.params6]; intro t ht; simp only [List.mem_cons, List.not_mem_nil, or_false] at ht; rcases ht with rfl | rfl | rfl <;> exact ⟨by kernel_rfl, of_decide_eq_true (by kernel_rfl)⟩)
    (fun ds hl => by match ds, hl with | [d0, d1, d2], _ => exact ⟨rfl, rfl, rfl⟩) ?_
  intro W base args ds p hval hA hlt hsz
  rw [Try.params6] at hA hval hsz
  obtain ⟨v0, vs0, d0, ds0, p0, q0, hargs, rfl, rfl, h0, r0⟩ := trodAll_cons hA
  obtain ⟨v1, vs1, d1, ds1, p1, q1, rfl, rfl, rfl, h1, r1⟩ := trodAll_cons r0
  obtain ⟨v2, vs2, d2, ds2, p2, q2, rfl, rfl, rfl, h2, r2⟩ := trodAll_cons r1
  obtain ⟨rfl, rfl, rfl⟩ := trodAll_nil r2
  obtain rfl : args = #[v0, v1, v2] := by cases args; simp_all
  obtain ⟨x0, hx0⟩ := argII Try.underlying22 Try.underlying49 Try.underlying2 (by kernel_rfl) (by kernel_rfl) (by kernel_rfl) (by kernel_rfl) (hval 0 _ _ rfl rfl) h0 (weight_arg hsz (j := 0) rfl rfl)
  obtain ⟨e10, e11, y10, y11, m1, rfl, rfl, rfl, hy10, hy11⟩ := open_agg2 Try.underlying39 (by kernel_rfl) (by kernel_rfl) (hval 1 _ _ rfl rfl) h1
  obtain ⟨a0, f10, _, _⟩ := DataW.trod_int Try.underlying2 hy10
  obtain ⟨a1, f11, _, _⟩ := DataW.trod_int Try.underlying2 hy11
  simp only [List.cons.injEq, and_true] at f10 f11
  subst f10 f11
  obtain ⟨e20, e21, y20, y21, m2, rfl, rfl, rfl, hy20, hy21⟩ := open_agg2 Try.underlying39 (by kernel_rfl) (by kernel_rfl) (hval 2 _ _ rfl rfl) h2
  obtain ⟨b0, f20, _, _⟩ := DataW.trod_int Try.underlying2 hy20
  obtain ⟨b1, f21, _, _⟩ := DataW.trod_int Try.underlying2 hy21
  simp only [List.cons.injEq, and_true] at f20 f21
  subst f20 f21
  exact lawMayFollow_any _ x0 a0 a1 b0 b1 W hx0

theorem mayFollow_holds : Rows.FnExactMayFollowSaid :=
  OpenClaim.holds_of_wide 6 Try.f6 rfl rfl rfl rfl rfl rfl rfl ⟨rfl, rfl, rfl, rfl, rfl⟩ rfl rfl rfl rfl rfl (by kernel_rfl) Try.func6 (by kernel_rfl)
    (of_decide_eq_true (by kernel_rfl)) (by unfold Func.isWrapper; first | (rw [if_pos (by decide +kernel)]; kernel_rfl) | (rw [if_neg (by decide +kernel)]; exact ⟨rfl, rfl⟩))
    (fun os started H enc _ => mayFollow_lifted os started H enc)
#print axioms mayFollow_holds
end Go.Proofs.Ytlgeddbgbcineaa
