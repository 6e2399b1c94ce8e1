/-
FnExactNextSeen returns true for all arguments: the program's NextSeen and the reference's return the same, and the arguments stay as they were. No condition beyond the form's own reach.
-/
import Derived.Test.YtlgeddbgbcineaaRows
import Derived.Test.YtlgeddbgbcineaaLaw
import Derived.Test.YtlgeddbgbcineaaSensD
import Derived.Test.YtlgeddbgbcineaaIntss
import Derived.Test.YtlgeddbgbcineaaArgReading
import Derived.Deep.RegionHeld3
import Derived.Lib.SmallJoins
namespace Go.Proofs.Ytlgeddbgbcineaa
open Go.ChangeShapes Go.WideShapes Go.ChangeAt Go.RowKit Go.Deep Go.Joins
set_option linter.unusedVariables false

theorem cell_lt {w : World} {b o : Nat} {x : Value} (h : w.cell? ⟨b, o, none⟩ = some x) : b < w.heap.size := by
  rcases Nat.lt_or_ge b w.heap.size with h1 | h1
  · exact h1
  · simp [World.cell?, Array.getElem?_eq_none h1] at h
theorem keepS1 {W0 w w1 : World} {g0 : Nat} {x0 x1 : Value} (h : w.cell? ⟨g0, 0, none⟩ = some x0 ∧ w.cell? ⟨g0, 1, none⟩ = some x1 ∧ Below W0.heap.size W0 w) (hn : Below w.heap.size w w1) : w1.cell? ⟨g0, 0, none⟩ = some x0 ∧ w1.cell? ⟨g0, 1, none⟩ = some x1 ∧ Below W0.heap.size W0 w1 := by
  obtain ⟨q0, q1, hb⟩ := h
  exact ⟨(hn.cell (p := ⟨g0, 0, none⟩) (cell_lt q0)).trans q0, (hn.cell (p := ⟨g0, 1, none⟩) (cell_lt q1)).trans q1, below_next0 hb hn⟩
theorem keepA1 {W0 w : World} {g0 : Nat} {x0 x1 : Value} (h : w.cell? ⟨g0, 0, none⟩ = some x0 ∧ w.cell? ⟨g0, 1, none⟩ = some x1 ∧ Below W0.heap.size W0 w) : w.cell? ⟨g0, 0, none⟩ = some x0 ∧ w.cell? ⟨g0, 1, none⟩ = some x1 ∧ Below W0.heap.size W0 w := h
theorem keepB1 {W0 w : World} {g0 : Nat} {x0 x1 : Value} (h : w.cell? ⟨g0, 0, none⟩ = some x0 ∧ w.cell? ⟨g0, 1, none⟩ = some x1 ∧ Below W0.heap.size W0 w) : Below W0.heap.size W0 w := h.2.2

set_option maxHeartbeats 2000000 in
theorem lawNextSeen_any (v0 : Value) (x0 : List (List Int)) (a0 a1 : Int) (w : World) (h0 : SlII w v0 x0) : Calls Try.prog 5 #[v0, .agg #[.int .i64 a0, .int .i64 a1]] w fun e w' => e = .returned (.bool true) ∧ Below w.heap.size w w' := by
  have hs := fun (u0 : Value) (W : World) (k0 : SlII W u0 x0) => specNext_any u0 x0 a0 a1 W k0
  have hi := fun (u0 : Value) (W : World) (k0 : SlII W u0 x0) => implNext_any u0 x0 a0 a1 W k0
  generalize (nsR x0 ⟨a0, a1⟩).1 = r0 at hs hi
  generalize (nsR x0 ⟨a0, a1⟩).2.1 = r1 at hs hi
  generalize (nsR x0 ⟨a0, a1⟩).2.2 = r2 at hs hi
  have HS := Lib.hid hs; have HI := Lib.hid hi
  clear hs hi
  have HV0 := Lib.hid (h0.ex (below_alloc w (.cells #[.int .i64 a0, .int .i64 a1] 39)))
  have HB0 := Lib.hid (below_alloc w (.cells #[.int .i64 a0, .int .i64 a1] 39))
  have HBX := Lib.hid (Box2.new w (.int .i64 a0) (.int .i64 a1) 39)
  clear h0
  have HS0 : Hid ((w.alloc (.cells #[.int .i64 a0, .int .i64 a1] 39)).cell? ⟨w.heap.size, 0, none⟩ = some (.int .i64 a0) ∧ (w.alloc (.cells #[.int .i64 a0, .int .i64 a1] 39)).cell? ⟨w.heap.size, 1, none⟩ = some (.int .i64 a1) ∧ Below (w.alloc (.cells #[.int .i64 a0, .int .i64 a1] 39)).heap.size (w.alloc (.cells #[.int .i64 a0, .int .i64 a1] 39)) (w.alloc (.cells #[.int .i64 a0, .int .i64 a1] 39))) := Lib.hid ⟨HBX.out.c0, HBX.out.c1, Below.refl _ _⟩
  go_enter Try.func5, Try.ntmps5
  go_wp2_with fail
  refine (szInt64SS_any _ x0 _ _ HV0.out (by omega) (by omega)).mono ?_
  rintro e w1 ⟨⟨s0, rfl, hs0⟩, rfl⟩
  by_cases g0 : s0 < 0
  · clear hs0
    go_wp2
    go_ret
    exact ⟨rfl, HB0.out⟩
  have z0 : x0.length ≤ 1048576 := by unfold total at hs0; omega
  have qq : 0 ≤ s0 ∧ s0 ≤ 1048576 := by unfold total at hs0; omega
  obtain ⟨qa0, qb0⟩ := qq
  clear hs0
  clear qa0 qb0
  go_wp2
  go_region_held3 (fun w' => w'.cell? ⟨w.heap.size, 0, none⟩ = some (.int .i64 a0) ∧ w'.cell? ⟨w.heap.size, 1, none⟩ = some (.int .i64 a1) ∧ Below (w.alloc (.cells #[.int .i64 a0, .int .i64 a1] 39)).heap.size (w.alloc (.cells #[.int .i64 a0, .int .i64 a1] 39)) w') (first | (exact keepS1 (by assumption) hn) | (exact keepS1 HS0.out (Below.refl _ _).drew)) (first | (go_at_call 16; refine (toInt64SS_any _ x0 _ (HV0.out.ex (keepB1 (by assumption))) z0).mono ?_; rintro e wA ⟨As0, cs0, uss0, rfl, os0, hn⟩) | (go_at_call 25; refine (toReading_any _ _ _).mono ?_; rintro e wB ⟨rfl, hn⟩; replace os0 := os0.ex hn) | (go_at_call 24; refine (HS.out _ _ os0.sl).mono ?_; rintro e wC ⟨rfl, hn⟩; have os0 := os0.ex hn))
  have HS1 := Lib.hid (keepA1 (by assumption))
  obtain ⟨p0, p1, hb1⟩ := HS1.out
  clear os0 hn p0 p1
  go_wp2_with fail
  refine (toInt64SS_any _ x0 _ (HV0.out.ex hb1) z0).mono ?_
  rintro e w2 ⟨Ax0, cx0, usx0, rfl, ox0, hn⟩
  have HS2 := Lib.hid (keepS1 HS1.out hn)
  clear hn hb1
  obtain ⟨q0, q1, hb2⟩ := HS2.out
  go_wp2_with fail
  refine (toReading_any _ _ _).mono ?_
  rintro e w3 ⟨rfl, hn⟩
  replace ox0 := ox0.ex hn
  replace hb2 := below_next0 hb2 hn
  clear hn q0 q1
  go_wp2_with fail
  refine (HI.out _ _ ox0.sl).mono ?_
  rintro e w4 ⟨rfl, hn⟩
  replace ox0 := ox0.ex hn
  have hb3 := below_next0 hb2 hn
  clear hn hb2
  go_wp2_with fail
  refine (toInt64SS_any _ x0 _ (HV0.out.ex hb3) z0).mono ?_
  rintro e w5 ⟨Ay0, cy0, usy0, rfl, oy0, hn⟩
  replace ox0 := ox0.ex hn
  have hb5 := below_next0 hb3 hn
  clear hn hb3
  go_wp2_with fail
  refine (eqInt64SS_any _ _ x0 x0 _ ox0.sl oy0.sl).mono ?_
  rintro e w6 ⟨rfl, hn⟩
  have hb6 := below_next0 hb5 hn
  clear hn hb5
  simp only [decide_true]
  go_wp2
  go_ret
  exact ⟨rfl, below_next0 HB0.out hb6⟩

set_option maxRecDepth 100000 in
theorem nextSeen_lifted (os : Os) (started : os.Started) (H : Type) (enc : TypeId × Value → H) :
    ReturnsInHanded {} Try.checked os 5 .any (Rows.fnExactNextSeenSpec.pre6 enc Try.checked.prog Try.f5 Rows.fnExactNextSeenRow.domain false) (Rows.fnExactNextSeenSpec.post enc Try.checked.prog Try.f5 false true false false) := by
  refine law_lifted os started H enc (by kernel_rfl) Try.func5
    (ChangeSpec.witness6 (enc := enc) (C := Try.checked) false ⟨#[], #[.slice none 0 0, .agg #[.int .i64 0, .int .i64 0]], []⟩ 8 (by kernel_rfl) (by kernel_rfl) (by kernel_rfl) (by kernel_rfl))
    rfl rfl rfl (by rw [Try.params5]; intro t ht; simp only [List.mem_cons, List.not_mem_nil, or_false] at ht; rcases ht with rfl | rfl <;> exact ⟨by kernel_rfl, of_decide_eq_true (by kernel_rfl)⟩)
    (fun ds hl => by match ds, hl with | [d0, d1], _ => exact ⟨rfl, rfl, rfl⟩) ?_
  intro W base args ds p hval hA hlt hsz
  rw [Try.params5] at hA hval hsz
  obtain ⟨v0, vs0, d0, ds0, p0, q0, hargs, rfl, rfl, h0, r0⟩ := trodAll_cons hA
  obtain ⟨v1, vs1, d1, ds1, p1, q1, rfl, rfl, rfl, h1, r1⟩ := trodAll_cons r0
  obtain ⟨rfl, rfl, rfl⟩ := trodAll_nil r1
  obtain rfl : args = #[v0, v1] := by cases args; simp_all
  obtain ⟨x0, hx0⟩ := argII Try.underlying22 Try.underlying49 Try.underlying2 (by kernel_rfl) (by kernel_rfl) (by kernel_rfl) (by kernel_rfl) (hval 0 _ _ rfl rfl) h0 (weight_arg hsz (j := 0) rfl rfl)
  obtain ⟨e10, e11, y10, y11, m1, rfl, rfl, rfl, hy10, hy11⟩ := open_agg2 Try.underlying39 (by kernel_rfl) (by kernel_rfl) (hval 1 _ _ rfl rfl) h1
  obtain ⟨a0, f10, _, _⟩ := DataW.trod_int Try.underlying2 hy10
  obtain ⟨a1, f11, _, _⟩ := DataW.trod_int Try.underlying2 hy11
  simp only [List.cons.injEq, and_true] at f10 f11
  subst f10 f11
  exact lawNextSeen_any _ x0 a0 a1 W hx0

theorem nextSeen_holds : Rows.FnExactNextSeenSaid :=
  OpenClaim.holds_of_wide 5 Try.f5 rfl rfl rfl rfl rfl rfl rfl ⟨rfl, rfl, rfl, rfl, rfl⟩ rfl rfl rfl rfl rfl (by kernel_rfl) Try.func5 (by kernel_rfl)
    (of_decide_eq_true (by kernel_rfl)) (by unfold Func.isWrapper; first | (rw [if_pos (by decide +kernel)]; kernel_rfl) | (rw [if_neg (by decide +kernel)]; exact ⟨rfl, rfl⟩))
    (fun os started H enc _ => nextSeen_lifted os started H enc)
#print axioms nextSeen_holds
end Go.Proofs.Ytlgeddbgbcineaa
