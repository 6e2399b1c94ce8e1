/-
ValidSensors of the program and of the reference, each by its contract. Condition: the slices read as lists of lists of int64.
-/
import Derived.Test.YtlgeddbgbcineaaCommon
namespace Go.Proofs.Ytlgeddbgbcineaa
open Go.RowKit
set_option linter.unusedVariables false

def gapOk (g : List Int) : Bool := decide (g.length = 2) && inB (g.getD 1 0) 0 1000 && inB (g.getD 0 0) 0 (g.getD 1 0)
def gapsOk (gs : List (List Int)) : Bool := gs.all gapOk && decide (gs.length < 8)

theorem sensC_any (v : Value) (g : List Int) (w : World) (hv : SlI w v g) :
    Calls Try.prog 53 #[v] w fun e w' => e = .returned (.bool (!gapOk g)) ∧ Below w.heap.size w w' := by
  obtain ⟨A, c, rfl, hla, ha⟩ := hv.op
  by_cases h2 : g.length = 2
  · have hn : ((g.length : Int) != 2) = false := by simp [h2]
    have H2 := Lib.hid h2; clear h2
    obtain ⟨b, o, rfl, hb, hc⟩ := ha 0 (by have := H2.out; omega)
    have h0 := cell_plus (hc 0 (by have := H2.out; omega))
    simp only [Nat.add_zero] at h0
    have h1 := cell_plus (hc 1 (by have := H2.out; omega))
    have hl0 : (0 : Int) < (g.length : Int) := by have := H2.out; omega
    have hl1 : (1 : Int) < (g.length : Int) := by have := H2.out; omega
    generalize hx0 : g[0] = x0 at h0
    generalize hx1 : g[1] = x1 at h1
    have E : Hid ((!gapOk g) = (outB g 0 1000 || decide (x0 > x1))) := Lib.hid <| by
      have H := H2.out
      match g, H with
      | [p, q], _ =>
        simp at hx0 hx1; subst hx0 hx1
        rw [Bool.eq_iff_iff]; simp [gapOk, outB, inB]; clear hb ha hc hv; omega
    have HV := Lib.hid hv
    clear ha hc hv hx0 hx1
    cases ho : outB g 0 1000 with
    | true =>
      have hcall := fun W => outside_any (.slice (some ⟨b, o, none⟩) g.length c) g 0 1000 W
      rw [ho] at hcall E
      go_enter Try.func53, Try.ntmps53
      go_wp2
      refine wp_region_plus (by kernel_rfl) (by kernel_rfl) ?_
      repeat (go_big_quiet_step ((go_at_call 54; exact plus_below (hcall _ (HV.out.ex (below_plus _ _))))))
      refine wpQuiet_nil ?_
      intro wq hwq
      replace hwq := below_of_plus hwq
      go_wp2
      go_ret
      exact ⟨ret_bool (by rw [E.out]; rfl), hwq⟩
    | false =>
      have hcall := fun W => outside_any (.slice (some ⟨b, o, none⟩) g.length c) g 0 1000 W
      rw [ho] at hcall E
      go_enter Try.func53, Try.ntmps53
      go_wp2
      refine wp_region_plus (by kernel_rfl) (by kernel_rfl) ?_
      repeat (go_big_quiet_step ((go_at_call 54; exact plus_below (hcall _ (HV.out.ex (below_plus _ _))))))
      refine wpQuiet_nil ?_
      intro wq hwq
      replace hwq := below_of_plus hwq
      go_wp2
      go_ret
      exact ⟨ret_bool (by rw [E.out]; simp), hwq⟩
  · have hn : ((g.length : Int) != 2) = true := by simp; omega
    have E : Hid ((!gapOk g) = true) := by show _ = _; simp [gapOk, h2]
    clear ha hv
    go_enter Try.func53, Try.ntmps53
    go_wp2
    refine wp_region_plus (by kernel_rfl) (by kernel_rfl) ?_
    repeat (go_big_quiet_step (fail))
    refine wpQuiet_nil ?_
    intro wq hwq
    replace hwq := below_of_plus hwq
    go_wp2
    go_ret
    exact ⟨ret_bool E.out.symm, hwq⟩

theorem validSensors_any (v : Value) (gs : List (List Int)) (w : World) (hv : SlII w v gs) :
    Calls Try.prog 17 #[v] w fun e w' => e = .returned (.bool (gapsOk gs)) ∧ Below w.heap.size w w' := by
  obtain ⟨A, c, rfl, hla, _⟩ := hv.op
  have HV := Lib.hid hv; clear hv
  by_cases h8 : gs.length < 8
  · have E : Hid (anyN (fun k => !gapOk (gs.getD k [])) gs.length = !gapsOk gs) := Lib.hid <| by
      rw [anyN_list gs (fun g => !gapOk g) _ (fun k hk => by simp [List.getD_eq_getElem?_getD, hk])]
      rw [Bool.eq_iff_iff]; simp [gapsOk, h8]
    go_enter Try.func17, Try.ntmps17
    go_wp2_with fail
    obtain ⟨us, hu, hrow⟩ := HV.out
    refine (conII_any 53 _ (enters_of Try.func53 (by kernel_rfl) rfl) (fun k => !gapOk (gs.getD k [])) _ gs.length us _ hu ?_).mono ?_
    · intro k hk W hW
      have hk' : k < gs.length := by obtain ⟨_, _, _, hl, _⟩ := hu; omega
      have hx : gs.getD k [] = gs[k] := by simp [List.getD_eq_getElem?_getD, hk']
      rw [hx]
      exact sensC_any _ _ W ((hrow k hk hk').ex hW)
    · rintro e w1 ⟨rfl, hb1⟩
      rw [E.out]
      clear hu hrow
      go_wp2
      go_ret
      exact ⟨ret_bool (by simp), hb1⟩
  · have E : Hid (gapsOk gs = false) := Lib.hid <| by simp [gapsOk, h8]
    go_enter Try.func17, Try.ntmps17
    go_wp2
    go_ret
    exact ⟨ret_bool E.out.symm, Below.refl _ _⟩

theorem all_take_succ {α : Type} (xs : List α) (p : α → Bool) (k : Nat) (hk : k < xs.length) : (xs.take (k + 1)).all p = ((xs.take k).all p && p xs[k]) := by
  rw [List.take_succ_eq_append_getElem hk, List.all_append]; simp

set_option maxHeartbeats 1000000 in
theorem l14Gaps_any (v : Value) (gs : List (List Int)) (w : World) (hv : SlII w v gs) :
    Calls Try.prog 50 #[v] w fun e w' => e = .returned (.bool (gapsOk gs)) ∧ Below w.heap.size w w' := by
  obtain ⟨A, c, rfl, hla, ha⟩ := hv.op
  clear hv
  go_enter Try.func50, Try.ntmps50
  go_wp2
  go_loopw [3] (fun i wr => ∃ k : Nat, k ≤ gs.length ∧ i = .int .i64 k ∧ Hid ((gs.take k).all gapOk = true) ∧ Below w.heap.size w wr) (fun i _ => gs.length - (intOf i).toNat)
  case atStart => exact ⟨0, Nat.zero_le _, rfl, rfl, Below.refl _ _⟩
  case round =>
    obtain ⟨k, hk, rfl, hall, hb⟩ := hrel
    by_cases hlt : k < gs.length
    · obtain ⟨b, o, A', c', rfl, hbs, hc, hrow⟩ := ha k hlt
      have hcell : ∀ e, (plus wr e).cell? ⟨b, o + k, none⟩ = some (.slice A' gs[k].length c') := cell_plus ((hb.cell (p := ⟨b, o + k, none⟩) hbs).trans hc)
      have hlti : (k : Int) < (gs.length : Int) := by omega
      have HG : Hid (gs[k] ∈ gs) := List.getElem_mem hlt
      have hat := all_take_succ gs gapOk k hlt
      rw [hall.out, Bool.true_and] at hat
      have HT := Lib.hid hat
      generalize gs[k] = g at hcell hrow HG HT
      clear ha hc hat
      have hrow := hrow.ex hb
      obtain ⟨A2, c2, hveq, hla2, ha2⟩ := hrow.op
      injection hveq with hA2 _ hc2
      subst hA2 hc2
      have hbad : Hid (gapOk g = false → gapsOk gs = false) := Lib.hid fun h => by
        have := HG.out
        unfold gapsOk
        rw [Bool.and_eq_false_iff]; left
        rw [List.all_eq_false]; exact ⟨g, this, by simp [h]⟩
      by_cases h2 : g.length = 2
      · have hn : ((g.length : Int) != 2) = false := by simp [h2]
        have H2 := Lib.hid h2; clear h2
        obtain ⟨b2, o2, rfl, hbs2, hc2⟩ := ha2 0 (by have := H2.out; omega)
        have h0 := cell_plus (hc2 0 (by have := H2.out; omega))
        have h1 := cell_plus (hc2 1 (by have := H2.out; omega))
        simp only [Nat.add_zero] at h0
        have hl0 : (0 : Int) < (g.length : Int) := by have := H2.out; omega
        have hl1 : (1 : Int) < (g.length : Int) := by have := H2.out; omega
        generalize hx0 : g[0] = x0 at h0
        generalize hx1 : g[1] = x1 at h1
        have E : Hid (gapOk g = (inB x1 0 1000 && inB x0 0 x1)) := Lib.hid <| by
          have H := H2.out
          match g, H with
          | [p, q], _ =>
            simp at hx0 hx1; subst hx0 hx1
            simp [gapOk]
        clear ha2 hc2 hrow hx0 hx1
        cases ho : inB x1 0 1000 with
        | true =>
          rw [ho] at E
          cases hp : inB x0 0 x1 with
          | true =>
            rw [hp] at E
            go_wp2
            refine wp_region_plus (by kernel_rfl) (by kernel_rfl) ?_
            repeat (go_big_quiet_step ((go_at_call 75; exact plus_same (l00In_any _ _ _ _))))
            refine wpQuiet_nil ?_
            intro wq hwq
            replace hwq := below_of_plus hwq
            go_wp2
            go_roundw
            case rel => exact ⟨k + 1, by omega, by go_num, by rw [HT.out, E.out]; rfl, below_next hb hb.size hwq⟩
            case measure => simp [intOf]; omega
          | false =>
            rw [hp] at E
            go_wp2
            refine wp_region_plus (by kernel_rfl) (by kernel_rfl) ?_
            repeat (go_big_quiet_step ((go_at_call 75; exact plus_same (l00In_any _ _ _ _))))
            refine wpQuiet_nil ?_
            intro wq hwq
            replace hwq := below_of_plus hwq
            go_wp2
            go_ret
            exact ⟨ret_bool (hbad.out (by rw [E.out]; rfl)).symm, below_next hb hb.size hwq⟩
        | false =>
          rw [ho] at E
          go_wp2
          refine wp_region_plus (by kernel_rfl) (by kernel_rfl) ?_
          repeat (go_big_quiet_step ((go_at_call 75; exact plus_same (l00In_any _ _ _ _))))
          refine wpQuiet_nil ?_
          intro wq hwq
          replace hwq := below_of_plus hwq
          go_wp2
          go_ret
          exact ⟨ret_bool (hbad.out (by rw [E.out]; rfl)).symm, below_next hb hb.size hwq⟩
      · have hn : ((g.length : Int) != 2) = true := by simp; omega
        have E : Hid (gapOk g = false) := Lib.hid (by simp [gapOk, h2])
        clear ha2 hrow
        go_wp2
        refine wp_region_plus (by kernel_rfl) (by kernel_rfl) ?_
        repeat (go_big_quiet_step (fail))
        refine wpQuiet_nil ?_
        intro wq hwq
        replace hwq := below_of_plus hwq
        go_wp2
        go_ret
        exact ⟨ret_bool (hbad.out E.out).symm, below_next hb hb.size hwq⟩
    · obtain rfl : k = gs.length := by omega
      have E : Hid (gapsOk gs = decide ((gs.length : Int) < 8)) := Lib.hid <| by
        have := hall.out
        rw [List.take_of_length_le (Nat.le_refl _)] at this
        unfold gapsOk
        rw [this, Bool.true_and, decide_eq_decide]; omega
      go_wp2
      go_ret
      exact ⟨ret_bool E.out.symm, hb⟩

theorem specValidSensors_any (v : Value) (gs : List (List Int)) (w : World) (hv : SlII w v gs) :
    Calls Try.prog 15 #[v] w fun e w' => e = .returned (.bool (gapsOk gs)) ∧ Below w.heap.size w w' := by
  have HV := Lib.hid hv; clear hv
  go_enter Try.func15, Try.ntmps15
  go_wp2_with (go_at_call 50; refine (l14Gaps_any _ gs _ HV.out).mono ?_; rintro e w1 ⟨rfl, hb1⟩)
  go_ret
  exact ⟨rfl, hb1⟩
end Go.Proofs.Ytlgeddbgbcineaa
