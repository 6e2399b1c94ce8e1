/-
Validity of needs and of blowers, in the program and in the reference, by their contracts. Condition: the slices read as lists.
-/
import Derived.Test.YtjleabgoajoegaaCommon
import Derived.Test.YtjleabgoajoegaaConBlower
namespace Go.Proofs.Ytjleabgoajoegaa
open Go.RowKit
set_option linter.unusedVariables false

def needsOk (xs : List Int) : Bool := xs.all (fun n => inB n 0 1000) && decide (xs.length ≤ 24)
def Blower.ok (t : Blower) : Bool := inB t.power 1 1000 && inB t.hour 0 10000 && inB t.start 0 10000
def blowersOk (ts : List Blower) : Bool := ts.all Blower.ok && decide (ts.length ≤ 4)
theorem all_snoc {α : Type} (xs : List α) (p : α → Bool) (k : Nat) (hk : k < xs.length) : (xs.take (k + 1)).all p = ((xs.take k).all p && p xs[k]) := by
  rw [List.take_succ_eq_append_getElem hk, List.all_append]; simp
theorem all_bad {α : Type} {xs : List α} {p : α → Bool} {k : Nat} (hk : k < xs.length) (h : p xs[k] = false) : xs.all p = false := by
  rw [List.all_eq_false]; exact ⟨xs[k], List.getElem_mem hk, by simp [h]⟩

theorem validNeeds_any (v : Value) (xs : List Int) (w : World) (hv : SlI w v xs) :
    Calls Try.prog 17 #[v] w fun e w' => e = .returned (.bool (needsOk xs)) ∧ Below w.heap.size w w' := by
  obtain ⟨A, c, rfl, hla, _⟩ := hv.op
  have HV := Lib.hid hv; clear hv
  by_cases h8 : xs.length ≤ 24
  · have E : Hid (outB xs 0 1000 = !needsOk xs) := Lib.hid <| by
      unfold outB needsOk
      rw [Bool.eq_iff_iff]; simp [h8]
    go_enter Try.func17, Try.ntmps17
    go_wp2_with (go_at_call 54; refine (outside_any _ xs _ _ _ HV.out).mono ?_; rintro e w1 ⟨rfl, hb1⟩; rw [E.out])
    go_ret
    exact ⟨ret_bool (by simp), hb1⟩
  · have E : Hid (needsOk xs = false) := Lib.hid <| by simp [needsOk, h8]
    go_enter Try.func17, Try.ntmps17
    go_wp2
    go_ret
    exact ⟨ret_bool E.out.symm, Below.refl _ _⟩

theorem l11Needs_any (v : Value) (xs : List Int) (w : World) (hv : SlI w v xs) :
    Calls Try.prog 53 #[v] w fun e w' => e = .returned (.bool (needsOk xs)) ∧ w = w' := by
  obtain ⟨A, c, rfl, hla, ha⟩ := hv.op
  clear hv
  go_enter Try.func53, Try.ntmps53
  go_wp2
  go_loop [3] (fun i => ∃ k : Nat, k ≤ xs.length ∧ i = .int .i64 k ∧ Hid ((xs.take k).all (fun n => inB n 0 1000) = true)) (fun i => xs.length - (intOf i).toNat)
  case atStart => exact ⟨0, Nat.zero_le _, rfl, rfl⟩
  case round =>
    obtain ⟨k, hk, rfl, hall⟩ := hrel
    by_cases hlt : k < xs.length
    · obtain ⟨b, o, rfl, hbs, hc⟩ := ha k hlt
      have hcell := hc k hlt
      have hlti : (k : Int) < (xs.length : Int) := by omega
      have HT := Lib.hid (all_snoc xs (fun n => inB n 0 1000) k hlt)
      have HB := Lib.hid (all_bad (p := fun n => inB n 0 1000) hlt)
      generalize xs[k] = x at hcell HT HB
      clear hc ha
      cases hx : inB x 0 1000 with
      | true =>
        go_wp2_with (go_at_call 65; refine (l00In_any _ _ _ _).mono ?_; rintro e w' ⟨rfl, rfl⟩)
        go_round
        case rel => exact ⟨k + 1, by omega, by go_num, by rw [HT.out, hall.out, hx]; rfl⟩
        case measure => simp [intOf]; omega
      | false =>
        go_wp2_with (go_at_call 65; refine (l00In_any _ _ _ _).mono ?_; rintro e w' ⟨rfl, rfl⟩)
        go_ret
        exact ⟨ret_bool (by unfold needsOk; rw [HB.out hx]; rfl), rfl⟩
    · obtain rfl : k = xs.length := by omega
      have E : Hid (needsOk xs = decide ((xs.length : Int) ≤ 24)) := Lib.hid <| by
        have := hall.out
        rw [List.take_of_length_le (Nat.le_refl _)] at this
        unfold needsOk
        rw [this, Bool.true_and, decide_eq_decide]; omega
      go_wp2
      go_ret
      exact ⟨ret_bool E.out.symm, rfl⟩

theorem specValidNeeds_any (v : Value) (xs : List Int) (w : World) (hv : SlI w v xs) :
    Calls Try.prog 15 #[v] w fun e w' => e = .returned (.bool (needsOk xs)) ∧ w = w' := by
  have HV := Lib.hid hv; clear hv
  go_enter Try.func15, Try.ntmps15
  go_wp2_with (go_at_call 53; refine (l11Needs_any _ xs _ HV.out).mono ?_; rintro e w1 ⟨rfl, rfl⟩)
  go_ret
  exact ⟨rfl, rfl⟩

theorem specValidNeeds_b (v : Value) (xs : List Int) (w : World) (hv : SlI w v xs) :
    Calls Try.prog 15 #[v] w fun e w' => e = .returned (.bool (needsOk xs)) ∧ Below w.heap.size w w' := calls_same_below (specValidNeeds_any v xs w hv)

theorem blowC_any (x y z : Int) (w : World) :
    Calls Try.prog 58 #[.agg #[.int .i64 x, .int .i64 y, .int .i64 z]] w fun e w' => e = .returned (.bool (!Blower.ok ⟨x, y, z⟩)) ∧ Below w.heap.size w w' := by
  cases hx : inB x 1 1000
  all_goals cases hy : inB y 0 10000
  all_goals
    go_enter Try.func58, Try.ntmps58
    go_wp2_with (go_at_call 59; refine (within_any _ _ _ _).mono ?_; rintro e w' ⟨rfl, rfl⟩)
    go_ret
    refine ⟨ret_bool (by simp [Blower.ok, hx, hy]), below_alloc _ _⟩

theorem validBlowers_any (v : Value) (ts : List Blower) (w : World) (hv : SlBlower w v ts) :
    Calls Try.prog 22 #[v] w fun e w' => e = .returned (.bool (blowersOk ts)) ∧ Below w.heap.size w w' := by
  obtain ⟨A, c, rfl, hla, _⟩ := hv.op
  have HV := Lib.hid hv; clear hv
  by_cases h8 : ts.length ≤ 4
  · have E : Hid (anyN (fun k => match ts[k]? with | some t => !Blower.ok t | none => false) ts.length = !blowersOk ts) := Lib.hid <| by
      rw [anyN_list ts (fun g => !Blower.ok g) _ (fun k hk => by simp [hk])]
      rw [Bool.eq_iff_iff]; simp [blowersOk, h8]
    go_enter Try.func22, Try.ntmps22
    go_wp2_with fail
    refine (conBlower_any 58 _ (enters_of Try.func58 (by kernel_rfl) rfl) (fun k => match ts[k]? with | some t => !Blower.ok t | none => false) _ ts _ HV.out ?_).mono ?_
    · intro k hk W hW
      have hx : (match ts[k]? with | some t => !Blower.ok t | none => false) = !Blower.ok ts[k] := by simp [hk]
      rw [hx]
      exact blowC_any _ _ _ W
    · rintro e w1 ⟨rfl, hb1⟩
      rw [E.out]
      go_wp2
      go_ret
      exact ⟨ret_bool (by simp), hb1⟩
  · have E : Hid (blowersOk ts = false) := Lib.hid <| by simp [blowersOk, h8]
    go_enter Try.func22, Try.ntmps22
    go_wp2
    go_ret
    exact ⟨ret_bool E.out.symm, Below.refl _ _⟩

set_option maxHeartbeats 1000000 in
theorem l11Ok_any (v : Value) (ts : List Blower) (w : World) (hv : SlBlower w v ts) :
    Calls Try.prog 55 #[v] w fun e w' => e = .returned (.bool (blowersOk ts)) ∧ Below w.heap.size w w' := by
  obtain ⟨A, c, rfl, hla, ha⟩ := hv.op
  clear hv
  go_enter Try.func55, Try.ntmps55
  go_wp2
  go_loopw [3] (fun i wr => ∃ k : Nat, k ≤ ts.length ∧ i = .int .i64 k ∧ Hid ((ts.take k).all Blower.ok = true) ∧ Below w.heap.size w wr) (fun i _ => ts.length - (intOf i).toNat)
  case atStart => exact ⟨0, Nat.zero_le _, rfl, rfl, Below.refl _ _⟩
  case round =>
    obtain ⟨k, hk, rfl, hall, hb⟩ := hrel
    by_cases hlt : k < ts.length
    · obtain ⟨b, o, rfl, hbs, hc0, hc1, hc2⟩ := ha k hlt
      have hx0 := (hb.cell (p := ⟨b, o + k * 3, none⟩) hbs).trans hc0
      have hx1 := (hb.cell (p := ⟨b, o + k * 3 + 1, none⟩) hbs).trans hc1
      have hx2 := (hb.cell (p := ⟨b, o + k * 3 + 2, none⟩) hbs).trans hc2
      have hlti : (k : Int) < (ts.length : Int) := by omega
      have HT := Lib.hid (all_snoc ts Blower.ok k hlt)
      have HB := Lib.hid (all_bad (p := Blower.ok) hlt)
      have hok : ts[k].ok = (inB ts[k].power 1 1000 && inB ts[k].hour 0 10000 && inB ts[k].start 0 10000) := rfl
      have HK := Lib.hid hok
      clear hok
      generalize ts[k] = x at hx0 hx1 hx2 HT HB HK
      clear hc0 hc1 hc2 ha
      have hq : Below w.heap.size w (wr.alloc (.cells #[.int .i64 x.power, .int .i64 x.hour, .int .i64 x.start] 62)) := hb.alloc hb.size _
      have HQ := Lib.hid hq; clear hq
      cases h0 : inB x.power 1 1000
      all_goals cases h1 : inB x.hour 0 10000
      all_goals cases h2 : inB x.start 0 10000
      all_goals go_wp2_with (go_at_call 65; refine (l00In_any _ _ _ _).mono ?_; rintro e w' ⟨rfl, rfl⟩)
      all_goals first
        | (go_ret; exact ⟨ret_bool (by unfold blowersOk; rw [HB.out (by rw [HK.out, h0, h1, h2]; rfl)]; rfl), HQ.out⟩)
        | (go_roundw
           case rel => exact ⟨k + 1, by omega, by go_num, by rw [HT.out, hall.out, HK.out, h0, h1, h2]; rfl, HQ.out⟩
           case measure => simp [intOf]; omega)
    · obtain rfl : k = ts.length := by omega
      have E : Hid (blowersOk ts = decide ((ts.length : Int) ≤ 4)) := Lib.hid <| by
        have := hall.out
        rw [List.take_of_length_le (Nat.le_refl _)] at this
        unfold blowersOk
        rw [this, Bool.true_and, decide_eq_decide]; omega
      go_wp2
      go_ret
      exact ⟨ret_bool E.out.symm, hb⟩

theorem specValidBlowers_any (v : Value) (ts : List Blower) (w : World) (hv : SlBlower w v ts) :
    Calls Try.prog 20 #[v] w fun e w' => e = .returned (.bool (blowersOk ts)) ∧ Below w.heap.size w w' := by
  have HV := Lib.hid hv; clear hv
  go_enter Try.func20, Try.ntmps20
  go_wp2_with (go_at_call 55; refine (l11Ok_any _ ts _ HV.out).mono ?_; rintro e w1 ⟨rfl, hb1⟩)
  go_ret
  exact ⟨rfl, hb1⟩

end Go.Proofs.Ytjleabgoajoegaa
