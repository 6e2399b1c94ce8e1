/-
Trips by value: the copy, validity, the delay of one trip, by their contracts. No condition.
-/
import Derived.Test.YthpijecjifmnbaaDoorCommon
import Derived.Test.YthpijecjifmnbaaDoorConTrip
namespace Go.Proofs.YthpijecjifmnbaaDoor
open Go.RowKit
set_option linter.unusedVariables false

def Trip.ok (t : Trip) : Bool := inB t.to 0 9 && inB t.due 0 10000 && inB t.came 0 10000
def Trip.late (t : Trip) : Int := max 0 (t.came - t.due)
theorem Trip.okd {x y z : Int} (h : Trip.ok ⟨x, y, z⟩ = true) : (0 ≤ x ∧ x ≤ 9) ∧ (0 ≤ y ∧ y ≤ 10000) ∧ (0 ≤ z ∧ z ≤ 10000) := by
  simp only [Trip.ok, Bool.and_eq_true, inB_iff] at h; exact ⟨h.1.1, h.1.2, h.2⟩

theorem validTrip_any (x y z : Int) (w : World) : Calls Tryd.prog 31 #[.agg #[.int .i64 x, .int .i64 y, .int .i64 z]] w fun e w' => e = .returned (.bool (Trip.ok ⟨x, y, z⟩)) ∧ Below w.heap.size w w' := by
  cases hx : inB x 0 9
  all_goals cases hy : inB y 0 10000
  all_goals
    go_enter Tryd.func31, Tryd.ntmps31
    go_wp2_with (go_at_call 52; refine (within_any _ _ _ _).mono ?_; rintro e w' ⟨rfl, rfl⟩)
    go_ret
    refine ⟨ret_bool (by simp [Trip.ok, hx, hy]), below_alloc _ _⟩

theorem delay_any (x y z : Int) (w : World) (h : Trip.ok ⟨x, y, z⟩ = true) : Calls Tryd.prog 33 #[.agg #[.int .i64 x, .int .i64 y, .int .i64 z]] w fun e w' => e = .returned (.int .i64 (Trip.late ⟨x, y, z⟩)) ∧ Below w.heap.size w w' := by
  obtain ⟨_, hy, hz⟩ := Trip.okd h
  clear h
  go_enter Tryd.func33, Tryd.ntmps33
  go_wp2
  all_goals
    go_ret
    refine ⟨ret_int ?_, below_alloc _ _⟩
    simp only [Trip.late]; omega

theorem implDelayOfTrip_any (x y z : Int) (w : World) : Calls Tryd.prog 23 #[.agg #[.int .i64 x, .int .i64 y, .int .i64 z]] w fun e w' => e = .returned (if Trip.ok ⟨x, y, z⟩ = true then .tuple #[.int .i64 (Trip.late ⟨x, y, z⟩), .int .i64 0] else .tuple #[.int .i64 0, .int .i64 1]) ∧ Below w.heap.size w w' := by
  cases hok : Trip.ok ⟨x, y, z⟩ with
  | true =>
    have H := Lib.hid hok
    go_enter Tryd.func23, Tryd.ntmps23
    go_wp2_with fail
    refine (validTrip_any _ _ _ _).mono ?_
    rintro e w1 ⟨rfl, hb1⟩
    obtain ⟨c0, c1, c2⟩ := box3 hb1
    go_wp2_with fail
    refine (delay_any _ _ _ _ H.out).mono ?_
    rintro e w2 ⟨rfl, hb2⟩
    go_wp2
    go_ret2
    exact ⟨by simp, below_next0 (below_next0 (below_alloc _ _) hb1) hb2⟩
  | false =>
    go_enter Tryd.func23, Tryd.ntmps23
    go_wp2_with fail
    refine (validTrip_any _ _ _ _).mono ?_
    rintro e w1 ⟨rfl, hb1⟩
    obtain ⟨c0, c1, c2⟩ := box3 hb1
    go_wp2
    go_ret2
    exact ⟨by simp, below_next0 (below_alloc _ _) hb1⟩

theorem l13Ok_any (x y z : Int) (b o : Nat) (w : World) (h0 : w.cell? ⟨b, o, none⟩ = some (.int .i64 x)) (h1 : w.cell? ⟨b, o + 1, none⟩ = some (.int .i64 y)) (h2 : w.cell? ⟨b, o + 2, none⟩ = some (.int .i64 z)) :
    Calls Tryd.prog 29 #[.pointer (some ⟨b, o, none⟩)] w fun e w' => e = .returned (.bool (Trip.ok ⟨x, y, z⟩)) ∧ w = w' := by
  cases hx : inB x 0 9
  all_goals cases hy : inB y 0 10000
  all_goals
    go_enter Tryd.func29, Tryd.ntmps29
    go_wp2_with (go_at_call 44; refine (l00In_any _ _ _ _).mono ?_; rintro e w' ⟨rfl, rfl⟩)
    go_ret
    exact ⟨ret_bool (by simp [Trip.ok, hx, hy]), rfl⟩

theorem l00Max_any (x y : Int) (w : World) : Calls Tryd.prog 68 #[.int .i64 x, .int .i64 y] w fun e w' => e = .returned (.int .i64 (max x y)) ∧ w = w' := by
  go_enter Tryd.func68, Tryd.ntmps68
  go_wp2
  all_goals go_ret
  all_goals exact ⟨ret_int (by omega), rfl⟩

theorem l13Late_any (x y z : Int) (b o : Nat) (w : World) (h0 : w.cell? ⟨b, o, none⟩ = some (.int .i64 x)) (h1 : w.cell? ⟨b, o + 1, none⟩ = some (.int .i64 y)) (h2 : w.cell? ⟨b, o + 2, none⟩ = some (.int .i64 z)) (h : Trip.ok ⟨x, y, z⟩ = true) :
    Calls Tryd.prog 55 #[.pointer (some ⟨b, o, none⟩)] w fun e w' => e = .returned (.int .i64 (Trip.late ⟨x, y, z⟩)) ∧ ∃ n, w' = w.drewN n := by
  obtain ⟨_, hy, hz⟩ := Trip.okd h
  clear h
  go_enter Tryd.func55, Tryd.ntmps55
  go_wp2
  go_quiet ((go_at_call 68; exact quiet_same_left (l00Max_any _ _ _)))
  go_wp2
  go_ret
  exact ⟨rfl, nq, rfl⟩

theorem specDelayOfTrip_any (x y z : Int) (w : World) : Calls Tryd.prog 24 #[.agg #[.int .i64 x, .int .i64 y, .int .i64 z]] w fun e w' => e = .returned (if Trip.ok ⟨x, y, z⟩ = true then .tuple #[.int .i64 (Trip.late ⟨x, y, z⟩), .int .i64 0] else .tuple #[.int .i64 0, .int .i64 1]) ∧ Below w.heap.size w w' := by
  cases hok : Trip.ok ⟨x, y, z⟩ with
  | true =>
    have H := Lib.hid hok
    go_enter Tryd.func24, Tryd.ntmps24
    go_wp2_with fail
    obtain ⟨c0, c1, c2⟩ := box3 (w := w) (x := .int .i64 x) (y := .int .i64 y) (z := .int .i64 z) (t := 25) (Below.refl _ _)
    refine (l13Ok_any x y z _ _ _ c0 c1 c2).mono ?_
    rintro e w1 ⟨rfl, rfl⟩
    go_wp2_with fail
    refine (l13Late_any x y z _ _ _ c0 c1 c2 H.out).mono ?_
    rintro e w2 ⟨rfl, n, rfl⟩
    go_wp2
    go_ret2
    exact ⟨by simp, below_drewN (below_alloc _ _) n⟩
  | false =>
    go_enter Tryd.func24, Tryd.ntmps24
    go_wp2_with fail
    obtain ⟨c0, c1, c2⟩ := box3 (w := w) (x := .int .i64 x) (y := .int .i64 y) (z := .int .i64 z) (t := 25) (Below.refl _ _)
    refine (l13Ok_any x y z _ _ _ c0 c1 c2).mono ?_
    rintro e w1 ⟨rfl, rfl⟩
    go_wp2
    go_ret2
    exact ⟨by simp, below_alloc _ _⟩

def tripsOk (ts : List Trip) : Bool := ts.all Trip.ok && decide (ts.length ≤ 100)
theorem all_snoc {α : Type} (xs : List α) (p : α → Bool) (k : Nat) (hk : k < xs.length) : (xs.take (k + 1)).all p = ((xs.take k).all p && p xs[k]) := by
  rw [List.take_succ_eq_append_getElem hk, List.all_append]; simp
theorem all_bad {α : Type} {xs : List α} {p : α → Bool} {k : Nat} (hk : k < xs.length) (h : p xs[k] = false) : xs.all p = false := by
  rw [List.all_eq_false]; exact ⟨xs[k], List.getElem_mem hk, by simp [h]⟩

theorem tripC_any (x y z : Int) (w : World) :
    Calls Tryd.prog 59 #[.agg #[.int .i64 x, .int .i64 y, .int .i64 z]] w fun e w' => e = .returned (.bool (!Trip.ok ⟨x, y, z⟩)) ∧ Below w.heap.size w w' := by
  go_enter Tryd.func59, Tryd.ntmps59
  go_wp2_with fail
  refine (validTrip_any _ _ _ _).mono ?_
  rintro e w1 ⟨rfl, hb1⟩
  go_wp2
  go_ret
  exact ⟨rfl, below_next0 (below_alloc _ _) hb1⟩

theorem validTrips_any (v : Value) (ts : List Trip) (w : World) (hv : SlTrip w v ts) :
    Calls Tryd.prog 26 #[v] w fun e w' => e = .returned (.bool (tripsOk ts)) ∧ Below w.heap.size w w' := by
  obtain ⟨A, c, rfl, hla, _⟩ := hv.op
  have HV := Lib.hid hv; clear hv
  by_cases h8 : ts.length ≤ 100
  · have E : Hid (anyN (fun k => match ts[k]? with | some t => !Trip.ok t | none => false) ts.length = !tripsOk ts) := Lib.hid <| by
      rw [anyN_list ts (fun g => !Trip.ok g) _ (fun k hk => by simp [hk])]
      rw [Bool.eq_iff_iff]; simp [tripsOk, h8]
    go_enter Tryd.func26, Tryd.ntmps26
    go_wp2_with fail
    refine (conTrip_any 59 _ (enters_of Tryd.func59 (by kernel_rfl) rfl) (fun k => match ts[k]? with | some t => !Trip.ok t | none => false) _ ts _ HV.out ?_).mono ?_
    · intro k hk W hW
      have hx : (match ts[k]? with | some t => !Trip.ok t | none => false) = !Trip.ok ts[k] := by simp [hk]
      rw [hx]
      exact tripC_any _ _ _ W
    · rintro e w1 ⟨rfl, hb1⟩
      rw [E.out]
      go_wp2
      go_ret
      exact ⟨ret_bool (by simp), hb1⟩
  · have E : Hid (tripsOk ts = false) := Lib.hid <| by simp [tripsOk, h8]
    go_enter Tryd.func26, Tryd.ntmps26
    go_wp2
    go_ret
    exact ⟨ret_bool E.out.symm, Below.refl _ _⟩

theorem l13List_any (v : Value) (ts : List Trip) (w : World) (hv : SlTrip w v ts) :
    Calls Tryd.prog 53 #[v] w fun e w' => e = .returned (.bool (tripsOk ts)) ∧ w = w' := by
  obtain ⟨A, c, rfl, hla, ha⟩ := hv.op
  clear hv
  go_enter Tryd.func53, Tryd.ntmps53
  go_wp2
  go_loop [3] (fun i => ∃ k : Nat, k ≤ ts.length ∧ i = .int .i64 k ∧ Hid ((ts.take k).all Trip.ok = true)) (fun i => ts.length - (intOf i).toNat)
  case atStart => exact ⟨0, Nat.zero_le _, rfl, rfl⟩
  case round =>
    obtain ⟨k, hk, rfl, hall⟩ := hrel
    by_cases hlt : k < ts.length
    · obtain ⟨b, o, rfl, hbs, hc0, hc1, hc2⟩ := ha k hlt
      have hlti : (k : Int) < (ts.length : Int) := by omega
      have HT := Lib.hid (all_snoc ts Trip.ok k hlt)
      have HB := Lib.hid (all_bad (p := Trip.ok) hlt)
      have HC := Lib.hid (l13Ok_any ts[k].to ts[k].due ts[k].came b (o + k * 3) w hc0 hc1 hc2)
      have hk' : Trip.ok ⟨ts[k].to, ts[k].due, ts[k].came⟩ = ts[k].ok := rfl
      rw [hk'] at HC
      generalize ts[k] = x at HC HT HB
      clear hc0 hc1 hc2 ha hk'
      cases hx : x.ok with
      | true =>
        rw [hx] at HC
        go_wp2_with (go_at_call 29; refine HC.out.mono ?_; rintro e w' ⟨rfl, rfl⟩)
        go_round
        case rel => exact ⟨k + 1, by omega, by go_num, by rw [HT.out, hall.out, hx]; rfl⟩
        case measure => simp [intOf]; omega
      | false =>
        rw [hx] at HC
        go_wp2_with (go_at_call 29; refine HC.out.mono ?_; rintro e w' ⟨rfl, rfl⟩)
        go_ret
        exact ⟨ret_bool (by unfold tripsOk; rw [HB.out hx]; rfl), rfl⟩
    · obtain rfl : k = ts.length := by omega
      have E : Hid (tripsOk ts = decide ((ts.length : Int) ≤ 100)) := Lib.hid <| by
        have := hall.out
        rw [List.take_of_length_le (Nat.le_refl _)] at this
        unfold tripsOk
        rw [this, Bool.true_and, decide_eq_decide]; omega
      go_wp2
      go_ret
      exact ⟨ret_bool E.out.symm, rfl⟩

theorem specValidTrips_any (v : Value) (ts : List Trip) (w : World) (hv : SlTrip w v ts) :
    Calls Tryd.prog 27 #[v] w fun e w' => e = .returned (.bool (tripsOk ts)) ∧ Below w.heap.size w w' := by
  have HV := Lib.hid hv; clear hv
  go_enter Tryd.func27, Tryd.ntmps27
  go_wp2_with (go_at_call 53; refine (l13List_any _ ts _ HV.out).mono ?_; rintro e w1 ⟨rfl, rfl⟩)
  go_ret
  exact ⟨rfl, Below.refl _ _⟩
end Go.Proofs.YthpijecjifmnbaaDoor
