/-
Halls and ways: ValidTravels of the program and of the reference. Condition: the slices read as lists.
-/
import Derived.Test.YtegabdhmfemgkaaCommon
import Derived.Test.YtegabdhmfemgkaaCompact
namespace Go.Proofs.Ytegabdhmfemgkaa
open Go.RowKit
set_option linter.unusedVariables false

def wayOk (m : Nat) (way : List Int) : Bool := inB (way.length : Int) 1 5 && !outB way 0 ((m : Int) - 1) && !adjB way
def travOk (halls : List Int) (ways : List (List Int)) : Bool := inB ((halls.length : Int) - 1) 0 5 && !outB halls 1 3 && decide (ways.length ≤ 4) && ways.all (wayOk halls.length)
theorem wayOk_at {m : Nat} {way : List Int} (h : wayOk m way = true) : (1 ≤ way.length ∧ way.length ≤ 5) ∧ (∀ x ∈ way, 0 ≤ x ∧ x < (m : Int)) := by
  simp only [wayOk, Bool.and_eq_true, Bool.not_eq_true', inB_iff] at h
  obtain ⟨⟨h1, h2⟩, h3⟩ := h
  exact ⟨by omega, fun x hx => by have := outB_false.1 h2 x hx; omega⟩
theorem travOk_at {halls : List Int} {ways : List (List Int)} (h : travOk halls ways = true) : (1 ≤ halls.length ∧ halls.length ≤ 6) ∧ (∀ x ∈ halls, 1 ≤ x ∧ x ≤ 3) ∧ ways.length ≤ 4 ∧ ∀ way ∈ ways, wayOk halls.length way = true := by
  simp only [travOk, Bool.and_eq_true, Bool.not_eq_true', decide_eq_true_eq, List.all_eq_true, inB_iff] at h
  obtain ⟨⟨⟨h1, h2⟩, h3⟩, h4⟩ := h
  exact ⟨by omega, outB_false.1 h2, h3, h4⟩

set_option maxHeartbeats 1000000 in
theorem wayC_any (v : Value) (way : List Int) (m B : Nat) (w : World) (hv : SlI w v way) (h : w.cell? ⟨B, 0, none⟩ = some (.int .i64 ((m : Int) - 1))) (hm : m ≤ 17592186044416) :
    Calls Try.prog 73 #[v, .pointer (some ⟨B, 0, none⟩)] w fun e w' => e = .returned (.bool (!wayOk m way)) ∧ Below w.heap.size w w' := by
  have HV := Lib.hid hv
  obtain ⟨A, c, rfl, hla, _⟩ := hv.op
  have HW : Hid (wayOk m way = (inB (way.length : Int) 1 5 && !outB way 0 ((m : Int) - 1) && !adjB way)) := Lib.hid rfl
  have HL : Hid (inB (way.length : Int) 1 5 = true → 1 ≤ way.length ∧ way.length ≤ 5) := Lib.hid fun h => by have := inB_iff.1 h; omega
  clear hv
  generalize hM : (m : Int) - 1 = M at h HW
  clear hM
  cases hin : inB (way.length : Int) 1 5 with
  | false =>
    rw [hin] at HW
    go_enter Try.func73, Try.ntmps73
    go_wp2_with fail
    refine (within_any _ _ _ _).mono ?_
    rintro e w1 ⟨rfl, rfl⟩
    rw [hin]
    go_wp2
    go_ret
    exact ⟨ret_bool (by rw [HW.out]; rfl), Below.refl _ _⟩
  | true =>
    rw [hin] at HW
    obtain ⟨hl1, hl5⟩ := HL.out hin
    go_enter Try.func73, Try.ntmps73
    go_wp2_with fail
    refine (within_any _ _ _ _).mono ?_
    rintro e w1 ⟨rfl, rfl⟩
    rw [hin]
    clear hin
    go_wp2_with fail
    refine (outside_any _ way _ _ _ HV.out).mono ?_
    rintro e w1 ⟨rfl, hb1⟩
    have HB1 := Lib.hid hb1
    clear hb1
    cases hout : outB way 0 M with
    | true =>
      rw [hout] at HW
      go_wp2
      go_ret
      exact ⟨ret_bool (by rw [HW.out]; rfl), HB1.out⟩
    | false =>
      rw [hout] at HW
      clear hout
      go_wp2_with fail
      refine (cloneI_any _ way _ (HV.out.ex HB1.out) (by omega)).mono ?_
      rintro e w2 ⟨A2, c2, rfl, hown, hb2⟩
      have HB2 := Lib.hid (below_next0 HB1.out hb2)
      have hs1 := HB1.out.size
      rcases Ow.form hown with ⟨_, h0, _⟩ | ⟨g, c4, hA2, hlo2, hltg, _⟩
      · omega
      · injection hA2 with hA2 _ hc2
        subst hA2 hc2
        have HC := Lib.hid (compactI_any g way.length c2 _ way w2 hown rfl)
        have hgw : w.heap.size ≤ g := Nat.le_trans hs1 hlo2
        clear hown hb2 hs1
        go_wp2_with fail
        refine HC.out.mono ?_
        rintro e w3 ⟨m3, c3, rfl, hiff, hmle, hgr⟩
        have HB3 := Lib.hid (HB2.out.trans (hgr.below (B := w.heap.size) (fun k _ hk => by rw [hk]; exact hgw) HB2.out.size))
        clear hgr
        cases ha : adjB way with
        | true =>
          rw [ha] at HW
          have hlt : m3 < way.length := hiff.2 ha
          have hli : (m3 : Int) < (way.length : Int) := by omega
          clear hiff ha
          go_wp2
          go_ret
          exact ⟨ret_bool (by rw [HW.out]; rfl), HB3.out⟩
        | false =>
          rw [ha] at HW
          have hge : ¬ m3 < way.length := fun hlt => by have := hiff.1 hlt; rw [ha] at this; cases this
          have hli : ¬ (m3 : Int) < (way.length : Int) := by omega
          clear hiff ha
          go_wp2
          go_ret
          exact ⟨ret_bool (by rw [HW.out]; rfl), HB3.out⟩

set_option maxHeartbeats 1000000 in
theorem validTravels_any (v u : Value) (halls : List Int) (ways : List (List Int)) (w : World) (hv : SlI w v halls) (hu : SlII w u ways) :
    Calls Try.prog 30 #[v, u] w fun e w' => e = .returned (.bool (travOk halls ways)) ∧ Below w.heap.size w w' := by
  have HV := Lib.hid hv; have HU := Lib.hid hu
  obtain ⟨A, c, rfl, hla, _⟩ := hv.op
  obtain ⟨B, d, rfl, hlb, _⟩ := hu.op
  clear hv hu
  have HR : Hid (travOk halls ways = (inB ((halls.length : Int) - 1) 0 5 && !outB halls 1 3 && decide (ways.length ≤ 4) && ways.all (wayOk halls.length))) := Lib.hid rfl
  have HB0 := Lib.hid (below_alloc w (.cells #[.int .i64 ((halls.length : Int) - 1)] 2))
  have HBOX : Hid ((w.alloc (.cells #[.int .i64 ((halls.length : Int) - 1)] 2)).cell? ⟨w.heap.size, 0, none⟩ = some (.int .i64 ((halls.length : Int) - 1))) := Lib.hid (by simp [go_sem])
  go_enter Try.func30, Try.ntmps30
  go_wp2_with fail
  refine (within_any _ _ _ _).mono ?_
  rintro e w1 ⟨rfl, rfl⟩
  cases hin : inB ((halls.length : Int) - 1) 0 5 with
  | false =>
    rw [hin] at HR
    go_wp2
    go_ret
    exact ⟨ret_bool (by rw [HR.out]; rfl), HB0.out⟩
  | true =>
    rw [hin] at HR
    go_wp2_with fail
    refine (outside_any _ halls _ _ _ (HV.out.ex HB0.out)).mono ?_
    rintro e w1 ⟨rfl, hb1⟩
    have HB1 := Lib.hid (below_next0 HB0.out hb1)
    cases hout : outB halls 1 3 with
    | true =>
      rw [hout] at HR
      clear hb1
      go_wp2
      go_ret
      exact ⟨ret_bool (by rw [HR.out]; rfl), HB1.out⟩
    | false =>
      rw [hout] at HR
      by_cases h8 : ways.length ≤ 4
      · have h8' : decide (ways.length ≤ 4) = true := by simpa using h8
        rw [h8'] at HR
        have h8i : (ways.length : Int) ≤ 4 := by omega
        have hbox := (hb1.cell (p := ⟨w.heap.size, 0, none⟩) (by simp)).trans HBOX.out
        have HBX := Lib.hid hbox
        have hblt : w.heap.size < w1.heap.size := Nat.lt_of_lt_of_le (by simp) hb1.size
        have EA : Hid (anyN (fun k => match ways[k]? with | some t => !wayOk halls.length t | none => false) ways.length = !ways.all (wayOk halls.length)) := Lib.hid <| by
          rw [anyN_list ways (fun t => !wayOk halls.length t) _ (fun k hk => by simp [hk])]
          rw [Bool.eq_iff_iff]; simp
        clear hb1 hbox h8' hin hout
        go_wp2_with fail
        obtain ⟨us, hu2, hrow⟩ := HU.out.ex HB1.out
        refine (conII_any 73 _ (enters_of Try.func73 (by kernel_rfl) rfl) (fun k => match ways[k]? with | some t => !wayOk halls.length t | none => false) _ ways.length us _ hu2 ?_).mono ?_
        · intro k hk W hW
          have hk' : k < ways.length := by obtain ⟨_, _, _, hl, _⟩ := hu2; omega
          have hx : (match ways[k]? with | some t => !wayOk halls.length t | none => false) = !wayOk halls.length ways[k] := by simp [hk']
          rw [hx]
          exact wayC_any _ _ _ _ W ((hrow k hk hk').ex hW) ((hW.cell (p := ⟨w.heap.size, 0, none⟩) hblt).trans HBX.out) hla
        · rintro e w2 ⟨rfl, hb2⟩
          rw [EA.out]
          have HB2 := Lib.hid (below_next0 HB1.out hb2)
          clear hu2 hrow hb2
          go_wp2
          go_ret
          exact ⟨ret_bool (by rw [HR.out]; simp), HB2.out⟩
      · have h8' : decide (ways.length ≤ 4) = false := by simpa using h8
        rw [h8'] at HR
        have h8i : ¬ (ways.length : Int) ≤ 4 := by omega
        clear hb1 h8' hin hout
        go_wp2
        go_ret
        exact ⟨ret_bool (by rw [HR.out]; rfl), HB1.out⟩

set_option maxHeartbeats 1000000 in
theorem l12Way_any (v u : Value) (halls way : List Int) (w : World) (hv : SlI w v halls) (hu : SlI w u way) :
    Calls Try.prog 97 #[v, u] w fun e w' => e = .returned (.bool (wayOk halls.length way)) ∧ Below w.heap.size w w' := by
  obtain ⟨A, c, rfl, hla, _⟩ := hv.op
  obtain ⟨B, d, rfl, hlb, hat⟩ := hu.op
  have HAT := Lib.hid hat
  clear hv hu hat
  have HW : Hid (wayOk halls.length way = (inB (way.length : Int) 1 5 && !outB way 0 ((halls.length : Int) - 1) && !adjB way)) := Lib.hid rfl
  have HOB : Hid ((∀ x ∈ way, inB x 0 ((halls.length : Int) - 1) = true) → outB way 0 ((halls.length : Int) - 1) = false) := Lib.hid fun h => outB_false.2 fun x hx => inB_iff.1 (h x hx)
  have HBAD1 : Hid (∀ k (hk : k < way.length), inB way[k] 0 ((halls.length : Int) - 1) = false → wayOk halls.length way = false) := Lib.hid fun k hk h => by
    have : outB way 0 ((halls.length : Int) - 1) = true := by
      unfold outB; rw [List.any_eq_true]; exact ⟨way[k], List.getElem_mem hk, by rw [h]; rfl⟩
    rw [HW.out, this]; simp
  have HBAD2 : Hid (∀ k (hk : k < way.length), k ≠ 0 → way[k - 1]'(Nat.lt_of_le_of_lt (Nat.sub_le k 1) hk) = way[k] → wayOk halls.length way = false) := Lib.hid fun k hk h0 h => by
    rw [HW.out, adjB_true hk h0 h]; simp
  have HEND : Hid ((∀ k (hk : k < way.length), inB way[k] 0 ((halls.length : Int) - 1) = true) → (∀ k (hk : k < way.length), k ≠ 0 → way[k - 1]'(Nat.lt_of_le_of_lt (Nat.sub_le k 1) hk) ≠ way[k]) → wayOk halls.length way = inB (way.length : Int) 1 5) := Lib.hid fun h1 h2 => by
    rw [HW.out, HOB.out (fun x hx => by obtain ⟨i, hi, rfl⟩ := List.mem_iff_getElem.1 hx; exact h1 i hi), adjB_false.2 h2]; simp
  go_enter Try.func97, Try.ntmps97
  go_wp2
  go_loopw [5] (fun i wr => ∃ k : Nat, k ≤ way.length ∧ i = .int .i64 (k : Int) ∧ Hid (∀ j (hj : j < way.length), j < k → inB way[j] 0 ((halls.length : Int) - 1) = true) ∧ Hid (∀ j (hj : j < way.length), j < k → j ≠ 0 → way[j - 1]'(Nat.lt_of_le_of_lt (Nat.sub_le j 1) hj) ≠ way[j]) ∧ Below w.heap.size w wr) (fun i _ => way.length - (intOf i).toNat)
  case atStart => exact ⟨0, Nat.zero_le _, rfl, Lib.hid (fun j _ h => absurd h (Nat.not_lt_zero _)), Lib.hid (fun j _ h => absurd h (Nat.not_lt_zero _)), Below.refl _ _⟩
  case round =>
    obtain ⟨k, hk, rfl, h1, h2, hb⟩ := hrel
    by_cases hlt : k < way.length
    · have hki : (k : Int) < (way.length : Int) := by omega
      obtain ⟨b, o, rfl, hbs, hcc⟩ := HAT.out k hlt
      have hp := cell_plus ((hb.cell (p := ⟨b, o + k, none⟩) hbs).trans (hcc k hlt))
      have HB1 := Lib.hid (HBAD1.out k hlt); have HB2 := Lib.hid (HBAD2.out k hlt)
      have HN1 : Hid (inB way[k] 0 ((halls.length : Int) - 1) = true → ∀ j (hj : j < way.length), j < k + 1 → inB way[j] 0 ((halls.length : Int) - 1) = true) := Lib.hid fun h j hj hjk => by
        by_cases e : j = k
        · subst e; exact h
        · exact h1.out j hj (by omega)
      have HN2 : Hid ((k ≠ 0 → way[k - 1]'(Nat.lt_of_le_of_lt (Nat.sub_le k 1) hlt) ≠ way[k]) → ∀ j (hj : j < way.length), j < k + 1 → j ≠ 0 → way[j - 1]'(Nat.lt_of_le_of_lt (Nat.sub_le j 1) hj) ≠ way[j]) := Lib.hid fun h j hj hjk h0 => by
        by_cases e : j = k
        · subst e; exact h h0
        · exact h2.out j hj (by omega) h0
      have hprev : k ≠ 0 → ∀ e, (plus wr e).cell? ⟨b, o + (k - 1), none⟩ = some (.int .i64 (way[k - 1]'(Nat.lt_of_le_of_lt (Nat.sub_le k 1) hlt))) := fun h0 => cell_plus ((hb.cell (p := ⟨b, o + (k - 1), none⟩) hbs).trans (hcc (k - 1) (by omega)))
      have HB := Lib.hid hb
      generalize way[k] = x at hp HB1 HB2 HN1 HN2
      generalize way[k - 1]'(Nat.lt_of_le_of_lt (Nat.sub_le k 1) hlt) = y at hprev HB2 HN2
      clear hcc hb
      cases hin : inB x 0 ((halls.length : Int) - 1) with
      | false =>
        have HF := Lib.hid (HB1.out hin)
        clear hprev
        have HLI := Lib.hid (fun e => l00In_any x 0 ((halls.length : Int) - 1) (plus wr e))
        rw [hin] at HLI
        clear hin
        go_wp2
        refine wp_region_plus (by kernel_rfl) (by kernel_rfl) ?_
        repeat (go_big_quiet_step (((go_at_call 90; exact plus_same (HLI.out _)))))
        refine wpQuiet_nil ?_
        intro wq hwq
        replace hwq := below_of_plus hwq
        go_wp2
        go_ret
        exact ⟨ret_bool HF.out.symm, below_next0 HB.out hwq⟩
      | true =>
        have HO1 := Lib.hid (HN1.out hin)
        have HLI := Lib.hid (fun e => l00In_any x 0 ((halls.length : Int) - 1) (plus wr e))
        rw [hin] at HLI
        clear hin
        by_cases h0 : k = 0
        · have hjz : decide (0 < k) = false := by simp; omega
          have HO2 := Lib.hid (HN2.out (fun h => absurd h0 h))
          clear hprev h0
          go_wp2
          refine wp_region_plus (by kernel_rfl) (by kernel_rfl) ?_
          repeat (go_big_quiet_step (((go_at_call 90; exact plus_same (HLI.out _)))))
          refine wpQuiet_nil ?_
          intro wq hwq
          replace hwq := below_of_plus hwq
          go_wp2
          go_roundw
          case rel => exact ⟨k + 1, by omega, by go_num, HO1, HO2, below_next0 HB.out hwq⟩
          case measure => simp [intOf]; omega
        · have hjz : decide (0 < k) = true := by simp; omega
          have hpp := hprev h0
          have hkm : ((k : Int) - 1).toNat = k - 1 := by omega
          have hkn : (0 : Int) ≤ (k : Int) - 1 := by omega
          have hkl : (k : Int) - 1 < (way.length : Int) := by omega
          by_cases hxy : y = x
          · have HF := Lib.hid (HB2.out h0 hxy)
            have hxb : (y == x) = true := by simpa using hxy
            clear hprev h0 hxy
            go_wp2
            refine wp_region_plus (by kernel_rfl) (by kernel_rfl) ?_
            repeat (go_big_quiet_step (((go_at_call 90; exact plus_same (HLI.out _)))))
            refine wpQuiet_nil ?_
            intro wq hwq
            replace hwq := below_of_plus hwq
            go_wp2
            go_ret
            exact ⟨ret_bool HF.out.symm, below_next0 HB.out hwq⟩
          · have HO2 := Lib.hid (HN2.out (fun _ => hxy))
            have hxb : (y == x) = false := by simpa using hxy
            clear hprev h0 hxy
            go_wp2
            refine wp_region_plus (by kernel_rfl) (by kernel_rfl) ?_
            repeat (go_big_quiet_step (((go_at_call 90; exact plus_same (HLI.out _)))))
            refine wpQuiet_nil ?_
            intro wq hwq
            replace hwq := below_of_plus hwq
            go_wp2
            go_roundw
            case rel => exact ⟨k + 1, by omega, by go_num, HO1, HO2, below_next0 HB.out hwq⟩
            case measure => simp [intOf]; omega
    · have hkn : k = way.length := by omega
      have HE := Lib.hid (HEND.out (fun j hj => h1.out j hj (by omega)) (fun j hj h0 => h2.out j hj (by omega) h0))
      subst hkn
      go_wp2_with fail
      refine (l00In_any _ _ _ _).mono ?_
      rintro e w1 ⟨rfl, rfl⟩
      go_wp2
      go_ret
      exact ⟨ret_bool HE.out.symm, hb⟩

set_option maxHeartbeats 1000000 in
theorem l12Ok_any (v u : Value) (halls : List Int) (ways : List (List Int)) (w : World) (hv : SlI w v halls) (hu : SlII w u ways) :
    Calls Try.prog 65 #[v, u] w fun e w' => e = .returned (.bool (travOk halls ways)) ∧ Below w.heap.size w w' := by
  have HV := Lib.hid hv
  obtain ⟨A, c, rfl, hla, ha⟩ := hv.op
  obtain ⟨B, d, rfl, hlb, hat⟩ := hu.op
  have HA := Lib.hid ha; have HAT := Lib.hid hat
  clear hv hu ha hat
  have HR : Hid (travOk halls ways = (inB ((halls.length : Int) - 1) 0 5 && !outB halls 1 3 && decide (ways.length ≤ 4) && ways.all (wayOk halls.length))) := Lib.hid rfl
  have HBAD : Hid (∀ k (hk : k < ways.length), wayOk halls.length ways[k] = false → travOk halls ways = false) := Lib.hid fun k hk h => by
    have : ways.all (wayOk halls.length) = false := List.all_eq_false.2 ⟨_, List.getElem_mem hk, by rw [h]; simp⟩
    rw [HR.out, this]; simp
  go_enter Try.func65, Try.ntmps65
  go_wp2
  go_loopw [5] (fun i wr => ∃ k : Nat, k ≤ halls.length ∧ i = .int .i64 k ∧ Hid (∀ x ∈ halls.take k, 1 ≤ x ∧ x ≤ 3) ∧ w = wr) (fun i _ => halls.length - (intOf i).toNat)
  case atStart => exact ⟨0, Nat.zero_le _, rfl, Lib.hid (by simp), rfl⟩
  case round =>
    obtain ⟨k, hk, rfl, hall, rfl⟩ := hrel
    by_cases hlt : k < halls.length
    · obtain ⟨b, o, rfl, hbs, hc⟩ := HA.out k hlt
      have hcell := hc k hlt
      have hlti : (k : Int) < (halls.length : Int) := by omega
      have HT : Hid (halls.take (k + 1) = halls.take k ++ [halls[k]]) := Lib.hid (List.take_succ_eq_append_getElem hlt)
      have HM : Hid (halls[k] ∈ halls) := Lib.hid (List.getElem_mem hlt)
      generalize halls[k] = x at hcell HT HM
      clear hc
      cases hx : inB x 1 3 with
      | true =>
        go_wp2_with (go_at_call 90; refine (l00In_any _ _ _ _).mono ?_; rintro e w' ⟨rfl, rfl⟩; rw [hx])
        go_roundw
        case rel => exact ⟨k + 1, by omega, by go_num, Lib.hid (by rw [HT.out]; intro y hy; rcases List.mem_append.1 hy with hy | hy; exact hall.out y hy; simp at hy; subst hy; exact inB_iff.1 hx), by first | trivial | rfl⟩
        case measure => simp [intOf]; omega
      | false =>
        have HO : Hid (outB halls 1 3 = true) := Lib.hid (by
          cases ho : outB halls 1 3 with
          | true => rfl
          | false => have := outB_false.1 ho x HM.out; rw [inB_iff.2 this] at hx; cases hx)
        go_wp2_with (go_at_call 90; refine (l00In_any _ _ _ _).mono ?_; rintro e w' ⟨rfl, rfl⟩; rw [hx])
        go_ret
        exact ⟨ret_bool (by rw [HR.out, HO.out]; simp), Below.refl _ _⟩
    · have hkn : k = halls.length := by omega
      have HRM : Hid (outB halls 1 3 = false) := Lib.hid (outB_false.2 (by have := hall.out; rwa [List.take_of_length_le (by omega)] at this))
      rw [HRM.out] at HR
      subst hkn
      go_wp2
      go_loopw [6] (fun i wr => ∃ k : Nat, k ≤ ways.length ∧ i = .int .i64 k ∧ Hid (∀ x ∈ ways.take k, wayOk halls.length x = true) ∧ Below w.heap.size w wr) (fun i _ => ways.length - (intOf i).toNat)
      case atStart => exact ⟨0, Nat.zero_le _, rfl, Lib.hid (by simp), Below.refl _ _⟩
      case round =>
        obtain ⟨k, hk, rfl, hwall, hb⟩ := hrel
        by_cases hlt2 : k < ways.length
        · have hki : (k : Int) < (ways.length : Int) := by omega
          obtain ⟨b, o, A', c', rfl, hbs, hc, hrow⟩ := HAT.out k hlt2
          have hcell := (hb.cell (p := ⟨b, o + k, none⟩) hbs).trans hc
          have HWY := Lib.hid (l12Way_any _ _ halls ways[k] wr (HV.out.ex hb) (hrow.ex hb))
          have HBK := Lib.hid (HBAD.out k hlt2)
          have HNX : Hid (wayOk halls.length ways[k] = true → ∀ x ∈ ways.take (k + 1), wayOk halls.length x = true) := Lib.hid fun h x hx => by
            rw [List.take_succ_eq_append_getElem hlt2] at hx
            rcases List.mem_append.1 hx with hx | hx
            · exact hwall.out x hx
            · simp at hx; subst hx; exact h
          have HB := Lib.hid hb
          generalize wayOk halls.length ways[k] = p at HWY HBK HNX
          generalize ways[k].length = L at hcell HWY
          clear hb hc hrow
          go_wp2_with fail
          refine HWY.out.mono ?_
          rintro e w2 ⟨rfl, hb2⟩
          have HB2 := Lib.hid (below_next0 HB.out hb2)
          clear hb2
          cases p with
          | false =>
            have HF := Lib.hid (HBK.out (by first | rfl | trivial))
            go_wp2
            go_ret
            exact ⟨ret_bool HF.out.symm, HB2.out⟩
          | true =>
            have HO := Lib.hid (HNX.out (by first | rfl | trivial))
            go_wp2
            go_roundw
            case rel => exact ⟨k + 1, by omega, by go_num, HO, HB2.out⟩
            case measure => simp [intOf]; omega
        · have hkn : k = ways.length := by omega
          have HWA : Hid (ways.all (wayOk halls.length) = true) := Lib.hid (by
            have := hwall.out; rw [List.take_of_length_le (by omega)] at this
            rw [List.all_eq_true]; exact this)
          rw [HWA.out] at HR
          have HLI : Hid (inB ((halls.length : Int) - 1) 0 5 = inB (halls.length : Int) 1 6) := Lib.hid (by rw [Bool.eq_iff_iff, inB_iff, inB_iff]; omega)
          have HD : Hid (decide (ways.length ≤ 4) = decide ((ways.length : Int) ≤ 4)) := Lib.hid (by rw [decide_eq_decide]; omega)
          rw [HLI.out, HD.out] at HR
          subst hkn
          go_wp2_with fail
          refine (l00In_any _ _ _ _).mono ?_
          rintro e w' ⟨rfl, rfl⟩
          cases hin : inB (halls.length : Int) 1 6
          all_goals
            go_wp2
            go_ret
            exact ⟨ret_bool (by rw [HR.out, hin]; simp), hb⟩

theorem specValidTravels_any (v u : Value) (halls : List Int) (ways : List (List Int)) (w : World) (hv : SlI w v halls) (hu : SlII w u ways) :
    Calls Try.prog 27 #[v, u] w fun e w' => e = .returned (.bool (travOk halls ways)) ∧ Below w.heap.size w w' := by
  have HV := Lib.hid hv; have HU := Lib.hid hu
  clear hv hu
  go_enter Try.func27, Try.ntmps27
  go_wp2_with fail
  refine (l12Ok_any _ _ halls ways _ HV.out HU.out).mono ?_
  rintro e w1 ⟨rfl, hb1⟩
  go_wp2
  go_ret
  exact ⟨rfl, hb1⟩
end Go.Proofs.Ytegabdhmfemgkaa
