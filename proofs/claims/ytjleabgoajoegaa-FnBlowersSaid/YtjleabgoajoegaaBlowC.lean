/-
Codes of sets, PowerOf, CostOfDay, MeetsNeeds, CheapestHour of the program and of the reference, by their contracts. Condition: the slices read as lists.
-/
import Derived.Test.YtjleabgoajoegaaBlowB
namespace Go.Proofs.Ytjleabgoajoegaa
open Go.RowKit
set_option linter.unusedVariables false

/-- the code of blowers and sets -/
def codeS (ts : List Blower) (ss : List Int) : Int := if blowersOk ts then (if decide (24 < ss.length) || outB ss 0 (lastB ts.length) then 2 else 0) else 1
theorem codeS_bad {ts : List Blower} {ss : List Int} (h : blowersOk ts = false) : codeS ts ss = 1 := by simp [codeS, h]
theorem codeS_ok {ts : List Blower} {ss : List Int} (h : codeS ts ss = 0) : blowersOk ts = true ∧ ss.length ≤ 24 ∧ ∀ x ∈ ss, 0 ≤ x ∧ x ≤ 15 := by
  unfold codeS at h
  split at h
  · rename_i hb
    split at h
    · cases h
    · rename_i hc
      simp only [Bool.or_eq_true, decide_eq_true_eq, not_or, Bool.not_eq_true] at hc
      refine ⟨hb, by omega, fun x hx => ?_⟩
      have h1 := outB_false.1 hc.2 x hx
      have h2 := lastB_le (blowersOk_at hb).1
      omega
  · cases h
theorem codeS_or (ts : List Blower) (ss : List Int) : codeS ts ss = 0 ∨ codeS ts ss = 1 ∨ codeS ts ss = 2 := by unfold codeS; split <;> (try split) <;> simp

theorem setsCode_any (v u : Value) (ts : List Blower) (ss : List Int) (w : World) (hv : SlBlower w v ts) (hu : SlI w u ss) :
    Calls Try.prog 63 #[v, u] w fun e w' => e = .returned (.int .i64 (codeS ts ss)) ∧ Below w.heap.size w w' := by
  have HV := Lib.hid hv; have HU := Lib.hid hu
  obtain ⟨A, c, rfl, hla, _⟩ := hv.op
  obtain ⟨B, d, rfl, hlb, _⟩ := hu.op
  clear hv hu
  cases hok : blowersOk ts with
  | false =>
    have E : Hid (codeS ts ss = 1) := codeS_bad hok
    go_enter Try.func63, Try.ntmps63
    go_wp2_with fail
    refine (validBlowers_any _ ts _ HV.out).mono ?_
    rintro e w1 ⟨rfl, hb1⟩
    rw [hok]
    go_wp2
    go_ret
    exact ⟨ret_int E.out.symm, hb1⟩
  | true =>
    have hl4 := (blowersOk_at hok).1
    by_cases h24 : 24 < ss.length
    · have E : Hid (codeS ts ss = 2) := Lib.hid <| by simp [codeS, hok, h24]
      have h24i : (24 : Int) < (ss.length : Int) := by omega
      go_enter Try.func63, Try.ntmps63
      go_wp2_with fail
      refine (validBlowers_any _ ts _ HV.out).mono ?_
      rintro e w1 ⟨rfl, hb1⟩
      rw [hok]
      go_wp2
      go_ret
      exact ⟨ret_int E.out.symm, hb1⟩
    · have h24i : ¬ (24 : Int) < (ss.length : Int) := by omega
      have E : Hid (codeS ts ss = if outB ss 0 (lastB ts.length) then 2 else 0) := Lib.hid <| by simp [codeS, hok, h24]
      go_enter Try.func63, Try.ntmps63
      go_wp2_with fail
      refine (validBlowers_any _ ts _ HV.out).mono ?_
      rintro e w1 ⟨rfl, hb1⟩
      rw [hok]
      go_wp2_with fail
      refine (lastSet_any _ _ _ _ hl4).mono ?_
      rintro e w2 ⟨rfl, rfl⟩
      go_wp2_with fail
      refine (outside_any _ ss _ _ _ (HU.out.ex hb1)).mono ?_
      rintro e w2 ⟨rfl, hb2⟩
      cases ho : outB ss 0 (lastB ts.length)
      all_goals
        go_wp2
        go_ret
        exact ⟨ret_int (by rw [E.out, ho]; rfl), below_next0 hb1 hb2⟩

set_option maxHeartbeats 1000000 in
theorem l11Sets_any (v u : Value) (ts : List Blower) (ss : List Int) (w : World) (hv : SlBlower w v ts) (hu : SlI w u ss) :
    Calls Try.prog 72 #[v, u] w fun e w' => e = .returned (.int .i64 (codeS ts ss)) ∧ Below w.heap.size w w' := by
  have HV := Lib.hid hv
  obtain ⟨A, c, rfl, hla, _⟩ := hv.op
  obtain ⟨B, d, rfl, hlb, hcs⟩ := hu.op
  clear hv hu
  cases hok : blowersOk ts with
  | false =>
    have E : Hid (codeS ts ss = 1) := codeS_bad hok
    clear hcs
    go_enter Try.func72, Try.ntmps72
    go_wp2_with fail
    refine (l11Ok_any _ ts _ HV.out).mono ?_
    rintro e w1 ⟨rfl, hb1⟩
    rw [hok]
    go_wp2
    go_ret
    exact ⟨ret_int E.out.symm, hb1⟩
  | true =>
    have hl4 := (blowersOk_at hok).1
    have HC := Lib.hid hcs
    have HO := Lib.hid hok
    clear hcs
    go_enter Try.func72, Try.ntmps72
    go_wp2_with fail
    refine (l11Ok_any _ ts _ HV.out).mono ?_
    rintro e w1 ⟨rfl, hb1⟩
    rw [hok]
    have HB1 := Lib.hid hb1
    go_wp2
    clear hok
    go_loopw [5] (fun i wr => ∃ k : Nat, k ≤ ss.length ∧ i = .int .i64 k ∧ Hid ((ss.take k).all (fun n => inB n 0 (lastB ts.length)) = true) ∧ w1 = wr) (fun i _ => ss.length - (intOf i).toNat)
    case atStart => exact ⟨0, Nat.zero_le _, rfl, rfl, rfl⟩
    case round =>
      obtain ⟨k, hk, rfl, hall, rfl⟩ := hrel
      by_cases hlt : k < ss.length
      · obtain ⟨b, o, rfl, hbs, hc⟩ := HC.out k hlt
        have hcell := (hb1.cell (p := ⟨b, o + k, none⟩) hbs).trans (hc k hlt)
        have hlti : (k : Int) < (ss.length : Int) := by omega
        have HT := Lib.hid (all_snoc ss (fun n => inB n 0 (lastB ts.length)) k hlt)
        have HB := Lib.hid (all_bad (p := fun n => inB n 0 (lastB ts.length)) hlt)
        generalize ss[k] = x at hcell HT HB
        clear hc hb1
        cases hx : inB x 0 (lastB ts.length) with
        | true =>
          go_wp2_with fail
          refine (l11Set_any _ _ _ _ _ hl4).mono ?_
          rintro e w' ⟨rfl, rfl⟩
          rw [hx]
          go_wp2
          go_roundw
          case rel => exact ⟨k + 1, by omega, by go_num, by rw [HT.out, hall.out, hx]; rfl, by first | trivial | rfl⟩
          case measure => simp [intOf]; omega
        | false =>
          go_wp2_with fail
          refine (l11Set_any _ _ _ _ _ hl4).mono ?_
          rintro e w' ⟨rfl, rfl⟩
          rw [hx]
          go_wp2
          go_ret
          refine ⟨ret_int ?_, HB1.out⟩
          have h1 := HB.out hx
          have h2 : outB ss 0 (lastB ts.length) = true := by
            cases ho : outB ss 0 (lastB ts.length) with
            | true => rfl
            | false =>
              rw [List.all_eq_false] at h1
              obtain ⟨y, hy, hyn⟩ := h1
              exact absurd (inB_iff.2 (outB_false.1 ho y hy)) hyn
          simp [codeS, HO.out, h2]
      · obtain rfl : k = ss.length := by omega
        have h2 : outB ss 0 (lastB ts.length) = false := by
          have h1 := hall.out
          rw [List.take_of_length_le (Nat.le_refl _), List.all_eq_true] at h1
          exact outB_false.2 fun x hx => inB_iff.1 (h1 x hx)
        have E : Hid (codeS ts ss = if 24 < ss.length then 2 else 0) := Lib.hid <| by simp [codeS, HO.out, h2]
        clear h2
        by_cases h24 : 24 < ss.length
        · have h24i : (24 : Int) < (ss.length : Int) := by omega
          go_wp2
          go_ret
          exact ⟨ret_int (by rw [E.out, if_pos h24]), HB1.out⟩
        · have h24i : ¬ (24 : Int) < (ss.length : Int) := by omega
          go_wp2
          go_ret
          exact ⟨ret_int (by rw [E.out, if_neg h24]), HB1.out⟩

/-- PowerOf -/
def powR (ts : List Blower) (s : Int) : Int × Int := if blowersOk ts then (if inB s 0 (lastB ts.length) then (powT ts s, 0) else (0, 2)) else (0, 1)
theorem set_bd {ts : List Blower} {s : Int} (h : blowersOk ts = true) (hs : inB s 0 (lastB ts.length) = true) : 0 ≤ s ∧ s ≤ 15 := by
  have h1 := lastB_le (blowersOk_at h).1; have h2 := inB_iff.1 hs; omega

theorem specPowerOf_any (v : Value) (ts : List Blower) (s : Int) (w : World) (hv : SlBlower w v ts) (_ : -9223372036854775808 ≤ s ∧ s ≤ 9223372036854775807) :
    Calls Try.prog 24 #[v, .int .i64 s] w fun e w' => e = .returned (.tuple #[.int .i64 (powR ts s).1, .int .i64 (powR ts s).2]) ∧ Below w.heap.size w w' := by
  have HV := Lib.hid hv
  obtain ⟨A, c, rfl, hla, _⟩ := hv.op
  clear hv
  cases hok : blowersOk ts with
  | false =>
    have E : Hid (powR ts s = (0, 1)) := Lib.hid (by simp [powR, hok])
    go_enter Try.func24, Try.ntmps24
    go_wp2_with fail
    refine (l11Ok_any _ ts _ HV.out).mono ?_
    rintro e w1 ⟨rfl, hb1⟩
    rw [hok]
    go_wp2
    go_ret2
    exact ⟨by rw [E.out]; rfl, hb1⟩
  | true =>
    have hl4 := (blowersOk_at hok).1
    have HO := Lib.hid hok
    cases hs : inB s 0 (lastB ts.length) with
    | false =>
      have E : Hid (powR ts s = (0, 2)) := Lib.hid (by simp [powR, hok, hs])
      go_enter Try.func24, Try.ntmps24
      go_wp2_with fail
      refine (l11Ok_any _ ts _ HV.out).mono ?_
      rintro e w1 ⟨rfl, hb1⟩
      rw [hok]
      go_wp2_with fail
      refine (l11Set_any _ _ _ _ _ hl4).mono ?_
      rintro e w' ⟨rfl, rfl⟩
      rw [hs]
      go_wp2
      go_ret2
      exact ⟨by rw [E.out]; rfl, hb1⟩
    | true =>
      have E : Hid (powR ts s = (powT ts s, 0)) := Lib.hid (by simp [powR, hok, hs])
      have HS := Lib.hid (set_bd hok hs)
      go_enter Try.func24, Try.ntmps24
      go_wp2_with fail
      refine (l11Ok_any _ ts _ HV.out).mono ?_
      rintro e w1 ⟨rfl, hb1⟩
      rw [hok]
      go_wp2_with fail
      refine (l11Set_any _ _ _ _ _ hl4).mono ?_
      rintro e w' ⟨rfl, rfl⟩
      rw [hs]
      go_wp2_with fail
      refine (l11Power_any _ ts _ _ (HV.out.ex hb1) HO.out HS.out).mono ?_
      rintro e w' ⟨rfl, rfl⟩
      go_wp2
      go_ret2
      exact ⟨by rw [E.out]; rfl, hb1⟩

/-- a slice literal of one number -/
theorem slI_one (w : World) (s : Int) (e : TypeId) : SlI (w.alloc (.cells #[.int .i64 s] e)) (.slice (some ⟨w.heap.size, 0, none⟩) 1 1) [s] :=
  ⟨some ⟨w.heap.size, 0, none⟩, 1, rfl, rfl, by simp, fun _ => ⟨w.heap.size, 0, rfl, by simp, fun k hk => by
    have : k = 0 := by simpa using hk
    subst this; simp⟩⟩
theorem codeS_one (ts : List Blower) (s : Int) : codeS ts [s] = if blowersOk ts then (if inB s 0 (lastB ts.length) then 0 else 2) else 1 := by
  unfold codeS
  cases blowersOk ts <;> cases h : inB s 0 (lastB ts.length) <;> simp [outB, h]

theorem implPowerOf_any (v : Value) (ts : List Blower) (s : Int) (w : World) (hv : SlBlower w v ts) (_ : -9223372036854775808 ≤ s ∧ s ≤ 9223372036854775807) :
    Calls Try.prog 25 #[v, .int .i64 s] w fun e w' => e = .returned (.tuple #[.int .i64 (powR ts s).1, .int .i64 (powR ts s).2]) ∧ Below w.heap.size w w' := by
  have HV := Lib.hid hv
  obtain ⟨A, c, rfl, hla, _⟩ := hv.op
  clear hv
  have hone := codeS_one ts s
  have HR : Hid (powR ts s = if codeS ts [s] = 0 then (powT ts s, 0) else (0, codeS ts [s])) := Lib.hid <| by
    rw [hone]; unfold powR; cases blowersOk ts <;> cases inB s 0 (lastB ts.length) <;> simp
  have HK : Hid (codeS ts [s] = 0 → blowersOk ts = true ∧ 0 ≤ s ∧ s ≤ 15) := Lib.hid fun h => ⟨(codeS_ok h).1, (codeS_ok h).2.2 s (by simp)⟩
  have HOR := Lib.hid (codeS_or ts [s])
  clear hone
  go_enter Try.func25, Try.ntmps25
  go_wp2_with fail
  refine (setsCode_any _ _ ts [s] _ (HV.out.ex (below_alloc _ _)) (slI_one _ _ _)).mono ?_
  rintro e w1 ⟨rfl, hb1⟩
  replace hb1 := below_next0 (below_alloc _ _) hb1
  generalize codeS ts [s] = cd at HR HK HOR ⊢
  by_cases h0 : cd = 0
  · subst h0
    have HK2 := Lib.hid (HK.out rfl)
    go_wp2_with fail
    refine (powerOf_any _ ts _ _ (HV.out.ex hb1) HK2.out.1 HK2.out.2).mono ?_
    rintro e w2 ⟨rfl, hb2⟩
    go_wp2
    go_ret2
    exact ⟨by rw [HR.out]; rfl, below_next0 hb1 hb2⟩
  · have h0n : (cd != 0) = true := by simpa using h0
    have H0 := Lib.hid h0; clear h0
    go_wp2
    go_ret2
    exact ⟨by rw [HR.out, if_neg H0.out]; rfl, hb1⟩

/-- what the first k sets cost -/
def costS (ts : List Blower) (ss : List Int) : Nat → Int
  | 0 => 0
  | k + 1 => costS ts ss k + stepT ts (if k = 0 then 0 else ss.getD (k - 1) 0) (ss.getD k 0)
def prevS (ss : List Int) (k : Nat) : Int := if k = 0 then 0 else ss.getD (k - 1) 0
theorem costS_succ {ts : List Blower} {ss : List Int} {k : Nat} (hk : k < ss.length) : costS ts ss (k + 1) = costS ts ss k + stepT ts (prevS ss k) ss[k] := by
  simp [costS, prevS, List.getD_eq_getElem?_getD, hk]
theorem prevS_succ {ss : List Int} {k : Nat} (hk : k < ss.length) : prevS ss (k + 1) = ss[k] := by simp [prevS, List.getD_eq_getElem?_getD, hk]
theorem prevS_bd {ss : List Int} (h : ∀ x ∈ ss, 0 ≤ x ∧ x ≤ 15) {k : Nat} (hk : k ≤ ss.length) : 0 ≤ prevS ss k ∧ prevS ss k ≤ 15 := by
  cases k with
  | zero => simp [prevS]
  | succ k => rw [prevS_succ (by omega)]; exact h _ (List.getElem_mem _)
theorem costS_bd {ts : List Blower} (h : blowersOk ts = true) (ss : List Int) : ∀ k : Nat, 0 ≤ costS ts ss k ∧ costS ts ss k ≤ 80000 * (k : Int)
  | 0 => by simp [costS]
  | k + 1 => by
    have ih := costS_bd h ss k
    have hb := stepT_bd h (if k = 0 then 0 else ss.getD (k - 1) 0) (ss.getD k 0)
    rw [costS]; omega
def costR (ts : List Blower) (ss : List Int) : Int × Int := if codeS ts ss = 0 then (costS ts ss ss.length, 0) else (0, codeS ts ss)

set_option maxHeartbeats 1000000 in
theorem implCostOfDay_any (v u : Value) (ts : List Blower) (ss : List Int) (w : World) (hv : SlBlower w v ts) (hu : SlI w u ss) :
    Calls Try.prog 35 #[v, u] w fun e w' => e = .returned (.tuple #[.int .i64 (costR ts ss).1, .int .i64 (costR ts ss).2]) ∧ Below w.heap.size w w' := by
  have HV := Lib.hid hv; have HU := Lib.hid hu
  obtain ⟨A, c, rfl, hla, _⟩ := hv.op
  obtain ⟨B, d, rfl, hlb, hcs⟩ := hu.op
  clear hv hu
  have HC := Lib.hid hcs; clear hcs
  have HR : Hid (costR ts ss = if codeS ts ss = 0 then (costS ts ss ss.length, 0) else (0, codeS ts ss)) := Lib.hid rfl
  have HK : Hid (codeS ts ss = 0 → blowersOk ts = true ∧ ss.length ≤ 24 ∧ ∀ x ∈ ss, 0 ≤ x ∧ x ≤ 15) := Lib.hid codeS_ok
  have HOR := Lib.hid (codeS_or ts ss)
  go_enter Try.func35, Try.ntmps35
  go_wp2_with fail
  refine (setsCode_any _ _ ts ss _ HV.out HU.out).mono ?_
  rintro e w1 ⟨rfl, hb1⟩
  generalize codeS ts ss = cd at HR HK HOR ⊢
  by_cases h0 : cd = 0
  · subst h0
    obtain ⟨hok, hl24, hall⟩ := HK.out rfl
    have HO := Lib.hid hok; have HA := Lib.hid hall
    clear hok hall
    have HB1 := Lib.hid hb1
    go_wp2
    go_loopw [7, 8, 10, 19] (fun sm bf cur i wr => ∃ k : Nat, k ≤ ss.length ∧ i = .int .i64 k ∧ sm = .int .i64 (costS ts ss k) ∧ bf = .int .i64 (prevS ss k) ∧ Below w.heap.size w wr) (fun _ _ _ i _ => ss.length - (intOf i).toNat)
    case atStart => exact ⟨0, Nat.zero_le _, rfl, rfl, rfl, hb1⟩
    case round =>
      clear hb1
      obtain ⟨k, hk, rfl, rfl, rfl, hb⟩ := hrel
      by_cases hlt : k < ss.length
      · obtain ⟨b, o, rfl, hbs, hc⟩ := HC.out k hlt
        have hcell := (hb.cell (p := ⟨b, o + k, none⟩) hbs).trans (hc k hlt)
        have hlti : (k : Int) < (ss.length : Int) := by omega
        have HS := Lib.hid (costS_succ (ts := ts) hlt); have HP := Lib.hid (prevS_succ hlt)
        have HX := Lib.hid (HA.out _ (List.getElem_mem hlt))
        have HQ := Lib.hid (prevS_bd HA.out hk)
        have hbd := costS_bd HO.out ss k
        obtain ⟨hbd1, hbd2⟩ := hbd
        generalize ss[k] = x at hcell HS HP HX
        have hsb := stepT_bd HO.out (prevS ss k) x
        obtain ⟨hsb1, hsb2⟩ := hsb
        clear hc
        go_wp2_with fail
        refine (hourCost_any _ ts _ _ _ (HV.out.ex hb) HO.out HX.out HQ.out).mono ?_
        rintro e w2 ⟨rfl, hb2⟩
        go_wp2
        go_roundw
        case rel => exact ⟨k + 1, by omega, by go_num, by rw [HS.out], by rw [HP.out], below_next hb hb.size hb2⟩
        case measure => simp [intOf]; omega
      · obtain rfl : k = ss.length := by omega
        go_wp2
        go_ret2
        exact ⟨by rw [HR.out]; rfl, hb⟩
  · have h0n : (cd != 0) = true := by simpa using h0
    have H0 := Lib.hid h0; clear h0
    go_wp2
    go_ret2
    exact ⟨by rw [HR.out, if_neg H0.out]; rfl, hb1⟩

theorem l11Cost_any (v u : Value) (ts : List Blower) (ss : List Int) (w : World) (hv : SlBlower w v ts) (hu : SlI w u ss) (hok : blowersOk ts = true) (hl24 : ss.length ≤ 24) (hall : ∀ x ∈ ss, 0 ≤ x ∧ x ≤ 15) :
    Calls Try.prog 73 #[v, u] w fun e w' => e = .returned (.int .i64 (costS ts ss ss.length)) ∧ w = w' := by
  have HV := Lib.hid hv
  obtain ⟨A, c, rfl, hla, _⟩ := hv.op
  obtain ⟨B, d, rfl, hlb, hcs⟩ := hu.op
  clear hv hu
  have HC := Lib.hid hcs; clear hcs
  have HO := Lib.hid hok; have HA := Lib.hid hall
  clear hok hall
  go_enter Try.func73, Try.ntmps73
  go_wp2
  go_loop [5, 6, 7] (fun sm bf i => ∃ k : Nat, k ≤ ss.length ∧ i = .int .i64 k ∧ sm = .int .i64 (costS ts ss k) ∧ bf = .int .i64 (prevS ss k)) (fun _ _ i => ss.length - (intOf i).toNat)
  case atStart => exact ⟨0, Nat.zero_le _, rfl, rfl, rfl⟩
  case round =>
    obtain ⟨k, hk, rfl, rfl, rfl⟩ := hrel
    by_cases hlt : k < ss.length
    · obtain ⟨b, o, rfl, hbs, hc⟩ := HC.out k hlt
      have hcell := hc k hlt
      have hlti : (k : Int) < (ss.length : Int) := by omega
      have HS := Lib.hid (costS_succ (ts := ts) hlt); have HP := Lib.hid (prevS_succ hlt)
      have HX := Lib.hid (HA.out _ (List.getElem_mem hlt))
      have HQ := Lib.hid (prevS_bd HA.out hk)
      have hbd := costS_bd HO.out ss k
      obtain ⟨hbd1, hbd2⟩ := hbd
      generalize ss[k] = x at hcell HS HP HX
      have hsb := stepT_bd HO.out (prevS ss k) x
      obtain ⟨hsb1, hsb2⟩ := hsb
      clear hc
      go_wp2_with fail
      refine (l11Step_any _ ts _ _ _ HV.out HO.out HX.out HQ.out).mono ?_
      rintro e w2 ⟨rfl, rfl⟩
      go_wp2
      go_round
      case rel => exact ⟨k + 1, by omega, by go_num, by rw [HS.out], by rw [HP.out]⟩
      case measure => simp [intOf]; omega
    · obtain rfl : k = ss.length := by omega
      go_wp2
      go_ret
      exact ⟨rfl, rfl⟩

theorem specCostOfDay_any (v u : Value) (ts : List Blower) (ss : List Int) (w : World) (hv : SlBlower w v ts) (hu : SlI w u ss) :
    Calls Try.prog 34 #[v, u] w fun e w' => e = .returned (.tuple #[.int .i64 (costR ts ss).1, .int .i64 (costR ts ss).2]) ∧ Below w.heap.size w w' := by
  have HV := Lib.hid hv; have HU := Lib.hid hu
  obtain ⟨A, c, rfl, hla, _⟩ := hv.op
  obtain ⟨B, d, rfl, hlb, _⟩ := hu.op
  clear hv hu
  have HR : Hid (costR ts ss = if codeS ts ss = 0 then (costS ts ss ss.length, 0) else (0, codeS ts ss)) := Lib.hid rfl
  have HK : Hid (codeS ts ss = 0 → blowersOk ts = true ∧ ss.length ≤ 24 ∧ ∀ x ∈ ss, 0 ≤ x ∧ x ≤ 15) := Lib.hid codeS_ok
  have HOR := Lib.hid (codeS_or ts ss)
  go_enter Try.func34, Try.ntmps34
  go_wp2_with fail
  refine (l11Sets_any _ _ ts ss _ HV.out HU.out).mono ?_
  rintro e w1 ⟨rfl, hb1⟩
  generalize codeS ts ss = cd at HR HK HOR ⊢
  by_cases h0 : cd = 0
  · subst h0
    obtain ⟨hok, hl24, hall⟩ := HK.out rfl
    have HO := Lib.hid hok; have HA := Lib.hid hall
    clear hok hall
    go_wp2_with fail
    refine (l11Cost_any _ _ ts ss _ (HV.out.ex hb1) (HU.out.ex hb1) HO.out hl24 HA.out).mono ?_
    rintro e w2 ⟨rfl, rfl⟩
    go_wp2
    go_ret2
    exact ⟨by rw [HR.out]; rfl, hb1⟩
  · have h0n : (cd != 0) = true := by simpa using h0
    have H0 := Lib.hid h0; clear h0
    go_wp2
    go_ret2
    exact ⟨by rw [HR.out, if_neg H0.out]; rfl, hb1⟩

end Go.Proofs.Ytjleabgoajoegaa
