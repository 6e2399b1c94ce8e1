/-
MeetsNeeds and CheapestHour of the program and of the reference, by their contracts. Condition: the slices read as lists.
-/
import Derived.Test.YtjleabgoajoegaaBlowC
namespace Go.Proofs.Ytjleabgoajoegaa
open Go.RowKit
set_option linter.unusedVariables false

/-- whether the first k sets have enough power -/
def meetS (ts : List Blower) (ns ss : List Int) (k : Nat) : Bool := (List.range k).all fun i => decide (ns.getD i 0 ≤ powT ts (ss.getD i 0))
theorem meetS_succ {ts : List Blower} {ns ss : List Int} {k : Nat} (h1 : k < ns.length) (h2 : k < ss.length) : meetS ts ns ss (k + 1) = (meetS ts ns ss k && decide (ns[k] ≤ powT ts ss[k])) := by
  simp [meetS, List.range_succ, List.getD_eq_getElem?_getD, h1, h2]
theorem meetS_bad {ts : List Blower} {ns ss : List Int} {k m : Nat} (h1 : k < ns.length) (h2 : k < ss.length) (hm : k < m) (h : powT ts ss[k] < ns[k]) : meetS ts ns ss m = false := by
  unfold meetS
  rw [List.all_eq_false]
  refine ⟨k, by simpa using hm, ?_⟩
  simp [List.getD_eq_getElem?_getD, h1, h2]; omega
def meetR (ts : List Blower) (ns ss : List Int) : Bool × Int :=
  if blowersOk ts && needsOk ns then (if decide (ss.length ≠ ns.length) || outB ss 0 (lastB ts.length) then (false, 2) else (meetS ts ns ss ss.length, 0)) else (false, 1)
theorem needsOk_at {ns : List Int} (h : needsOk ns = true) : ns.length ≤ 24 ∧ ∀ (k : Nat) (hk : k < ns.length), 0 ≤ ns[k] ∧ ns[k] ≤ 1000 := by
  simp only [needsOk, Bool.and_eq_true, List.all_eq_true, decide_eq_true_eq] at h
  exact ⟨h.2, fun k hk => inB_iff.1 (h.1 _ (List.getElem_mem hk))⟩

set_option maxHeartbeats 2000000 in
theorem implMeetsNeeds_any (v u x : Value) (ts : List Blower) (ns ss : List Int) (w : World) (hv : SlBlower w v ts) (hu : SlI w u ns) (hx : SlI w x ss) :
    Calls Try.prog 33 #[v, u, x] w fun e w' => e = .returned (.tuple #[.bool (meetR ts ns ss).1, .int .i64 (meetR ts ns ss).2]) ∧ Below w.heap.size w w' := by
  have HV := Lib.hid hv; have HU := Lib.hid hu; have HX := Lib.hid hx
  obtain ⟨A, c, rfl, hla, _⟩ := hv.op
  obtain ⟨B, d, rfl, hlb, hcn⟩ := hu.op
  obtain ⟨C, e, rfl, hlc, hcs⟩ := hx.op
  clear hv hu hx
  have HN := Lib.hid hcn; have HS := Lib.hid hcs; clear hcn hcs
  cases hok : blowersOk ts with
  | false =>
    have E : Hid (meetR ts ns ss = (false, 1)) := Lib.hid (by simp [meetR, hok])
    go_enter Try.func33, Try.ntmps33
    go_wp2_with fail
    refine (validBlowers_any _ ts _ HV.out).mono ?_
    rintro e w1 ⟨rfl, hb1⟩
    rw [hok]
    go_wp2
    go_ret2
    exact ⟨by rw [E.out]; rfl, hb1⟩
  | true =>
    have HO := Lib.hid hok
    have hl4 := (blowersOk_at hok).1
    cases hnk : needsOk ns with
    | false =>
      have E : Hid (meetR ts ns ss = (false, 1)) := Lib.hid (by simp [meetR, hok, hnk])
      go_enter Try.func33, Try.ntmps33
      go_wp2_with fail
      refine (validBlowers_any _ ts _ HV.out).mono ?_
      rintro e w1 ⟨rfl, hb1⟩
      rw [hok]
      go_wp2_with fail
      refine (validNeeds_any _ ns _ (HU.out.ex hb1)).mono ?_
      rintro e w2 ⟨rfl, hb2⟩
      rw [hnk]
      go_wp2
      go_ret2
      exact ⟨by rw [E.out]; rfl, below_next0 hb1 hb2⟩
    | true =>
      have HK := Lib.hid (needsOk_at hnk)
      by_cases hlen : ss.length = ns.length
      · have hln : ((ss.length : Int) != (ns.length : Int)) = false := by simp [hlen]
        have HL := Lib.hid hlen
        cases hout : outB ss 0 (lastB ts.length) with
        | true =>
          have E : Hid (meetR ts ns ss = (false, 2)) := Lib.hid (by simp [meetR, hok, hnk, hout])
          clear hlen
          go_enter Try.func33, Try.ntmps33
          go_wp2_with fail
          refine (validBlowers_any _ ts _ HV.out).mono ?_
          rintro e w1 ⟨rfl, hb1⟩
          rw [hok]
          go_wp2_with fail
          refine (validNeeds_any _ ns _ (HU.out.ex hb1)).mono ?_
          rintro e w2 ⟨rfl, hb2⟩
          rw [hnk]
          replace hb2 := below_next0 hb1 hb2
          go_wp2_with fail
          refine (lastSet_any _ _ _ _ hl4).mono ?_
          rintro e w3 ⟨rfl, rfl⟩
          go_wp2_with fail
          refine (outside_any _ ss _ _ _ (HX.out.ex hb2)).mono ?_
          rintro e w3 ⟨rfl, hb3⟩
          rw [hout]
          go_wp2
          go_ret2
          exact ⟨by rw [E.out]; rfl, below_next0 hb2 hb3⟩
        | false =>
          have E : Hid (meetR ts ns ss = (meetS ts ns ss ss.length, 0)) := Lib.hid (by simp [meetR, hok, hnk, hout, hlen])
          have HA : Hid (∀ y ∈ ss, 0 ≤ y ∧ y ≤ 15) := Lib.hid fun y hy => by
            have h1 := outB_false.1 hout y hy; have h2 := lastB_le hl4; omega
          clear hlen
          go_enter Try.func33, Try.ntmps33
          go_wp2_with fail
          refine (validBlowers_any _ ts _ HV.out).mono ?_
          rintro e w1 ⟨rfl, hb1⟩
          rw [hok]
          go_wp2_with fail
          refine (validNeeds_any _ ns _ (HU.out.ex hb1)).mono ?_
          rintro e w2 ⟨rfl, hb2⟩
          rw [hnk]
          replace hb2 := below_next0 hb1 hb2
          go_wp2_with fail
          refine (lastSet_any _ _ _ _ hl4).mono ?_
          rintro e w3 ⟨rfl, rfl⟩
          go_wp2_with fail
          refine (outside_any _ ss _ _ _ (HX.out.ex hb2)).mono ?_
          rintro e w3 ⟨rfl, hb3⟩
          rw [hout]
          replace hb3 := below_next0 hb2 hb3
          clear hb1 hb2 hok hnk hout
          go_wp2
          go_loopw [8, 9, 33] (fun hi cur i wr => ∃ k : Nat, k ≤ ss.length ∧ i = .int .i64 k ∧ Hid (meetS ts ns ss k = true) ∧ Below w.heap.size w wr) (fun _ _ i _ => ss.length - (intOf i).toNat)
          case atStart => exact ⟨0, Nat.zero_le _, rfl, rfl, hb3⟩
          case round =>
            clear hb3
            obtain ⟨k, hk, rfl, hmk, hb⟩ := hrel
            by_cases hlt : k < ss.length
            · have hlt2 : k < ns.length := by have := HL.out; omega
              obtain ⟨b, o, rfl, hbs, hc⟩ := HS.out k hlt
              obtain ⟨b2, o2, rfl, hbs2, hc2⟩ := HN.out k hlt2
              have hcell := (hb.cell (p := ⟨b, o + k, none⟩) hbs).trans (hc k hlt)
              have hcell2 := cell_plus ((hb.cell (p := ⟨b2, o2 + k, none⟩) hbs2).trans (hc2 k hlt2))
              have hlti : (k : Int) < (ss.length : Int) := by omega
              have hlti2 : (k : Int) < (ns.length : Int) := by omega
              have HT := Lib.hid (meetS_succ (ts := ts) hlt2 hlt)
              have HB : Hid (powT ts ss[k] < ns[k] → meetS ts ns ss ss.length = false) := Lib.hid (meetS_bad hlt2 hlt hlt)
              have HY := Lib.hid (HA.out _ (List.getElem_mem hlt))
              generalize ss[k] = s at hcell HT HB HY
              generalize ns[k] = n at hcell2 HT HB
              have HE := Lib.hid (fun W (hW : Below wr.heap.size wr W) => powerOf_any _ ts s W ((HV.out.ex hb).ex hW) HO.out HY.out)
              clear hc hc2
              have HM : Hid (powT ts s < n ∨ decide (n ≤ powT ts s) = true) := Lib.hid (by simp; omega)
              by_cases hm : powT ts s < n
              · go_wp2
                refine wp_region_plus (by kernel_rfl) (by kernel_rfl) ?_
                repeat (go_big_quiet_step (((go_at_call 64; exact plus_below (HE.out _ (below_plus _ _))))))
                refine wpQuiet_nil ?_
                intro wq hwq
                replace hwq := below_of_plus hwq
                have hq := below_next hb hb.size hwq
                go_wp2
                go_ret2
                exact ⟨by rw [E.out, HB.out hm]; rfl, hq⟩
              · go_wp2
                refine wp_region_plus (by kernel_rfl) (by kernel_rfl) ?_
                repeat (go_big_quiet_step (((go_at_call 64; exact plus_below (HE.out _ (below_plus _ _))))))
                refine wpQuiet_nil ?_
                intro wq hwq
                replace hwq := below_of_plus hwq
                have hq := below_next hb hb.size hwq
                go_wp2
                go_roundw
                case rel => exact ⟨k + 1, by omega, by go_num, by rw [HT.out, hmk.out, HM.out.resolve_left (by omega)]; rfl, hq⟩
                case measure => simp [intOf]; omega
            · obtain rfl : k = ss.length := by omega
              go_wp2
              go_ret2
              exact ⟨by rw [E.out, hmk.out]; rfl, hb⟩
      · have hln : ((ss.length : Int) != (ns.length : Int)) = true := by simp; omega
        have E : Hid (meetR ts ns ss = (false, 2)) := Lib.hid (by simp [meetR, hok, hnk, hlen])
        clear hlen
        go_enter Try.func33, Try.ntmps33
        go_wp2_with fail
        refine (validBlowers_any _ ts _ HV.out).mono ?_
        rintro e w1 ⟨rfl, hb1⟩
        rw [hok]
        go_wp2_with fail
        refine (validNeeds_any _ ns _ (HU.out.ex hb1)).mono ?_
        rintro e w2 ⟨rfl, hb2⟩
        rw [hnk]
        go_wp2
        go_ret2
        exact ⟨by rw [E.out]; rfl, below_next0 hb1 hb2⟩

set_option maxHeartbeats 2000000 in
theorem specMeetsNeeds_any (v u x : Value) (ts : List Blower) (ns ss : List Int) (w : World) (hv : SlBlower w v ts) (hu : SlI w u ns) (hx : SlI w x ss) :
    Calls Try.prog 32 #[v, u, x] w fun e w' => e = .returned (.tuple #[.bool (meetR ts ns ss).1, .int .i64 (meetR ts ns ss).2]) ∧ Below w.heap.size w w' := by
  have HV := Lib.hid hv; have HU := Lib.hid hu; have HX := Lib.hid hx
  obtain ⟨A, c, rfl, hla, _⟩ := hv.op
  obtain ⟨B, d, rfl, hlb, hcn⟩ := hu.op
  obtain ⟨C, e, rfl, hlc, hcs⟩ := hx.op
  clear hv hu hx
  have HN := Lib.hid hcn; have HS := Lib.hid hcs; clear hcn hcs
  cases hok : blowersOk ts with
  | false =>
    have E : Hid (meetR ts ns ss = (false, 1)) := Lib.hid (by simp [meetR, hok])
    go_enter Try.func32, Try.ntmps32
    go_wp2_with fail
    refine (l11Ok_any _ ts _ HV.out).mono ?_
    rintro e w1 ⟨rfl, hb1⟩
    rw [hok]
    go_wp2
    go_ret2
    exact ⟨by rw [E.out]; rfl, hb1⟩
  | true =>
    have HO := Lib.hid hok
    have hl4 := (blowersOk_at hok).1
    cases hnk : needsOk ns with
    | false =>
      have E : Hid (meetR ts ns ss = (false, 1)) := Lib.hid (by simp [meetR, hok, hnk])
      go_enter Try.func32, Try.ntmps32
      go_wp2_with fail
      refine (l11Ok_any _ ts _ HV.out).mono ?_
      rintro e w1 ⟨rfl, hb1⟩
      rw [hok]
      go_wp2_with fail
      refine (l11Needs_any _ ns _ (HU.out.ex hb1)).mono ?_
      rintro e w2 ⟨rfl, rfl⟩
      rw [hnk]
      go_wp2
      go_ret2
      exact ⟨by rw [E.out]; rfl, hb1⟩
    | true =>
      have HK := Lib.hid (needsOk_at hnk)
      have hn24 := HK.out.1
      have HR : Hid (meetR ts ns ss = if codeS ts ss = 0 then (if ss.length = ns.length then (meetS ts ns ss ss.length, 0) else (false, 2)) else (false, codeS ts ss)) := Lib.hid <| by
        unfold meetR codeS
        by_cases hlen : ss.length = ns.length
        · have h24 : ¬ 24 < ss.length := by omega
          have h25 : ¬ 24 < ns.length := by omega
          cases outB ss 0 (lastB ts.length) <;> simp [hok, hnk, hlen, h25]
        · by_cases h24 : 24 < ss.length
          · simp [hok, hnk, hlen, h24]
          · cases outB ss 0 (lastB ts.length) <;> simp [hok, hnk, hlen, h24]
      have HC : Hid (codeS ts ss = 0 → blowersOk ts = true ∧ ss.length ≤ 24 ∧ ∀ x ∈ ss, 0 ≤ x ∧ x ≤ 15) := Lib.hid codeS_ok
      have HOR := Lib.hid (codeS_or ts ss)
      go_enter Try.func32, Try.ntmps32
      go_wp2_with fail
      refine (l11Ok_any _ ts _ HV.out).mono ?_
      rintro e w1 ⟨rfl, hb1⟩
      rw [hok]
      go_wp2_with fail
      refine (l11Needs_any _ ns _ (HU.out.ex hb1)).mono ?_
      rintro e w2 ⟨rfl, rfl⟩
      rw [hnk]
      go_wp2_with fail
      refine (l11Sets_any _ _ ts ss _ (HV.out.ex hb1) (HX.out.ex hb1)).mono ?_
      rintro e w2 ⟨rfl, hb2⟩
      replace hb2 := below_next0 hb1 hb2
      clear hb1 hok hnk
      generalize codeS ts ss = cd at HR HC HOR ⊢
      by_cases h0 : cd = 0
      · subst h0
        obtain ⟨_, hl24, hall⟩ := HC.out rfl
        have HA := Lib.hid hall; clear hall
        by_cases hlen : ss.length = ns.length
        · have hln : ((ss.length : Int) != (ns.length : Int)) = false := by simp [hlen]
          have HL := Lib.hid hlen
          have E : Hid (meetR ts ns ss = (meetS ts ns ss ss.length, 0)) := Lib.hid (by rw [HR.out]; simp [hlen])
          clear hlen
          go_wp2
          go_loopw [9] (fun i wr => ∃ k : Nat, k ≤ ss.length ∧ i = .int .i64 k ∧ Hid (meetS ts ns ss k = true) ∧ Below w.heap.size w wr) (fun i _ => ss.length - (intOf i).toNat)
          case atStart => exact ⟨0, Nat.zero_le _, rfl, rfl, hb2⟩
          case round =>
            clear hb2
            obtain ⟨k, hk, rfl, hmk, hb⟩ := hrel
            by_cases hlt : k < ss.length
            · have hlt2 : k < ns.length := by have := HL.out; omega
              obtain ⟨b, o, rfl, hbs, hc⟩ := HS.out k hlt
              obtain ⟨b2, o2, rfl, hbs2, hc2⟩ := HN.out k hlt2
              have hcell := cell_plus ((hb.cell (p := ⟨b, o + k, none⟩) hbs).trans (hc k hlt))
              have hcell2 := cell_plus ((hb.cell (p := ⟨b2, o2 + k, none⟩) hbs2).trans (hc2 k hlt2))
              have hlti : (k : Int) < (ss.length : Int) := by omega
              have hlti2 : (k : Int) < (ns.length : Int) := by omega
              have HT := Lib.hid (meetS_succ (ts := ts) hlt2 hlt)
              have HB : Hid (powT ts ss[k] < ns[k] → meetS ts ns ss ss.length = false) := Lib.hid (meetS_bad hlt2 hlt hlt)
              have HY := Lib.hid (HA.out _ (List.getElem_mem hlt))
              generalize ss[k] = s at hcell HT HB HY
              generalize ns[k] = n at hcell2 HT HB
              have HE := Lib.hid (fun W (hW : Below wr.heap.size wr W) => l11Power_any _ ts s W ((HV.out.ex hb).ex hW) HO.out HY.out)
              clear hc hc2
              have HM : Hid (powT ts s < n ∨ decide (n ≤ powT ts s) = true) := Lib.hid (by simp; omega)
              by_cases hm : powT ts s < n
              · go_wp2
                refine wp_region_plus (by kernel_rfl) (by kernel_rfl) ?_
                repeat (go_big_quiet_step (((go_at_call 62; exact plus_same (HE.out _ (below_plus _ _))))))
                refine wpQuiet_nil ?_
                intro wq hwq
                replace hwq := below_of_plus hwq
                have hq := below_next hb hb.size hwq
                go_wp2
                go_ret2
                exact ⟨by rw [E.out, HB.out hm]; rfl, hq⟩
              · go_wp2
                refine wp_region_plus (by kernel_rfl) (by kernel_rfl) ?_
                repeat (go_big_quiet_step (((go_at_call 62; exact plus_same (HE.out _ (below_plus _ _))))))
                refine wpQuiet_nil ?_
                intro wq hwq
                replace hwq := below_of_plus hwq
                have hq := below_next hb hb.size hwq
                go_wp2
                go_roundw
                case rel => exact ⟨k + 1, by omega, by go_num, by rw [HT.out, hmk.out, HM.out.resolve_left (by omega)]; rfl, hq⟩
                case measure => simp [intOf]; omega
            · obtain rfl : k = ss.length := by omega
              go_wp2
              go_ret2
              exact ⟨by rw [E.out, hmk.out]; rfl, hb⟩
        · have hln : ((ss.length : Int) != (ns.length : Int)) = true := by simp; omega
          have E : Hid (meetR ts ns ss = (false, 2)) := Lib.hid (by rw [HR.out]; simp [hlen])
          clear hlen
          go_wp2
          go_ret2
          exact ⟨by rw [E.out]; rfl, hb2⟩
      · have h0n : (cd != 0) = true := by simpa using h0
        have h0e : (cd == 0) = false := by simpa using h0
        have E : Hid (meetR ts ns ss = (false, cd)) := Lib.hid (by rw [HR.out, if_neg h0])
        clear h0
        go_wp2
        go_ret2
        exact ⟨by rw [E.out]; rfl, hb2⟩

/-- the cheapest of the first k sets that are enough; -1 if there is none -/
def bestH (ts : List Blower) (need : Int) : Nat → Int
  | 0 => -1
  | k + 1 => if need ≤ powT ts k ∧ (bestH ts need k < 0 ∨ stepT ts 0 k < stepT ts 0 (bestH ts need k)) then k else bestH ts need k
theorem bestH_bd (ts : List Blower) (need : Int) : ∀ k : Nat, bestH ts need k = -1 ∨ (0 ≤ bestH ts need k ∧ bestH ts need k < (k : Int))
  | 0 => .inl rfl
  | k + 1 => by
    have ih := bestH_bd ts need k
    unfold bestH; split <;> omega
theorem bestH_no {ts : List Blower} {need : Int} {k : Nat} (h : ¬ (need ≤ powT ts k ∧ (bestH ts need k < 0 ∨ stepT ts 0 k < stepT ts 0 (bestH ts need k)))) : bestH ts need (k + 1) = bestH ts need k := by rw [bestH, if_neg h]
theorem bestH_yes {ts : List Blower} {need : Int} {k : Nat} (h : need ≤ powT ts k ∧ (bestH ts need k < 0 ∨ stepT ts 0 k < stepT ts 0 (bestH ts need k))) : bestH ts need (k + 1) = k := by rw [bestH, if_pos h]
def chR (ts : List Blower) (need : Int) : Int × Int :=
  if blowersOk ts then (if inB need 0 1000 then (if bestH ts need (2 ^ ts.length) < 0 then (0, 3) else (bestH ts need (2 ^ ts.length), 0)) else (0, 2)) else (0, 1)
theorem two_pow {n : Nat} (h : n ≤ 4) : wrap64 (2 ^ n) = ((2 ^ n : Nat) : Int) ∧ 1 ≤ 2 ^ n ∧ 2 ^ n ≤ 16 ∧ lastB n = ((2 ^ n : Nat) : Int) - 1 := by
  have : n = 0 ∨ n = 1 ∨ n = 2 ∨ n = 3 ∨ n = 4 := by omega
  rcases this with rfl | rfl | rfl | rfl | rfl <;> decide +kernel

set_option maxHeartbeats 2000000 in
theorem specCheapestHour_any (v : Value) (ts : List Blower) (need : Int) (w : World) (hv : SlBlower w v ts) (_ : -9223372036854775808 ≤ need ∧ need ≤ 9223372036854775807) :
    Calls Try.prog 26 #[v, .int .i64 need] w fun e w' => e = .returned (.tuple #[.int .i64 (chR ts need).1, .int .i64 (chR ts need).2]) ∧ Below w.heap.size w w' := by
  have HV := Lib.hid hv
  obtain ⟨A, c, rfl, hla, _⟩ := hv.op
  clear hv
  cases hok : blowersOk ts with
  | false =>
    have E : Hid (chR ts need = (0, 1)) := Lib.hid (by simp [chR, hok])
    go_enter Try.func26, Try.ntmps26
    go_wp2_with fail
    refine (l11Ok_any _ ts _ HV.out).mono ?_
    rintro e w1 ⟨rfl, hb1⟩
    rw [hok]
    go_wp2
    go_ret2
    exact ⟨by rw [E.out]; rfl, hb1⟩
  | true =>
    have HO := Lib.hid hok
    have hl4 := (blowersOk_at hok).1
    cases hnk : inB need 0 1000 with
    | false =>
      have E : Hid (chR ts need = (0, 2)) := Lib.hid (by simp [chR, hok, hnk])
      go_enter Try.func26, Try.ntmps26
      go_wp2_with fail
      refine (l11Ok_any _ ts _ HV.out).mono ?_
      rintro e w1 ⟨rfl, hb1⟩
      rw [hok]
      go_wp2_with fail
      refine (l00In_any _ _ _ _).mono ?_
      rintro e w2 ⟨rfl, rfl⟩
      rw [hnk]
      go_wp2
      go_ret2
      exact ⟨by rw [E.out]; rfl, hb1⟩
    | true =>
      have E : Hid (chR ts need = if bestH ts need (2 ^ ts.length) < 0 then (0, 3) else (bestH ts need (2 ^ ts.length), 0)) := Lib.hid (by simp [chR, hok, hnk])
      obtain ⟨hp1, hp2, hp3, _⟩ := two_pow hl4
      have HP := Lib.hid hp1
      go_enter Try.func26, Try.ntmps26
      go_wp2_with fail
      refine (l11Ok_any _ ts _ HV.out).mono ?_
      rintro e w1 ⟨rfl, hb1⟩
      rw [hok]
      go_wp2_with fail
      refine (l00In_any _ _ _ _).mono ?_
      rintro e w2 ⟨rfl, rfl⟩
      rw [hnk]
      clear hok hnk hp1
      generalize (2 ^ ts.length : Nat) = N at HP hp2 hp3 E
      have hwp : wrap64 (2 ^ ts.length) = (N : Int) := HP.out
      have HSL := Lib.hid (HV.out.ex hb1)
      go_wp2
      go_loopw [6, 7] (fun bs i wr => ∃ k : Nat, k ≤ N ∧ i = .int .i64 k ∧ bs = .int .i64 (bestH ts need k) ∧ w1 = wr) (fun _ i _ => N - (intOf i).toNat)
      case atStart => exact ⟨0, Nat.zero_le _, rfl, rfl, rfl⟩
      case round =>
        obtain ⟨k, hk, rfl, rfl, rfl⟩ := hrel
        have hbd := bestH_bd ts need k
        by_cases hlt : k < N
        · have hlti : (k : Int) < (N : Int) := by omega
          have HY := Lib.hid (bestH_yes (ts := ts) (need := need) (k := k)); have HNo := Lib.hid (bestH_no (ts := ts) (need := need) (k := k))
          have hbd1 : -1 ≤ bestH ts need k := by omega
          have hbd2 : bestH ts need k < (k : Int) := by omega
          clear hbd
          generalize bestH ts need k = bs at HY HNo hbd1 hbd2
          by_cases hpw : need ≤ powT ts k
          · by_cases hneg : bs < 0
            · have HE := Lib.hid (HY.out ⟨hpw, .inl hneg⟩)
              go_wp2_with fail
              refine (l11Power_any _ ts _ _ HSL.out HO.out (by omega)).mono ?_
              rintro e w2 ⟨rfl, rfl⟩
              go_wp2
              go_roundw
              case rel => exact ⟨k + 1, by omega, by go_num, by rw [HE.out], by first | trivial | rfl⟩
              case measure => simp [intOf]; omega
            · by_cases hst : stepT ts 0 k < stepT ts 0 bs
              · have HE := Lib.hid (HY.out ⟨hpw, .inr hst⟩)
                go_wp2_with fail
                refine (l11Power_any _ ts _ _ HSL.out HO.out (by omega)).mono ?_
                rintro e w2 ⟨rfl, rfl⟩
                go_wp2_with fail
                refine (l11Step_any _ ts _ _ _ HSL.out HO.out (by omega) (by omega)).mono ?_
                rintro e w2 ⟨rfl, rfl⟩
                go_wp2_with fail
                refine (l11Step_any _ ts _ _ _ HSL.out HO.out (by omega) (by omega)).mono ?_
                rintro e w2 ⟨rfl, rfl⟩
                go_wp2
                go_roundw
                case rel => exact ⟨k + 1, by omega, by go_num, by rw [HE.out], by first | trivial | rfl⟩
                case measure => simp [intOf]; omega
              · have HE := Lib.hid (HNo.out (by omega))
                go_wp2_with fail
                refine (l11Power_any _ ts _ _ HSL.out HO.out (by omega)).mono ?_
                rintro e w2 ⟨rfl, rfl⟩
                go_wp2_with fail
                refine (l11Step_any _ ts _ _ _ HSL.out HO.out (by omega) (by omega)).mono ?_
                rintro e w2 ⟨rfl, rfl⟩
                go_wp2_with fail
                refine (l11Step_any _ ts _ _ _ HSL.out HO.out (by omega) (by omega)).mono ?_
                rintro e w2 ⟨rfl, rfl⟩
                go_wp2
                go_roundw
                case rel => exact ⟨k + 1, by omega, by go_num, by rw [HE.out], by first | trivial | rfl⟩
                case measure => simp [intOf]; omega
          · have HE := Lib.hid (HNo.out (by omega))
            go_wp2_with fail
            refine (l11Power_any _ ts _ _ HSL.out HO.out (by omega)).mono ?_
            rintro e w2 ⟨rfl, rfl⟩
            go_wp2
            go_roundw
            case rel => exact ⟨k + 1, by omega, by go_num, by rw [HE.out], by first | trivial | rfl⟩
            case measure => simp [intOf]; omega
        · obtain rfl : k = N := by omega
          have HB1 := Lib.hid hb1
          clear hb1 hbd
          by_cases hneg : bestH ts need k < 0
          · go_wp2
            go_ret2
            exact ⟨by rw [E.out, if_pos hneg]; rfl, HB1.out⟩
          · go_wp2
            go_ret2
            exact ⟨by rw [E.out, if_neg (by omega)]; rfl, HB1.out⟩

set_option maxHeartbeats 2000000 in
theorem implCheapestHour_any (v : Value) (ts : List Blower) (need : Int) (w : World) (hv : SlBlower w v ts) (_ : -9223372036854775808 ≤ need ∧ need ≤ 9223372036854775807) :
    Calls Try.prog 27 #[v, .int .i64 need] w fun e w' => e = .returned (.tuple #[.int .i64 (chR ts need).1, .int .i64 (chR ts need).2]) ∧ Below w.heap.size w w' := by
  have HV := Lib.hid hv
  obtain ⟨A, c, rfl, hla, _⟩ := hv.op
  clear hv
  cases hok : blowersOk ts with
  | false =>
    have E : Hid (chR ts need = (0, 1)) := Lib.hid (by simp [chR, hok])
    go_enter Try.func27, Try.ntmps27
    go_wp2_with fail
    refine (validBlowers_any _ ts _ HV.out).mono ?_
    rintro e w1 ⟨rfl, hb1⟩
    rw [hok]
    go_wp2
    go_ret2
    exact ⟨by rw [E.out]; rfl, hb1⟩
  | true =>
    have HO := Lib.hid hok
    have hl4 := (blowersOk_at hok).1
    cases hnk : inB need 0 1000 with
    | false =>
      have E : Hid (chR ts need = (0, 2)) := Lib.hid (by simp [chR, hok, hnk])
      go_enter Try.func27, Try.ntmps27
      go_wp2_with fail
      refine (validBlowers_any _ ts _ HV.out).mono ?_
      rintro e w1 ⟨rfl, hb1⟩
      rw [hok]
      go_wp2_with fail
      refine (within_any _ _ _ _).mono ?_
      rintro e w2 ⟨rfl, rfl⟩
      rw [hnk]
      go_wp2
      go_ret2
      exact ⟨by rw [E.out]; rfl, hb1⟩
    | true =>
      have E : Hid (chR ts need = if bestH ts need (2 ^ ts.length) < 0 then (0, 3) else (bestH ts need (2 ^ ts.length), 0)) := Lib.hid (by simp [chR, hok, hnk])
      obtain ⟨_, hp2, hp3, hp4⟩ := two_pow hl4
      have HP := Lib.hid hp4
      go_enter Try.func27, Try.ntmps27
      go_wp2_with fail
      refine (validBlowers_any _ ts _ HV.out).mono ?_
      rintro e w1 ⟨rfl, hb1⟩
      rw [hok]
      go_wp2_with fail
      refine (within_any _ _ _ _).mono ?_
      rintro e w2 ⟨rfl, rfl⟩
      rw [hnk]
      clear hok hnk hp4
      generalize (2 ^ ts.length : Nat) = N at HP hp2 hp3 E
      go_wp2
      go_loopw [6, 7, 8, 9] (fun bs ls i own wr => ∃ k : Nat, k ≤ N ∧ i = .int .i64 k ∧ bs = .int .i64 (if bestH ts need k < 0 then 0 else bestH ts need k) ∧ ls = .int .i64 (if bestH ts need k < 0 then -1 else stepT ts 0 (bestH ts need k)) ∧ Below w.heap.size w wr) (fun _ _ i _ _ => N - (intOf i).toNat)
      case atStart => exact ⟨0, Nat.zero_le _, rfl, rfl, rfl, hb1⟩
      case round =>
        clear hb1
        obtain ⟨k, hk, rfl, rfl, rfl, hb⟩ := hrel
        have hbd := bestH_bd ts need k
        have HSL := Lib.hid (HV.out.ex hb)
        have hbs := stepT_bd HO.out 0 (bestH ts need k)
        obtain ⟨hbs1, hbs2⟩ := hbs
        by_cases hlt : k < N
        · have hlti : (k : Int) ≤ (N : Int) - 1 := by omega
          have HY := Lib.hid (bestH_yes (ts := ts) (need := need) (k := k)); have HNo := Lib.hid (bestH_no (ts := ts) (need := need) (k := k))
          have hbd1 : -1 ≤ bestH ts need k := by omega
          have hbd2 : bestH ts need k < (k : Int) := by omega
          clear hbd
          generalize bestH ts need k = bs at HY HNo hbd1 hbd2 hbs1 hbs2
          have hok2 := stepT_bd HO.out 0 k
          obtain ⟨hk1, hk2⟩ := hok2
          by_cases hpw : need ≤ powT ts k
          · by_cases hneg : bs < 0
            · have HE := Lib.hid (HY.out ⟨hpw, .inl hneg⟩)
              rw [if_pos hneg, if_pos hneg]
              go_wp2_with fail
              refine (lastSet_any _ _ _ _ hl4).mono ?_
              rintro e w2 ⟨rfl, rfl⟩
              rw [HP.out]
              go_wp2_with fail
              refine (powerOf_any _ ts _ _ HSL.out HO.out (by omega)).mono ?_
              rintro e w2 ⟨rfl, hb2⟩
              go_wp2_with fail
              refine (hourCost_any _ ts _ _ _ (HSL.out.ex hb2) HO.out (by omega) (by omega)).mono ?_
              rintro e w3 ⟨rfl, hb3⟩
              replace hb3 := below_next (below_next hb hb.size hb2) (by have := hb.size; have := hb2.size; omega) hb3
              go_wp2
              go_roundw
              case rel => exact ⟨k + 1, by omega, by go_num, by rw [HE.out, if_neg (by omega)], by rw [HE.out, if_neg (by omega)], hb3⟩
              case measure => simp [intOf]; omega
            · rw [if_neg hneg, if_neg hneg]
              by_cases hst : stepT ts 0 k < stepT ts 0 bs
              · have HE := Lib.hid (HY.out ⟨hpw, .inr hst⟩)
                go_wp2_with fail
                refine (lastSet_any _ _ _ _ hl4).mono ?_
                rintro e w2 ⟨rfl, rfl⟩
                rw [HP.out]
                go_wp2_with fail
                refine (powerOf_any _ ts _ _ HSL.out HO.out (by omega)).mono ?_
                rintro e w2 ⟨rfl, hb2⟩
                go_wp2_with fail
                refine (hourCost_any _ ts _ _ _ (HSL.out.ex hb2) HO.out (by omega) (by omega)).mono ?_
                rintro e w3 ⟨rfl, hb3⟩
                replace hb3 := below_next (below_next hb hb.size hb2) (by have := hb.size; have := hb2.size; omega) hb3
                go_wp2
                go_roundw
                case rel => exact ⟨k + 1, by omega, by go_num, by rw [HE.out, if_neg (by omega)], by rw [HE.out, if_neg (by omega)], hb3⟩
                case measure => simp [intOf]; omega
              · have HE := Lib.hid (HNo.out (by omega))
                go_wp2_with fail
                refine (lastSet_any _ _ _ _ hl4).mono ?_
                rintro e w2 ⟨rfl, rfl⟩
                rw [HP.out]
                go_wp2_with fail
                refine (powerOf_any _ ts _ _ HSL.out HO.out (by omega)).mono ?_
                rintro e w2 ⟨rfl, hb2⟩
                go_wp2_with fail
                refine (hourCost_any _ ts _ _ _ (HSL.out.ex hb2) HO.out (by omega) (by omega)).mono ?_
                rintro e w3 ⟨rfl, hb3⟩
                replace hb3 := below_next (below_next hb hb.size hb2) (by have := hb.size; have := hb2.size; omega) hb3
                go_wp2
                go_roundw
                case rel => exact ⟨k + 1, by omega, by go_num, by rw [HE.out, if_neg (by omega)], by rw [HE.out, if_neg (by omega)], hb3⟩
                case measure => simp [intOf]; omega
          · have HE := Lib.hid (HNo.out (by omega))
            generalize hz1 : (if bs < 0 then 0 else bs) = z1
            generalize hz2 : (if bs < 0 then -1 else stepT ts 0 bs) = z2
            have HZ1 := Lib.hid hz1; have HZ2 := Lib.hid hz2; clear hz1 hz2
            go_wp2_with fail
            refine (lastSet_any _ _ _ _ hl4).mono ?_
            rintro e w2 ⟨rfl, rfl⟩
            rw [HP.out]
            go_wp2_with fail
            refine (powerOf_any _ ts _ _ HSL.out HO.out (by omega)).mono ?_
            rintro e w2 ⟨rfl, hb2⟩
            go_wp2
            go_roundw
            case rel => exact ⟨k + 1, by omega, by go_num, by rw [HE.out, HZ1.out], by rw [HE.out, HZ2.out], below_next hb hb.size hb2⟩
            case measure => simp [intOf]; omega
        · obtain rfl : k = N := by omega
          clear hbd
          by_cases hneg : bestH ts need k < 0
          · rw [if_pos hneg, if_pos hneg]
            go_wp2_with fail
            refine (lastSet_any _ _ _ _ hl4).mono ?_
            rintro e w2 ⟨rfl, rfl⟩
            rw [HP.out]
            go_wp2
            go_ret2
            exact ⟨by rw [E.out, if_pos hneg]; rfl, hb⟩
          · rw [if_neg hneg, if_neg hneg]
            go_wp2_with fail
            refine (lastSet_any _ _ _ _ hl4).mono ?_
            rintro e w2 ⟨rfl, rfl⟩
            rw [HP.out]
            go_wp2
            go_ret2
            exact ⟨by rw [E.out, if_neg (by omega)]; rfl, hb⟩

end Go.Proofs.Ytjleabgoajoegaa
