/-
StartsOfBlower, HoursOfBlower and LongestRun of the program and of the reference, by their contracts. Condition: the slices read as lists.
-/
import Derived.Test.YtjleabgoajoegaaBlowE
namespace Go.Proofs.Ytjleabgoajoegaa
open Go.RowKit
set_option linter.unusedVariables false

theorem l11One_any (v u : Value) (ts : List Blower) (ss : List Int) (kb : Int) (w : World) (hv : SlBlower w v ts) (hu : SlI w u ss) :
    Calls Try.prog 69 #[v, u, .int .i64 kb] w fun e w' => e = .returned (.int .i64 (codeO ts ss kb)) ∧ Below w.heap.size w w' := by
  have HV := Lib.hid hv; have HU := Lib.hid hu
  obtain ⟨A, c, rfl, hla, _⟩ := hv.op
  obtain ⟨B, d, rfl, hlb, _⟩ := hu.op
  clear hv hu
  have HCO : Hid (codeO ts ss kb = if codeS ts ss = 0 then (if inB kb 0 ((ts.length : Int) - 1) then 0 else 2) else codeS ts ss) := Lib.hid rfl
  have HOR := Lib.hid (codeS_or ts ss)
  go_enter Try.func69, Try.ntmps69
  go_wp2_with fail
  refine (l11Sets_any _ _ ts ss _ HV.out HU.out).mono ?_
  rintro e w1 ⟨rfl, hb1⟩
  generalize codeS ts ss = cd at HCO HOR ⊢
  by_cases h0 : cd = 0
  · subst h0
    cases hin : inB kb 0 ((ts.length : Int) - 1)
    all_goals
      go_wp2_with fail
      refine (l00In_any _ _ _ _).mono ?_
      rintro e w2 ⟨rfl, rfl⟩
      rw [hin]
      go_wp2
      go_ret
      exact ⟨ret_int (by rw [HCO.out]; simp [hin]), hb1⟩
  · have h0n : (cd == 0) = false := by simpa using h0
    have H0 := Lib.hid h0; clear h0
    go_wp2
    go_ret
    exact ⟨ret_int (by rw [HCO.out, if_neg H0.out]), hb1⟩

theorem codeO_ok {ts : List Blower} {ss : List Int} {kb : Int} (h : codeO ts ss kb = 0) : ss.length ≤ 24 ∧ (∀ x ∈ ss, 0 ≤ x ∧ x ≤ 15) ∧ 0 ≤ kb ∧ kb ≤ 3 := by
  unfold codeO at h
  by_cases h0 : codeS ts ss = 0
  · rw [if_pos h0] at h
    obtain ⟨h1, h2, h3⟩ := codeS_ok h0
    have h4 := (blowersOk_at h1).1
    split at h
    · rename_i hin; have := inB_iff.1 hin; exact ⟨h2, h3, by omega, by omega⟩
    · cases h
  · rw [if_neg h0] at h; exact absurd h h0

def startsR (ts : List Blower) (ss : List Int) (k : Int) : Int × Int := (((runsR ts ss k).length : Int), codeO ts ss k)
def hoursL (rs : List (Int × Int)) : Int := (rs.map (·.2)).sum
def hoursR (ts : List Blower) (ss : List Int) (k : Int) : Int × Int := (hoursL (runsR ts ss k), codeO ts ss k)
theorem hoursL_snoc (l : List (Int × Int)) (r : Int × Int) : hoursL (l ++ [r]) = hoursL l + r.2 := by simp [hoursL]
theorem hoursL_on {p : Nat → Bool} {k : Nat} (h : p k = true) : hoursL (runsU p (k + 1)) = hoursL (runsU p k) + 1 := by
  cases hw : wasOn p k with
  | false => rw [runsU_new h hw, hoursL_snoc]
  | true =>
    obtain ⟨l, a, b, hl, _⟩ := (runsU_inv p k).2.2 hw
    rw [runsU_on h hw, hl, bump_snoc, hoursL_snoc, hoursL_snoc]; omega
theorem hoursL_bd (p : Nat → Bool) : ∀ k : Nat, 0 ≤ hoursL (runsU p k) ∧ hoursL (runsU p k) ≤ (k : Int)
  | 0 => by simp [runsU, hoursL]
  | k + 1 => by
    have ih := hoursL_bd p k
    cases hp : p k with
    | false => rw [runsU_no hp]; omega
    | true => rw [hoursL_on hp]; omega
theorem len_on {p : Nat → Bool} {k : Nat} (h : p k = true) (hw : wasOn p k = true) : (runsU p (k + 1)).length = (runsU p k).length := by
  obtain ⟨l, a, b, hl, _⟩ := (runsU_inv p k).2.2 hw
  rw [runsU_on h hw, hl, bump_snoc]; simp
def better (b r : Int × Int) : Int × Int := if b.2 < r.2 then r else b
def bestR (rs : List (Int × Int)) : Int × Int := rs.foldl better (0, 0)
theorem bestR_snoc (l : List (Int × Int)) (r : Int × Int) : bestR (l ++ [r]) = better (bestR l) r := by simp [bestR]
/-- how long the run is that goes on -/
def nowR (p : Nat → Bool) (k : Nat) : Int := if wasOn p k then ((runsU p k).getLast?.map (·.2)).getD 0 else 0
theorem nowR_succ_no {p : Nat → Bool} {k : Nat} (h : p k = false) : nowR p (k + 1) = 0 := by simp [nowR, wasOn, h]
theorem nowR_succ {p : Nat → Bool} {k : Nat} (h : p k = true) : nowR p (k + 1) = nowR p k + 1 := by
  have h1 : wasOn p (k + 1) = true := by simp [wasOn, h]
  unfold nowR
  rw [h1]
  cases hw : wasOn p k with
  | false => rw [runsU_new h hw]; simp
  | true =>
    obtain ⟨l, a, b, hl, _⟩ := (runsU_inv p k).2.2 hw
    rw [runsU_on h hw, hl, bump_snoc]; simp
theorem best_step {p : Nat → Bool} {k : Nat} (h : p k = true) : bestR (runsU p (k + 1)) = if (bestR (runsU p k)).2 < nowR p k + 1 then ((k : Int) - (nowR p k + 1) + 1, nowR p k + 1) else bestR (runsU p k) := by
  unfold nowR
  cases hw : wasOn p k with
  | false =>
    rw [runsU_new h hw, bestR_snoc]
    simp [better]
  | true =>
    obtain ⟨l, a, b, hl, hab⟩ := (runsU_inv p k).2.2 hw
    rw [runsU_on h hw, hl, bump_snoc, bestR_snoc, bestR_snoc]
    simp only [better, List.getLast?_append, List.getLast?_singleton, Option.some_or, Option.map_some, Option.getD_some, if_true]
    have : (k : Int) - (b + 1) + 1 = a := by omega
    rw [this]
    by_cases h1 : (bestR l).2 < b
    · have h2 : (bestR l).2 < b + 1 := by omega
      have h3 : b < b + 1 := by omega
      simp [h1, h2, h3]
    · simp [h1]
theorem bestR_no {p : Nat → Bool} {k : Nat} (h : p k = false) : bestR (runsU p (k + 1)) = bestR (runsU p k) := by rw [runsU_no h]
theorem nowR_bd (p : Nat → Bool) : ∀ k : Nat, 0 ≤ nowR p k ∧ nowR p k ≤ (k : Int)
  | 0 => by simp [nowR, wasOn]
  | k + 1 => by
    have ih := nowR_bd p k
    cases hp : p k with
    | false => rw [nowR_succ_no hp]; omega
    | true => rw [nowR_succ hp]; omega
theorem bestR_bd (p : Nat → Bool) : ∀ k : Nat, 0 ≤ (bestR (runsU p k)).2 ∧ (bestR (runsU p k)).2 ≤ (k : Int) ∧ 0 ≤ (bestR (runsU p k)).1 ∧ (bestR (runsU p k)).1 ≤ (k : Int)
  | 0 => by simp [runsU, bestR]
  | k + 1 => by
    have ih := bestR_bd p k
    have hn := nowR_bd p k
    cases hp : p k with
    | false => rw [bestR_no hp]; omega
    | true =>
      rw [best_step hp]
      split
      · refine ⟨?_, ?_, ?_, ?_⟩ <;> dsimp only <;> omega
      · omega
theorem bestR_zero (p : Nat → Bool) : ∀ k : Nat, (bestR (runsU p k)).2 = 0 ↔ runsU p k = []
  | 0 => by simp [runsU, bestR]
  | k + 1 => by
    have ih := bestR_zero p k
    have hn := nowR_bd p k
    have hb := bestR_bd p k
    cases hp : p k with
    | false => rw [bestR_no hp, runsU_no hp]; exact ih
    | true =>
      have hne : runsU p (k + 1) ≠ [] := by
        cases hw : wasOn p k with
        | false => rw [runsU_new hp hw]; simp
        | true => obtain ⟨l, a, b, hl, _⟩ := (runsU_inv p k).2.2 hw; rw [runsU_on hp hw, hl, bump_snoc]; simp
      rw [best_step hp]
      constructor
      · intro h
        split at h
        · dsimp only at h; omega
        · omega
      · intro h; exact absurd h hne
def longR (ts : List Blower) (ss : List Int) (k : Int) : Int × Int × Int :=
  if codeO ts ss k = 0 then (if runsR ts ss k = [] then (0, 0, 3) else ((bestR (runsR ts ss k)).1, (bestR (runsR ts ss k)).2, 0)) else (0, 0, codeO ts ss k)

theorem implStarts_any (v u : Value) (ts : List Blower) (ss : List Int) (kb : Int) (w : World) (hv : SlBlower w v ts) (hu : SlI w u ss) (hkb : -9223372036854775808 ≤ kb ∧ kb ≤ 9223372036854775807) :
    Calls Try.prog 29 #[v, u, .int .i64 kb] w fun e w' => e = .returned (.tuple #[.int .i64 (startsR ts ss kb).1, .int .i64 (startsR ts ss kb).2]) ∧ Below w.heap.size w w' := by
  have HR := Lib.hid (runsOfBlower_any v u ts ss kb w hv hu hkb)
  have HV := Lib.hid hv; have HU := Lib.hid hu
  clear hv hu
  go_enter Try.func29, Try.ntmps29
  go_wp2_with fail
  refine HR.out.mono ?_
  rintro e w1 ⟨A, c, rfl, hown, hb⟩
  clear hown
  go_wp2
  go_ret2
  exact ⟨rfl, hb⟩

set_option maxHeartbeats 1000000 in
theorem specStarts_any (v u : Value) (ts : List Blower) (ss : List Int) (kb : Int) (w : World) (hv : SlBlower w v ts) (hu : SlI w u ss) (hkb : -9223372036854775808 ≤ kb ∧ kb ≤ 9223372036854775807) :
    Calls Try.prog 28 #[v, u, .int .i64 kb] w fun e w' => e = .returned (.tuple #[.int .i64 (startsR ts ss kb).1, .int .i64 (startsR ts ss kb).2]) ∧ Below w.heap.size w w' := by
  have HO := Lib.hid (l11One_any v u ts ss kb w hv hu)
  obtain ⟨B, d, rfl, hlb, hcs⟩ := hu.op
  have HC := Lib.hid hcs
  clear hv hu hcs
  have HK : Hid (codeO ts ss kb = 0 → ss.length ≤ 24 ∧ (∀ x ∈ ss, 0 ≤ x ∧ x ≤ 15) ∧ 0 ≤ kb ∧ kb ≤ 3) := Lib.hid codeO_ok
  have HR : Hid (startsR ts ss kb = (if codeO ts ss kb = 0 then ((runsU (onB ss kb) ss.length).length : Int) else 0, codeO ts ss kb)) := Lib.hid (by unfold startsR runsR; split <;> simp)
  go_enter Try.func28, Try.ntmps28
  go_wp2_with fail
  refine HO.out.mono ?_
  rintro e w1 ⟨rfl, hb⟩
  generalize codeO ts ss kb = cd at HK HR ⊢
  by_cases h0 : cd = 0
  · subst h0
    obtain ⟨hl24, hA, hkb0, hkb3⟩ := HK.out rfl
    have HA := Lib.hid hA; have HB := Lib.hid hb
    clear hA
    go_wp2
    go_loopw [9, 10] (fun n i wr => ∃ k : Nat, k ≤ ss.length ∧ i = .int .i64 k ∧ n = .int .i64 ((runsU (onB ss kb) k).length : Int) ∧ w1 = wr) (fun _ i _ => ss.length - (intOf i).toNat)
    case atStart => exact ⟨0, Nat.zero_le _, rfl, rfl, rfl⟩
    case round =>
      obtain ⟨k, hk, rfl, rfl, rfl⟩ := hrel
      have hlen := (runsU_inv (onB ss kb) k).2.1
      have hlen2 : ((runsU (onB ss kb) k).length : Int) ≤ 24 := by omega
      by_cases hlt : k < ss.length
      · obtain ⟨b, o, rfl, hbs, hc⟩ := HC.out k hlt
        have hcell := (hb.cell (p := ⟨b, o + k, none⟩) hbs).trans (hc k hlt)
        have hlti : (k : Int) < (ss.length : Int) := by omega
        have hon : onB ss kb k = hasB ss[k] kb := by simp [onB, List.getD_eq_getElem?_getD, hlt]
        have HON := Lib.hid hon; clear hon
        have HY := Lib.hid (HA.out _ (List.getElem_mem hlt))
        have HR0 : Hid (onB ss kb k = false → runsU (onB ss kb) (k + 1) = runsU (onB ss kb) k) := Lib.hid runsU_no
        have HR1 : Hid (onB ss kb k = true → wasOn (onB ss kb) k = false → (runsU (onB ss kb) (k + 1)).length = (runsU (onB ss kb) k).length + 1) := Lib.hid fun h1 h2 => by rw [runsU_new h1 h2]; simp
        have HR2 : Hid (onB ss kb k = true → wasOn (onB ss kb) k = true → (runsU (onB ss kb) (k + 1)).length = (runsU (onB ss kb) k).length) := Lib.hid len_on
        generalize hs : ss[k] = s at hcell HON HY
        generalize hm : (runsU (onB ss kb) k).length = m at HR1 HR2 hlen2 hlen
        have HM := Lib.hid hm
        clear hm
        cases hh : hasB s kb with
        | false =>
          have hon : onB ss kb k = false := HON.out.trans hh
          have HE := Lib.hid (HR0.out hon)
          clear hon hc hs
          go_wp2_with fail
          refine (l11Has_any _ _ _ HY.out ⟨hkb0, hkb3⟩).mono ?_
          rintro e w' ⟨rfl, rfl⟩
          rw [hh]
          go_wp2
          go_roundw
          case rel => exact ⟨k + 1, by omega, by go_num, by rw [HE.out, HM.out], by first | trivial | rfl⟩
          case measure => simp [intOf]; omega
        | true =>
          have hon : onB ss kb k = true := HON.out.trans hh
          by_cases hk0 : k = 0
          · subst hk0
            have HE := Lib.hid (HR1.out hon (by simp [wasOn]))
            clear hon hc hs
            have hcell0 : w1.cell? ⟨b, o, none⟩ = some (.int .i64 s) := hcell
            clear hcell
            have hlti0 : (0 : Int) < (ss.length : Int) := by omega
            clear hlti
            simp only [Int.natCast_zero]
            go_wp2_with fail
            refine (l11Has_any _ _ _ HY.out ⟨hkb0, hkb3⟩).mono ?_
            rintro e w' ⟨rfl, rfl⟩
            rw [hh]
            go_wp2
            go_roundw
            case rel => exact ⟨0 + 1, by omega, by go_num, by rw [HE.out]; go_num, by first | trivial | rfl⟩
            case measure => simp [intOf]; omega
          · have hj : k - 1 < ss.length := by omega
            have hcell' := (hb.cell (p := ⟨b, o + (k - 1), none⟩) hbs).trans (hc (k - 1) hj)
            have hkz : ((k : Int) == 0) = false := by simpa using hk0
            have hk1 : (1 : Int) ≤ (k : Int) := by omega
            have hk0' : 0 < k := by omega
            have HWB : Hid (wasOn (onB ss kb) k = hasB ss[k - 1] kb) := Lib.hid (by simp [wasOn, onB, List.getD_eq_getElem?_getD, hj, hk0'])
            have HY' := Lib.hid (HA.out _ (List.getElem_mem hj))
            generalize ss[k - 1] = s' at hcell' HWB HY'
            have HHON := Lib.hid hon
            clear hon hc hs
            cases hh' : hasB s' kb with
            | true =>
              have HE := Lib.hid (HR2.out HHON.out (HWB.out.trans hh'))
              go_wp2_with fail
              refine (l11Has_any _ _ _ HY.out ⟨hkb0, hkb3⟩).mono ?_
              rintro e w' ⟨rfl, rfl⟩
              rw [hh]
              go_wp2_with fail
              refine (l11Has_any _ _ _ HY'.out ⟨hkb0, hkb3⟩).mono ?_
              rintro e w' ⟨rfl, rfl⟩
              rw [hh']
              go_wp2
              go_roundw
              case rel => exact ⟨k + 1, by omega, by go_num, by rw [HE.out], by first | trivial | rfl⟩
              case measure => simp [intOf]; omega
            | false =>
              have HE := Lib.hid (HR1.out HHON.out (HWB.out.trans hh'))
              go_wp2_with fail
              refine (l11Has_any _ _ _ HY.out ⟨hkb0, hkb3⟩).mono ?_
              rintro e w' ⟨rfl, rfl⟩
              rw [hh]
              go_wp2_with fail
              refine (l11Has_any _ _ _ HY'.out ⟨hkb0, hkb3⟩).mono ?_
              rintro e w' ⟨rfl, rfl⟩
              rw [hh']
              go_wp2
              go_roundw
              case rel => exact ⟨k + 1, by omega, by go_num, by rw [HE.out]; go_num, by first | trivial | rfl⟩
              case measure => simp [intOf]; omega
      · have hkn : k = ss.length := by omega
        subst hkn
        go_wp2
        go_ret2
        exact ⟨by rw [HR.out]; rfl, HB.out⟩
  · have h0n : (cd != 0) = true := by simpa using h0
    have H0 := Lib.hid h0; clear h0
    go_wp2
    go_ret2
    exact ⟨by rw [HR.out, if_neg H0.out]; rfl, hb⟩

theorem slP {w : World} {A : Option Addr} {n c : Nat} {rs : List (Int × Int)} (h : Sl w 2 (.slice A n c) n (rs.flatMap cellsP)) (hn : rs.length = n) :
    n ≤ 17592186044416 ∧ ∀ (k : Nat) (hk : k < rs.length), ∃ b o, A = some ⟨b, o, none⟩ ∧ b < w.heap.size ∧ w.cell? ⟨b, o + k * 2, none⟩ = some (.int .i64 rs[k].1) ∧ w.cell? ⟨b, o + k * 2 + 1, none⟩ = some (.int .i64 rs[k].2) := by
  obtain ⟨A', c', hv, hl, hn', hc⟩ := h
  injection hv with h1 h2 h3
  subst h1 h3
  refine ⟨hn', fun k hk => ?_⟩
  have h0 : k * 2 + 2 ≤ (rs.flatMap cellsP).length := by rw [flat_len _ _ cellsP_len]; omega
  obtain ⟨b, o, hA, hb, hcell⟩ := hc.at_ (k := k * 2) (by omega)
  have hg : ∀ j, j < 2 → w.cell? ⟨b, o + k * 2 + j, none⟩ = (cellsP rs[k])[j]? := fun j hj => by
    have h1 := hcell (k * 2 + j) (by omega)
    rw [← Nat.add_assoc] at h1
    rw [h1, ← flat_get cellsP 2 cellsP_len rs k hk j hj, List.getElem?_eq_getElem (by omega)]
  exact ⟨b, o, hA, hb, by simpa [cellsP] using hg 0 (by omega), by simpa [cellsP] using hg 1 (by omega)⟩

theorem take_sum (rs : List (Int × Int)) (k : Nat) (hk : k < rs.length) : hoursL (rs.take (k + 1)) = hoursL (rs.take k) + rs[k].2 := by
  rw [List.take_succ_eq_append_getElem hk, hoursL_snoc]
theorem take_sum_bd {rs : List (Int × Int)} {m : Int} (h : ∀ r ∈ rs, 0 ≤ r.2 ∧ r.2 ≤ m) : ∀ k : Nat, k ≤ rs.length → 0 ≤ hoursL (rs.take k) ∧ hoursL (rs.take k) ≤ m * (k : Int)
  | 0, _ => by simp [hoursL]
  | k + 1, hk => by
    have ih := take_sum_bd h k (by omega)
    have h1 := h rs[k] (List.getElem_mem (by omega))
    rw [take_sum rs k (by omega)]
    have : m * ((k + 1 : Nat) : Int) = m * (k : Int) + m := by rw [Int.natCast_add, Int.mul_add]; simp
    omega
theorem runsR_ok (ts : List Blower) (ss : List Int) (kb : Int) : (runsR ts ss kb).length ≤ 24 ∧ ∀ r ∈ runsR ts ss kb, 0 ≤ r.1 ∧ r.1 ≤ 24 ∧ 1 ≤ r.2 ∧ r.2 ≤ 24 := by
  unfold runsR
  by_cases h : codeO ts ss kb = 0
  · rw [if_pos h]
    have h1 := (codeO_ok h).1
    have h2 := runsU_inv (onB ss kb) ss.length
    refine ⟨by omega, fun r hr => ?_⟩
    have := h2.1 r hr
    omega
  · rw [if_neg h]; simp

theorem implHours_any (v u : Value) (ts : List Blower) (ss : List Int) (kb : Int) (w : World) (hv : SlBlower w v ts) (hu : SlI w u ss) (hkb : -9223372036854775808 ≤ kb ∧ kb ≤ 9223372036854775807) :
    Calls Try.prog 31 #[v, u, .int .i64 kb] w fun e w' => e = .returned (.tuple #[.int .i64 (hoursR ts ss kb).1, .int .i64 (hoursR ts ss kb).2]) ∧ Below w.heap.size w w' := by
  have HR := Lib.hid (runsOfBlower_any v u ts ss kb w hv hu hkb)
  have HE : Hid ((hoursR ts ss kb) = (hoursL (runsR ts ss kb), codeO ts ss kb)) := Lib.hid rfl
  obtain ⟨hl24, hrs⟩ := runsR_ok ts ss kb
  have HRS := Lib.hid hrs
  have HSB := Lib.hid (take_sum_bd (m := 24) (fun r hr => by have := hrs r hr; omega))
  clear hv hu hrs
  go_enter Try.func31, Try.ntmps31
  go_wp2_with fail
  refine HR.out.mono ?_
  clear HR
  rintro e w1 ⟨A, c, rfl, hown, hb⟩
  generalize runsR ts ss kb = rs at *
  have hsl := slP hown.sl rfl
  obtain ⟨hn, hcs⟩ := hsl
  have HC := Lib.hid hcs
  clear hown hcs
  go_wp2
  go_loopw [10, 22] (fun sm i wr => ∃ k : Nat, k ≤ rs.length ∧ i = .int .i64 k ∧ sm = .int .i64 (hoursL (rs.take k)) ∧ Below w1.heap.size w1 wr) (fun _ i _ => rs.length - (intOf i).toNat)
  case atStart => exact ⟨0, Nat.zero_le _, rfl, rfl, Below.refl _ _⟩
  case round =>
    obtain ⟨k, hk, rfl, rfl, hbr⟩ := hrel
    by_cases hlt : k < rs.length
    · obtain ⟨b, o, rfl, hbs, hc0, hc1⟩ := HC.out k hlt
      have hx0 := (hbr.cell (p := ⟨b, o + k * 2, none⟩) hbs).trans hc0
      have hx1 := (hbr.cell (p := ⟨b, o + k * 2 + 1, none⟩) hbs).trans hc1
      have hlti : (k : Int) < (rs.length : Int) := by omega
      obtain ⟨hsb1, hsb2⟩ := HSB.out k hk
      obtain ⟨-, -, hr1, hr2⟩ := HRS.out _ (List.getElem_mem hlt)
      have HT := Lib.hid (take_sum rs k hlt)
      have hq : Below w1.heap.size w1 (wr.alloc (.cells #[.int .i64 rs[k].1, .int .i64 rs[k].2] 80)) := hbr.alloc hbr.size _
      have HQ := Lib.hid hq; clear hq
      generalize rs[k] = x at hx0 hx1 hr1 hr2 HT HQ
      generalize hoursL (rs.take k) = sm at HT hsb1 hsb2 ⊢
      clear hc0 hc1
      go_wp2
      go_roundw
      case rel => exact ⟨k + 1, by omega, by go_num, by rw [HT.out], HQ.out⟩
      case measure => simp [intOf]; omega
    · have hkn : k = rs.length := by omega
      subst hkn
      have HBB := Lib.hid (below_next0 hb hbr)
      go_wp2
      go_ret2
      exact ⟨by rw [HE.out]; simp, HBB.out⟩

theorem specHours_any (v u : Value) (ts : List Blower) (ss : List Int) (kb : Int) (w : World) (hv : SlBlower w v ts) (hu : SlI w u ss) (hkb : -9223372036854775808 ≤ kb ∧ kb ≤ 9223372036854775807) :
    Calls Try.prog 30 #[v, u, .int .i64 kb] w fun e w' => e = .returned (.tuple #[.int .i64 (hoursR ts ss kb).1, .int .i64 (hoursR ts ss kb).2]) ∧ Below w.heap.size w w' := by
  have HO := Lib.hid (l11One_any v u ts ss kb w hv hu)
  obtain ⟨B, d, rfl, hlb, hcs⟩ := hu.op
  have HC := Lib.hid hcs
  clear hv hu hcs
  have HK : Hid (codeO ts ss kb = 0 → ss.length ≤ 24 ∧ (∀ x ∈ ss, 0 ≤ x ∧ x ≤ 15) ∧ 0 ≤ kb ∧ kb ≤ 3) := Lib.hid codeO_ok
  have HR : Hid (hoursR ts ss kb = (if codeO ts ss kb = 0 then hoursL (runsU (onB ss kb) ss.length) else 0, codeO ts ss kb)) := Lib.hid (by unfold hoursR runsR; split <;> simp [hoursL])
  go_enter Try.func30, Try.ntmps30
  go_wp2_with fail
  refine HO.out.mono ?_
  rintro e w1 ⟨rfl, hb⟩
  generalize codeO ts ss kb = cd at HK HR ⊢
  by_cases h0 : cd = 0
  · subst h0
    obtain ⟨hl24, hA, hkb0, hkb3⟩ := HK.out rfl
    have HA := Lib.hid hA; have HB := Lib.hid hb
    clear hA
    go_wp2
    go_loopw [9, 10] (fun n i wr => ∃ k : Nat, k ≤ ss.length ∧ i = .int .i64 k ∧ n = .int .i64 (hoursL (runsU (onB ss kb) k)) ∧ w1 = wr) (fun _ i _ => ss.length - (intOf i).toNat)
    case atStart => exact ⟨0, Nat.zero_le _, rfl, rfl, rfl⟩
    case round =>
      obtain ⟨k, hk, rfl, rfl, rfl⟩ := hrel
      obtain ⟨hbd1, hbd2⟩ := hoursL_bd (onB ss kb) k
      by_cases hlt : k < ss.length
      · obtain ⟨b, o, rfl, hbs, hc⟩ := HC.out k hlt
        have hcell := (hb.cell (p := ⟨b, o + k, none⟩) hbs).trans (hc k hlt)
        have hlti : (k : Int) < (ss.length : Int) := by omega
        have hon : onB ss kb k = hasB ss[k] kb := by simp [onB, List.getD_eq_getElem?_getD, hlt]
        have HON := Lib.hid hon; clear hon
        have HY := Lib.hid (HA.out _ (List.getElem_mem hlt))
        have HR0 : Hid (onB ss kb k = false → hoursL (runsU (onB ss kb) (k + 1)) = hoursL (runsU (onB ss kb) k)) := Lib.hid fun h => by rw [runsU_no h]
        have HR1 : Hid (onB ss kb k = true → hoursL (runsU (onB ss kb) (k + 1)) = hoursL (runsU (onB ss kb) k) + 1) := Lib.hid hoursL_on
        generalize hs : ss[k] = s at hcell HON HY
        generalize hoursL (runsU (onB ss kb) k) = m at HR0 HR1 hbd1 hbd2
        clear hc hs
        cases hh : hasB s kb with
        | false =>
          have HE := Lib.hid (HR0.out (HON.out.trans hh))
          go_wp2_with fail
          refine (l11Has_any _ _ _ HY.out ⟨hkb0, hkb3⟩).mono ?_
          rintro e w' ⟨rfl, rfl⟩
          rw [hh]
          go_wp2
          go_roundw
          case rel => exact ⟨k + 1, by omega, by go_num, by rw [HE.out], by first | trivial | rfl⟩
          case measure => simp [intOf]; omega
        | true =>
          have HE := Lib.hid (HR1.out (HON.out.trans hh))
          go_wp2_with fail
          refine (l11Has_any _ _ _ HY.out ⟨hkb0, hkb3⟩).mono ?_
          rintro e w' ⟨rfl, rfl⟩
          rw [hh]
          go_wp2
          go_roundw
          case rel => exact ⟨k + 1, by omega, by go_num, by rw [HE.out], by first | trivial | rfl⟩
          case measure => simp [intOf]; omega
      · have hkn : k = ss.length := by omega
        subst hkn
        go_wp2
        go_ret2
        exact ⟨by rw [HR.out]; rfl, HB.out⟩
  · have h0n : (cd != 0) = true := by simpa using h0
    have H0 := Lib.hid h0; clear h0
    go_wp2
    go_ret2
    exact ⟨by rw [HR.out, if_neg H0.out]; rfl, hb⟩

theorem specLong_any (v u : Value) (ts : List Blower) (ss : List Int) (kb : Int) (w : World) (hv : SlBlower w v ts) (hu : SlI w u ss) (hkb : -9223372036854775808 ≤ kb ∧ kb ≤ 9223372036854775807) :
    Calls Try.prog 36 #[v, u, .int .i64 kb] w fun e w' => e = .returned (.tuple #[.int .i64 (longR ts ss kb).1, .int .i64 (longR ts ss kb).2.1, .int .i64 (longR ts ss kb).2.2]) ∧ Below w.heap.size w w' := by
  have HO := Lib.hid (l11One_any v u ts ss kb w hv hu)
  obtain ⟨B, d, rfl, hlb, hcs⟩ := hu.op
  have HC := Lib.hid hcs
  clear hv hu hcs
  have HK : Hid (codeO ts ss kb = 0 → ss.length ≤ 24 ∧ (∀ x ∈ ss, 0 ≤ x ∧ x ≤ 15) ∧ 0 ≤ kb ∧ kb ≤ 3) := Lib.hid codeO_ok
  have HR : Hid (longR ts ss kb = (if codeO ts ss kb = 0 then (if (bestR (runsU (onB ss kb) ss.length)).2 = 0 then (0, 0, 3) else ((bestR (runsU (onB ss kb) ss.length)).1, (bestR (runsU (onB ss kb) ss.length)).2, 0)) else (0, 0, codeO ts ss kb))) := Lib.hid (by
    unfold longR runsR
    by_cases h : codeO ts ss kb = 0
    · simp only [if_pos h, bestR_zero]
    · rw [if_neg h, if_neg h])
  go_enter Try.func36, Try.ntmps36
  go_wp2_with fail
  refine HO.out.mono ?_
  rintro e w1 ⟨rfl, hb⟩
  generalize codeO ts ss kb = cd at HK HR ⊢
  by_cases h0 : cd = 0
  · subst h0
    obtain ⟨hl24, hA, hkb0, hkb3⟩ := HK.out rfl
    have HA := Lib.hid hA; have HB := Lib.hid hb
    clear hA
    go_wp2
    go_loopw [10, 11, 12, 13] (fun f m nw i wr => ∃ k : Nat, k ≤ ss.length ∧ i = .int .i64 k ∧ f = .int .i64 (bestR (runsU (onB ss kb) k)).1 ∧ m = .int .i64 (bestR (runsU (onB ss kb) k)).2 ∧ nw = .int .i64 (nowR (onB ss kb) k) ∧ w1 = wr) (fun _ _ _ i _ => ss.length - (intOf i).toNat)
    case atStart => exact ⟨0, Nat.zero_le _, rfl, rfl, rfl, rfl, rfl⟩
    case round =>
      obtain ⟨k, hk, rfl, rfl, rfl, rfl, rfl⟩ := hrel
      obtain ⟨hbd1, hbd2, hbd3, hbd4⟩ := bestR_bd (onB ss kb) k
      obtain ⟨hnd1, hnd2⟩ := nowR_bd (onB ss kb) k
      by_cases hlt : k < ss.length
      · obtain ⟨b, o, rfl, hbs, hc⟩ := HC.out k hlt
        have hcell := (hb.cell (p := ⟨b, o + k, none⟩) hbs).trans (hc k hlt)
        have hlti : (k : Int) < (ss.length : Int) := by omega
        have hon : onB ss kb k = hasB ss[k] kb := by simp [onB, List.getD_eq_getElem?_getD, hlt]
        have HON := Lib.hid hon; clear hon
        have HY := Lib.hid (HA.out _ (List.getElem_mem hlt))
        have HR0 : Hid (onB ss kb k = false → bestR (runsU (onB ss kb) (k + 1)) = bestR (runsU (onB ss kb) k)) := Lib.hid bestR_no
        have HR1 : Hid (onB ss kb k = true → bestR (runsU (onB ss kb) (k + 1)) = if (bestR (runsU (onB ss kb) k)).2 < nowR (onB ss kb) k + 1 then ((k : Int) - (nowR (onB ss kb) k + 1) + 1, nowR (onB ss kb) k + 1) else bestR (runsU (onB ss kb) k)) := Lib.hid best_step
        have HN0 : Hid (onB ss kb k = false → nowR (onB ss kb) (k + 1) = 0) := Lib.hid nowR_succ_no
        have HN1 : Hid (onB ss kb k = true → nowR (onB ss kb) (k + 1) = nowR (onB ss kb) k + 1) := Lib.hid nowR_succ
        generalize hs : ss[k] = s at hcell HON HY
        generalize bestR (runsU (onB ss kb) k) = m at HR0 HR1 hbd1 hbd2 hbd3 hbd4
        generalize nowR (onB ss kb) k = nw at HR1 HN1 hnd1 hnd2
        obtain ⟨m1, m2⟩ := m
        dsimp only at hbd1 hbd2 hbd3 hbd4
        clear hc hs
        cases hh : hasB s kb with
        | false =>
          have HE := Lib.hid (HR0.out (HON.out.trans hh))
          have HE' := Lib.hid (HN0.out (HON.out.trans hh))
          go_wp2_with fail
          refine (l11Has_any _ _ _ HY.out ⟨hkb0, hkb3⟩).mono ?_
          rintro e w' ⟨rfl, rfl⟩
          rw [hh]
          go_wp2
          go_roundw
          case rel => exact ⟨k + 1, by omega, by go_num, by rw [HE.out], by rw [HE.out], by rw [HE'.out], by first | trivial | rfl⟩
          case measure => simp [intOf]; omega
        | true =>
          have HE := Lib.hid (HR1.out (HON.out.trans hh))
          have HE' := Lib.hid (HN1.out (HON.out.trans hh))
          by_cases hm : m2 < nw + 1
          · have HE2 : Hid (bestR (runsU (onB ss kb) (k + 1)) = ((k : Int) - (nw + 1) + 1, nw + 1)) := Lib.hid (by rw [HE.out, if_pos hm])
            go_wp2_with fail
            refine (l11Has_any _ _ _ HY.out ⟨hkb0, hkb3⟩).mono ?_
            rintro e w' ⟨rfl, rfl⟩
            rw [hh]
            go_wp2
            go_roundw
            case rel => exact ⟨k + 1, by omega, by go_num, by rw [HE2.out], by rw [HE2.out], by rw [HE'.out], by first | trivial | rfl⟩
            case measure => simp [intOf]; omega
          · have HE2 : Hid (bestR (runsU (onB ss kb) (k + 1)) = (m1, m2)) := Lib.hid (by rw [HE.out, if_neg hm])
            have hm' : nw + 1 ≤ m2 := by omega
            clear hm
            go_wp2_with fail
            refine (l11Has_any _ _ _ HY.out ⟨hkb0, hkb3⟩).mono ?_
            rintro e w' ⟨rfl, rfl⟩
            rw [hh]
            go_wp2
            go_roundw
            case rel => exact ⟨k + 1, by omega, by go_num, by rw [HE2.out], by rw [HE2.out], by rw [HE'.out], by first | trivial | rfl⟩
            case measure => simp [intOf]; omega
      · have hkn : k = ss.length := by omega
        subst hkn
        by_cases hz : (bestR (runsU (onB ss kb) ss.length)).2 = 0
        · have hz' : ((bestR (runsU (onB ss kb) ss.length)).2 == 0) = true := by simpa using hz
          have HZ := Lib.hid hz
          clear hz
          go_wp2
          go_ret3
          exact ⟨by rw [HR.out]; simp [HZ.out], HB.out⟩
        · have hz' : ((bestR (runsU (onB ss kb) ss.length)).2 == 0) = false := by simpa using hz
          have HZ := Lib.hid hz
          clear hz
          go_wp2
          go_ret3
          exact ⟨by rw [HR.out]; simp [HZ.out], HB.out⟩
  · have h0n : (cd != 0) = true := by simpa using h0
    have H0 := Lib.hid h0; clear h0
    go_wp2
    go_ret3
    exact ⟨by rw [HR.out, if_neg H0.out]; rfl, hb⟩

theorem cell?_alloc_lt (w : World) (o : Obj) (p : Addr) (h : p.block < w.heap.size) : (w.alloc o).cell? p = w.cell? p := (below_alloc w o).cell h
theorem frozen?_alloc_lt (w : World) (o : Obj) (p : Addr) (h : p.block < w.heap.size) : (w.alloc o).frozen? p = w.frozen? p := (below_alloc w o).frozen h
theorem two_stored (w : World) (X : Nat) (x y p q : Value) (o : Obj) (hX : X < w.heap.size) (h0 : w.cell? ⟨X, 0, none⟩ = some p) (h1 : w.cell? ⟨X, 0 + 1, none⟩ = some q) (f0 : w.frozen? ⟨X, 0, none⟩ = false) (f1 : w.frozen? ⟨X, 0 + 1, none⟩ = false) :
    X < (((w.setCell ⟨X, 0, none⟩ x).setCell ⟨X, 1, none⟩ y).alloc o).heap.size ∧ (((w.setCell ⟨X, 0, none⟩ x).setCell ⟨X, 1, none⟩ y).alloc o).cell? ⟨X, 0, none⟩ = some x ∧ (((w.setCell ⟨X, 0, none⟩ x).setCell ⟨X, 1, none⟩ y).alloc o).cell? ⟨X, 0 + 1, none⟩ = some y ∧
    (((w.setCell ⟨X, 0, none⟩ x).setCell ⟨X, 1, none⟩ y).alloc o).frozen? ⟨X, 0, none⟩ = false ∧ (((w.setCell ⟨X, 0, none⟩ x).setCell ⟨X, 1, none⟩ y).alloc o).frozen? ⟨X, 0 + 1, none⟩ = false := by
  have h1' : w.cell? ⟨X, 1, none⟩ = some q := h1
  have f1' : w.frozen? ⟨X, 1, none⟩ = false := f1
  have hs : X < ((w.setCell ⟨X, 0, none⟩ x).setCell ⟨X, 1, none⟩ y).heap.size := by simpa using hX
  refine ⟨Nat.lt_of_lt_of_le hs (by simp), ?_, ?_, ?_, ?_⟩
  · rw [cell?_alloc_lt _ _ _ hs]; simp [go_sem, h0]
  · rw [cell?_alloc_lt _ _ _ hs]; simp [go_sem, h1']
  · rw [frozen?_alloc_lt _ _ _ hs]; simp [go_sem, f0]
  · rw [frozen?_alloc_lt _ _ _ hs]; simp [go_sem, f1']
theorem implLong_any (v u : Value) (ts : List Blower) (ss : List Int) (kb : Int) (w : World) (hv : SlBlower w v ts) (hu : SlI w u ss) (hkb : -9223372036854775808 ≤ kb ∧ kb ≤ 9223372036854775807) :
    Calls Try.prog 37 #[v, u, .int .i64 kb] w fun e w' => e = .returned (.tuple #[.int .i64 (longR ts ss kb).1, .int .i64 (longR ts ss kb).2.1, .int .i64 (longR ts ss kb).2.2]) ∧ Below w.heap.size w w' := by
  have HR := Lib.hid (runsOfBlower_any v u ts ss kb w hv hu hkb)
  have HE : Hid (longR ts ss kb = if codeO ts ss kb = 0 then (if runsR ts ss kb = [] then (0, 0, 3) else ((bestR (runsR ts ss kb)).1, (bestR (runsR ts ss kb)).2, 0)) else (0, 0, codeO ts ss kb)) := Lib.hid rfl
  obtain ⟨hl24, hrs⟩ := runsR_ok ts ss kb
  have HRS := Lib.hid hrs
  clear hv hu hrs
  go_enter Try.func37, Try.ntmps37
  go_wp2_with fail
  refine HR.out.mono ?_
  clear HR
  rintro e w1 ⟨A, c, rfl, hown, hb⟩
  generalize runsR ts ss kb = rs at *
  generalize codeO ts ss kb = cd at *
  have hsl := slP hown.sl rfl
  obtain ⟨hn, hcs⟩ := hsl
  have HC := Lib.hid hcs
  clear hown hcs
  by_cases h0 : cd = 0
  · subst h0
    cases hrs : rs with
    | nil =>
      subst hrs
      go_wp2
      go_ret3
      exact ⟨by rw [HE.out]; rfl, hb⟩
    | cons r0 rs' =>
      have hlen : 0 < rs.length := by rw [hrs]; simp
      have hr0 : rs[0] = r0 := by simp [hrs]
      have HNE : Hid (rs ≠ []) := Lib.hid (by rw [hrs]; simp)
      have HB0 : Hid (bestR (rs.take 1) = r0) := Lib.hid (by
        have := HRS.out r0 (by rw [hrs]; simp)
        rw [hrs]; simp [bestR, better]; intro h; omega)
      rw [← hrs]
      clear hrs
      have hz : ((rs.length : Int) == 0) = false := by have : (rs.length : Int) ≠ 0 := by omega
                                                       simpa using this
      have hlti0 : (0 : Int) < (rs.length : Int) := by omega
      obtain ⟨b, o, rfl, hbs, hc0, hc1⟩ := HC.out 0 hlen
      simp only [Nat.zero_mul, Nat.add_zero, hr0] at hc0 hc1
      have HR0 := Lib.hid hr0; clear hr0
      have HRS0 := Lib.hid (HRS.out r0 (by rw [← HR0.out]; exact List.getElem_mem _))
      have HSTEP : Hid (∀ (k : Nat) (hk : k < rs.length), bestR (rs.take (max (k + 1) 1)) = better (bestR (rs.take (max k 1))) rs[k]) := Lib.hid (fun k hk => by
        cases k with
        | zero =>
          show bestR (rs.take 1) = better (bestR (rs.take 1)) rs[0]
          rw [HB0.out, HR0.out]; simp [better]
        | succ j =>
          have e1 : max (j + 1 + 1) 1 = j + 1 + 1 := by omega
          have e2 : max (j + 1) 1 = j + 1 := by omega
          rw [e1, e2, List.take_succ_eq_append_getElem hk, bestR_snoc])
      have HBD : Hid (∀ k : Nat, 1 ≤ (bestR (rs.take (max k 1))).2 ∧ (bestR (rs.take (max k 1))).2 ≤ 24) := Lib.hid (by
        intro k
        induction k with
        | zero =>
          show 1 ≤ (bestR (rs.take 1)).2 ∧ (bestR (rs.take 1)).2 ≤ 24
          rw [HB0.out]; have := HRS0.out; omega
        | succ j ih =>
          by_cases hj : j < rs.length
          · rw [HSTEP.out j hj, better]
            have := HRS.out _ (List.getElem_mem hj)
            split <;> omega
          · have e : rs.take (max (j + 1) 1) = rs.take (max j 1) := by rw [List.take_of_length_le (by omega), List.take_of_length_le (by omega)]
            rw [e]; exact ih)
      go_wp2
      go_loopw [34] (fun i wr => ∃ k : Nat, k ≤ rs.length ∧ i = .int .i64 k ∧ w1.heap.size < wr.heap.size ∧ wr.cell? ⟨w1.heap.size, 0, none⟩ = some (.int .i64 (bestR (rs.take (max k 1))).1) ∧ wr.cell? ⟨w1.heap.size, 0 + 1, none⟩ = some (.int .i64 (bestR (rs.take (max k 1))).2) ∧ wr.frozen? ⟨w1.heap.size, 0, none⟩ = false ∧ wr.frozen? ⟨w1.heap.size, 0 + 1, none⟩ = false ∧ Below w1.heap.size w1 wr) (fun i _ => rs.length - (intOf i).toNat)
      case atStart =>
        refine ⟨0, Nat.zero_le _, rfl, by simp, ?_, ?_, by simp [go_sem], by simp [go_sem], below_alloc _ _⟩
        · rw [show max 0 1 = 1 from rfl, HB0.out]; simp [go_sem]
        · rw [show max 0 1 = 1 from rfl, HB0.out]; simp [go_sem]
      case round =>
        obtain ⟨k, hk, rfl, hlt1, hk0, hk1, hf0, hf1, hbr⟩ := hrel
        have HBDk := HBD.out k
        by_cases hlt : k < rs.length
        · obtain ⟨b2, o2, hbo, hbs2, hc0, hc1⟩ := HC.out k hlt
          injection hbo with hbo
          injection hbo with hbo1 hbo2 hbo3
          subst hbo1 hbo2
          have hx0 := (hbr.cell (p := ⟨b, o + k * 2, none⟩) hbs).trans hc0
          have hx1 := (hbr.cell (p := ⟨b, o + k * 2 + 1, none⟩) hbs).trans hc1
          have hlti : (k : Int) < (rs.length : Int) := by omega
          have HT := Lib.hid (HSTEP.out k hlt)
          obtain ⟨-, -, hr1, hr2⟩ := HRS.out _ (List.getElem_mem hlt)
          generalize rs[k] = x at hx0 hx1 hr1 hr2 HT
          generalize bestR (rs.take (max k 1)) = bb at HT hk0 hk1 HBDk ⊢
          obtain ⟨hb1, hb2⟩ := HBDk
          have hbrA := hbr.alloc (Nat.le_of_lt hlt1) (.cells #[.int .i64 x.1, .int .i64 x.2] 80)
          have HBA := Lib.hid hbrA
          clear hbrA hc0 hc1
          by_cases hlt2 : bb.2 < x.2
          · have HE2 : Hid (bestR (rs.take (max (k + 1) 1)) = x) := Lib.hid (by rw [HT.out, better, if_pos hlt2])
            have HTS := Lib.hid (two_stored wr w1.heap.size (.int .i64 x.1) (.int .i64 x.2) _ _ (.cells #[.int .i64 x.1, .int .i64 x.2] 80) hlt1 hk0 hk1 hf0 hf1)
            have HBS := Lib.hid (((hbr.setCell (p := ⟨w1.heap.size, 0, none⟩) (Nat.le_refl _) (.int .i64 x.1)).setCell (p := ⟨w1.heap.size, 1, none⟩) (Nat.le_refl _) (.int .i64 x.2)).alloc (by simp; omega) (.cells #[.int .i64 x.1, .int .i64 x.2] 80))
            go_wp2
            go_roundw
            case rel => exact ⟨k + 1, by omega, by go_num, HTS.out.1, by rw [HE2.out]; exact HTS.out.2.1, by rw [HE2.out]; exact HTS.out.2.2.1, HTS.out.2.2.2.1, HTS.out.2.2.2.2, HBS.out⟩
            case measure => simp [intOf]; omega
          · have HE2 : Hid (bestR (rs.take (max (k + 1) 1)) = bb) := Lib.hid (by rw [HT.out, better, if_neg hlt2])
            have hle2 : x.2 ≤ bb.2 := by omega
            clear hlt2
            go_wp2
            go_roundw
            case rel => exact ⟨k + 1, by omega, by go_num, Nat.lt_of_lt_of_le hlt1 (by simp), by rw [HE2.out, cell?_alloc_lt _ _ _ hlt1]; exact hk0, by rw [HE2.out, cell?_alloc_lt _ _ _ hlt1]; exact hk1, by rw [frozen?_alloc_lt _ _ _ hlt1]; exact hf0, by rw [frozen?_alloc_lt _ _ _ hlt1]; exact hf1, HBA.out⟩
            case measure => simp [intOf]; omega
        · have hkn : k = rs.length := by omega
          subst hkn
          have hmx : rs.take (max rs.length 1) = rs := by rw [List.take_of_length_le]; omega
          rw [hmx] at hk0 hk1 HBDk
          have HBB := Lib.hid (below_next0 hb hbr)
          have HE2 : Hid (longR ts ss kb = ((bestR rs).1, (bestR rs).2, 0)) := Lib.hid (by rw [HE.out]; simp [HNE.out])
          have hk1' : wr.cell? ⟨w1.heap.size, 1, none⟩ = some (.int .i64 (bestR rs).2) := hk1
          go_wp2
          go_region
          go_wp2
          go_ret3
          exact ⟨by rw [HE2.out]; rfl, HBB.out.drew⟩
  · have h0n : (cd != 0) = true := by simpa using h0
    have H0 := Lib.hid h0; clear h0
    go_wp2
    go_ret3
    exact ⟨by rw [HE.out, if_neg H0.out]; rfl, hb⟩

end Go.Proofs.Ytjleabgoajoegaa
