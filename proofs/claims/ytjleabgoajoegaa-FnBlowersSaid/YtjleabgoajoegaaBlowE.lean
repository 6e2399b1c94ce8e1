/-
The runs of a blower: runsOfBlower, by its contract. Condition: the slices read as lists.
-/
import Derived.Test.YtjleabgoajoegaaBlowD
import Derived.Test.YtjleabgoajoegaaApp
namespace Go.Proofs.Ytjleabgoajoegaa
open Go.RowKit
set_option linter.unusedVariables false

def cellsP (r : Int × Int) : List Value := [.int .i64 r.1, .int .i64 r.2]
def bump (l : List (Int × Int)) : List (Int × Int) := match l.getLast? with | some x => l.dropLast ++ [(x.1, x.2 + 1)] | none => []
theorem bump_snoc (l : List (Int × Int)) (a b : Int) : bump (l ++ [(a, b)]) = l ++ [(a, b + 1)] := by simp [bump]
/-- the runs of the first k hours -/
def runsU (p : Nat → Bool) : Nat → List (Int × Int)
  | 0 => []
  | k + 1 => if p k then (if decide (0 < k) && p (k - 1) then bump (runsU p k) else runsU p k ++ [((k : Int), 1)]) else runsU p k
def wasOn (p : Nat → Bool) (k : Nat) : Bool := decide (0 < k) && p (k - 1)
theorem runsU_no {p : Nat → Bool} {k : Nat} (h : p k = false) : runsU p (k + 1) = runsU p k := by simp [runsU, h]
theorem runsU_new {p : Nat → Bool} {k : Nat} (h : p k = true) (h' : wasOn p k = false) : runsU p (k + 1) = runsU p k ++ [((k : Int), 1)] := by unfold wasOn at h'; simp [runsU, h, h']
theorem runsU_on {p : Nat → Bool} {k : Nat} (h : p k = true) (h' : wasOn p k = true) : runsU p (k + 1) = bump (runsU p k) := by unfold wasOn at h'; simp [runsU, h, h']
/-- where the hour before ran, there is a last run, which ends there -/
theorem runsU_inv (p : Nat → Bool) : ∀ k : Nat, (∀ r ∈ runsU p k, 0 ≤ r.1 ∧ 1 ≤ r.2 ∧ r.1 + r.2 ≤ (k : Int)) ∧ (runsU p k).length ≤ k ∧
    (wasOn p k = true → ∃ l a b, runsU p k = l ++ [(a, b)] ∧ a + b = (k : Int))
  | 0 => ⟨by simp [runsU], by simp [runsU], by simp [wasOn]⟩
  | k + 1 => by
    obtain ⟨h1, h2, h3⟩ := runsU_inv p k
    cases hp : p k with
    | false =>
      rw [runsU_no hp]
      exact ⟨fun r hr => by have := h1 r hr; omega, by omega, fun h => by simp [wasOn, hp] at h⟩
    | true =>
      cases hw : wasOn p k with
      | false =>
        rw [runsU_new hp hw]
        refine ⟨fun r hr => ?_, by simp; omega, fun _ => ⟨_, _, _, rfl, by omega⟩⟩
        rcases List.mem_append.1 hr with hr | hr
        · have := h1 r hr; omega
        · simp at hr; subst hr; exact ⟨by simp, by simp, by simp⟩
      | true =>
        obtain ⟨l, a, b, hl, hab⟩ := h3 hw
        rw [runsU_on hp hw, hl, bump_snoc]
        rw [hl] at h1 h2
        refine ⟨fun r hr => ?_, by simp at h2 ⊢; omega, fun _ => ⟨_, _, _, rfl, by omega⟩⟩
        rcases List.mem_append.1 hr with hr | hr
        · have := h1 r (by simp [hr]); omega
        · simp at hr; subst hr
          have := h1 (a, b) (by simp)
          simp only at this ⊢; omega

/-- whether a blower runs in an hour -/
def onB (ss : List Int) (k : Int) (i : Nat) : Bool := hasB (ss.getD i 0) k
/-- the code of blowers, sets and one blower -/
def codeO (ts : List Blower) (ss : List Int) (k : Int) : Int := if codeS ts ss = 0 then (if inB k 0 ((ts.length : Int) - 1) then 0 else 2) else codeS ts ss
def runsR (ts : List Blower) (ss : List Int) (k : Int) : List (Int × Int) := if codeO ts ss k = 0 then runsU (onB ss k) ss.length else []

theorem infoP : (Try.prog.info? 80).map (fun i => (i.zero, i.size, i.bytes)) = some (some (.agg #[.int .i64 0, .int .i64 0]), 2, 16) := by kernel_rfl
theorem cellsP_len (r : Int × Int) : (cellsP r).length = 2 := rfl
theorem cellsP_snoc (l : List (Int × Int)) (a b : Int) : (l ++ [(a, b)]).flatMap cellsP = l.flatMap cellsP ++ [.int .i64 a, .int .i64 b] := by simp [cellsP]
theorem cellsP_bump (l : List (Int × Int)) (a b c : Int) : ((l ++ [(a, b)]).flatMap cellsP).set (l.length * 2 + 1) (.int .i64 c) = (l ++ [(a, c)]).flatMap cellsP := by
  rw [cellsP_snoc, cellsP_snoc, List.set_append_right _ _ (by rw [flat_len _ _ cellsP_len]; omega), flat_len _ _ cellsP_len]
  have : l.length * 2 + 1 - l.length * 2 = 1 := by omega
  rw [this]; rfl

set_option maxHeartbeats 4000000 in
theorem runsOfBlower_any (v u : Value) (ts : List Blower) (ss : List Int) (kb : Int) (w : World) (hv : SlBlower w v ts) (hu : SlI w u ss) (hkb : -9223372036854775808 ≤ kb ∧ kb ≤ 9223372036854775807) :
    Calls Try.prog 71 #[v, u, .int .i64 kb] w fun e w' => ∃ A c, e = .returned (.tuple #[.slice A (runsR ts ss kb).length c, .int .i64 (codeO ts ss kb)]) ∧
      Ow w' w.heap.size 80 2 (.slice A (runsR ts ss kb).length c) (runsR ts ss kb).length ((runsR ts ss kb).flatMap cellsP) ∧ Below w.heap.size w w' := by
  have HV := Lib.hid hv; have HU := Lib.hid hu
  obtain ⟨A, c, rfl, hla, _⟩ := hv.op
  obtain ⟨B, d, rfl, hlb, hcs⟩ := hu.op
  clear hv hu
  have HC := Lib.hid hcs; clear hcs
  have HCO : Hid (codeO ts ss kb = if codeS ts ss = 0 then (if inB kb 0 ((ts.length : Int) - 1) then 0 else 2) else codeS ts ss) := Lib.hid rfl
  have HR : Hid (runsR ts ss kb = if codeO ts ss kb = 0 then runsU (onB ss kb) ss.length else []) := Lib.hid rfl
  have HK : Hid (codeS ts ss = 0 → blowersOk ts = true ∧ ss.length ≤ 24 ∧ ∀ x ∈ ss, 0 ≤ x ∧ x ≤ 15) := Lib.hid codeS_ok
  have HOR := Lib.hid (codeS_or ts ss)
  have HNIL : Hid (∀ w' : World, Ow w' w.heap.size 80 2 (.slice none 0 0) 0 []) := Lib.hid fun w' => ⟨World.ownsRow_nil _ _ _ _, by omega⟩
  go_enter Try.func71, Try.ntmps71
  go_wp2_with fail
  refine (setsCode_any _ _ ts ss _ HV.out HU.out).mono ?_
  rintro e w1 ⟨rfl, hb1⟩
  generalize codeS ts ss = cd at HCO HK HOR ⊢
  by_cases h0 : cd = 0
  · subst h0
    obtain ⟨hok, hl24, hall⟩ := HK.out rfl
    have HO := Lib.hid hok; have HA := Lib.hid hall
    have hl4 := (blowersOk_at hok).1
    clear hok hall
    cases hin : inB kb 0 ((ts.length : Int) - 1) with
    | false =>
      have E1 : Hid (codeO ts ss kb = 2) := Lib.hid (by rw [HCO.out]; simp [hin])
      have E2 : Hid (runsR ts ss kb = []) := Lib.hid (by rw [HR.out, E1.out]; rfl)
      go_wp2_with fail
      refine (within_any _ _ _ _).mono ?_
      rintro e w2 ⟨rfl, rfl⟩
      rw [hin]
      go_wp2
      go_ret2
      exact ⟨none, 0, by rw [E1.out, E2.out]; rfl, by rw [E2.out]; exact HNIL.out _, hb1⟩
    | true =>
      have E1 : Hid (codeO ts ss kb = 0) := Lib.hid (by rw [HCO.out]; simp [hin])
      have E2 : Hid (runsR ts ss kb = runsU (onB ss kb) ss.length) := Lib.hid (by rw [HR.out, E1.out]; rfl)
      have hkk : 0 ≤ kb ∧ kb ≤ 3 := by have := inB_iff.1 hin; omega
      have HKB := Lib.hid hkk
      clear hkk
      go_wp2_with fail
      refine (within_any _ _ _ _).mono ?_
      rintro e w2 ⟨rfl, rfl⟩
      rw [hin]
      clear hin
      have HB1 := Lib.hid hb1
      have hem := ow_empty w1 w.heap.size 80 2 hb1.size
      have HEM := Lib.hid hem
      clear hem
      have hb1a : Below w.heap.size w (w1.alloc (.cells #[] 80)) := hb1.alloc hb1.size _
      have HBA := Lib.hid hb1a
      clear hb1 hb1a
      go_wp2
      go_loopw [9, 10, 11, 12, 13, 33] (fun out bf _ _ _ i wr => ∃ (k : Nat) (A2 : Option Addr) (c2 : Nat), k ≤ ss.length ∧ i = .int .i64 k ∧ out = .slice A2 (runsU (onB ss kb) k).length c2 ∧
        Ow wr w.heap.size 80 2 (.slice A2 (runsU (onB ss kb) k).length c2) (runsU (onB ss kb) k).length ((runsU (onB ss kb) k).flatMap cellsP) ∧ bf = .bool (wasOn (onB ss kb) k) ∧ Below w.heap.size w wr) (fun _ _ _ _ _ i _ => ss.length - (intOf i).toNat)
      case atStart => exact ⟨0, _, _, Nat.zero_le _, rfl, rfl, HEM.out, rfl, HBA.out⟩
      case round =>
        obtain ⟨k, A2, c2, hk, rfl, rfl, hown, rfl, hb⟩ := hrel
        have hinv := runsU_inv (onB ss kb) k
        have HI := Lib.hid hinv; clear hinv
        by_cases hlt : k < ss.length
        · obtain ⟨b, o, rfl, hbs, hc⟩ := HC.out k hlt
          have hcell := (hb.cell (p := ⟨b, o + k, none⟩) hbs).trans (hc k hlt)
          have hlti : (k : Int) < (ss.length : Int) := by omega
          have hon : onB ss kb k = hasB ss[k] kb := by simp [onB, List.getD_eq_getElem?_getD, hlt]
          have HON := Lib.hid hon; clear hon
          have HW1 : Hid (wasOn (onB ss kb) (k + 1) = onB ss kb k) := Lib.hid (by simp [wasOn])
          have HY := Lib.hid (HA.out _ (List.getElem_mem hlt))
          generalize ss[k] = s at hcell HON HY
          have HR0 := Lib.hid (runsU_no (p := onB ss kb) (k := k)); have HR1 := Lib.hid (runsU_new (p := onB ss kb) (k := k)); have HR2 := Lib.hid (runsU_on (p := onB ss kb) (k := k))
          generalize hrs : runsU (onB ss kb) k = rs at hown HI HR0 HR1 HR2
          generalize hrs1 : runsU (onB ss kb) (k + 1) = rs1 at HR0 HR1 HR2
          have HRS1 := Lib.hid hrs1
          clear hc hrs hrs1
          cases hh : hasB s kb with
          | false =>
            have hon : onB ss kb k = false := HON.out.trans hh
            have HE := Lib.hid (HR0.out hon); have HWE := Lib.hid (HW1.out.trans hon)
            clear hon
            generalize wasOn (onB ss kb) k = bf
            go_wp2_with fail
            refine (has_any _ _ _ HY.out HKB.out).mono ?_
            rintro e w' ⟨rfl, rfl⟩
            rw [hh]
            go_wp2_with fail
            refine (has_any _ _ _ HY.out HKB.out).mono ?_
            rintro e w' ⟨rfl, rfl⟩
            rw [hh]
            go_wp2
            go_roundw
            case rel => exact ⟨k + 1, A2, c2, by omega, by go_num, by rw [HRS1.out, HE.out], by rw [HRS1.out, HE.out]; exact hown, by rw [HWE.out], hb⟩
            case measure => simp [intOf]; omega
          | true =>
            have hon : onB ss kb k = true := HON.out.trans hh
            have HWE := Lib.hid (HW1.out.trans hon)
            cases hbf : wasOn (onB ss kb) k with
            | false =>
              have HE := Lib.hid (HR1.out hon hbf)
              have hsz := HI.out.2.1
              clear hon hbf
              go_wp2_with fail
              refine (has_any _ _ _ HY.out HKB.out).mono ?_
              rintro e w' ⟨rfl, rfl⟩
              rw [hh]
              go_wp2_with (first
                | (at_builtin; refine wpList_app wr rfl (.tmp 58) (.tmp 61) _ rfl w.heap.size 80 (.agg #[.int .i64 0, .int .i64 0]) 2 16 Try.underlying77 infoP rfl (by omega) (.slice A2 rs.length c2) rs.length _ rfl hown #[.int .i64 (k : Int), .int .i64 1] _ _ rfl rfl ?_ (by omega) (by omega) hb.size ?_; rotate_left; intro A3 c3 w3 hown3 hg3 hsz3 _)
                | fail)
              · have HO3 : Hid (Ow w3 w.heap.size 80 2 (.slice A3 (rs.length + 1) c3) (rs.length + 1) ((rs ++ [((k : Int), 1)]).flatMap cellsP)) := Lib.hid (by rw [cellsP_snoc]; exact hown3)
                have HB3 := Lib.hid (below_own hb hown hg3 hb.size (Nat.le_refl _))
                clear hown3 hg3 hown hb
                refine (has_any _ _ _ HY.out HKB.out).mono ?_
                rintro e w' ⟨rfl, rfl⟩
                rw [hh]
                go_wp2
                go_roundw
                case rel => exact ⟨k + 1, A3, c3, by omega, by go_num, by rw [HRS1.out, HE.out]; simp, by rw [HRS1.out, HE.out]; simpa using HO3.out, by rw [HWE.out], HB3.out⟩
                case measure => simp [intOf]; omega
              · simp [Value.oneCell']
            | true =>
              have HE := Lib.hid (HR2.out hon hbf)
              obtain ⟨l, x, y, hl, hxy⟩ := HI.out.2.2 hbf
              have hyb := (HI.out.1 (x, y) (by rw [hl]; simp))
              have hlen : rs.length = l.length + 1 := by rw [hl]; simp
              have hsz := HI.out.2.1
              obtain ⟨hy0, hy1, hy2⟩ := hyb
              simp only at hy0 hy1 hy2
              rw [hlen] at hown hsz
              rw [hlen]
              rcases hown.form with ⟨_, h0, _⟩ | ⟨g, c4, hA2, hlo, hltg, _⟩
              · omega
              · injection hA2 with hA2 _ hc2
                subst hA2 hc2
                have hcl : (rs.flatMap cellsP).length = (l.length + 1) * 2 := by rw [flat_len _ _ cellsP_len, hlen]
                have hcy : wr.cell? ⟨g, l.length * 2 + 1, none⟩ = some (.int .i64 y) := by
                  rw [hown.cell (k := l.length * 2 + 1) (by omega)]
                  have h9 := flat_get cellsP 2 cellsP_len rs l.length (by omega) 1 (by omega)
                  rw [List.getElem?_eq_getElem (by omega)] at h9
                  injection h9 with h9
                  rw [h9]
                  have h10 : rs[l.length]'(by omega) = (x, y) := by simp [hl]
                  rw [h10]
                have hfy := hown.free (l.length * 2 + 1)
                have hnew := hown.set (l.length * 2 + 1) (.int .i64 (y + 1))
                have hgr := hown.grow (k := l.length * 2 + 1) (.int .i64 (y + 1))
                rw [hl, cellsP_bump] at hnew
                have HE2 : Hid (rs1 = l ++ [(x, y + 1)]) := Lib.hid (by rw [HE.out, hl, bump_snoc])
                have HB3 := Lib.hid (hb.setCell (p := ⟨g, l.length * 2 + 1, none⟩) hlo (.int .i64 (y + 1)))
                have HN := Lib.hid hnew
                have hql : (l.length : Int) ≤ 24 := by omega
                clear hnew hgr hown hon hbf hl hlen hcl hb HI
                have HLQ : Hid (rs1.length = l.length + 1) := Lib.hid (by rw [HE2.out]; simp)
                generalize l.length = q at hcy hfy HB3 HN HLQ hsz hql
                go_wp2_with fail
                refine (has_any _ _ _ HY.out HKB.out).mono ?_
                rintro e w' ⟨rfl, rfl⟩
                rw [hh]
                go_wp2
                go_region
                go_wp2_with fail
                refine (has_any _ _ _ HY.out HKB.out).mono ?_
                rintro e w' ⟨rfl, rfl⟩
                rw [hh]
                go_wp2
                go_roundw
                case rel => exact ⟨k + 1, some ⟨g, 0, none⟩, c2, by omega, by go_num, by rw [HRS1.out, HLQ.out], by rw [HRS1.out, HLQ.out, HE2.out]; exact ⟨HN.out.own, HN.out.le⟩, by rw [HWE.out], HB3.out.drew⟩
                case measure => simp [intOf]; omega
        · obtain rfl : k = ss.length := by omega
          have HO2 := Lib.hid hown; clear hown
          go_wp2
          go_ret2
          exact ⟨A2, c2, by rw [E1.out, E2.out]; rfl, by rw [E2.out]; exact HO2.out, hb⟩
  · have h0n : (cd != 0) = true := by simpa using h0
    have h0e : (cd == 0) = false := by simpa using h0
    have E1 : Hid (codeO ts ss kb = cd) := Lib.hid (by rw [HCO.out, if_neg h0])
    have E2 : Hid (runsR ts ss kb = []) := Lib.hid (by rw [HR.out, E1.out, if_neg h0])
    clear h0
    go_wp2
    go_ret2
    exact ⟨none, 0, by rw [E1.out, E2.out]; rfl, by rw [E2.out]; exact HNIL.out _, hb1⟩

end Go.Proofs.Ytjleabgoajoegaa
