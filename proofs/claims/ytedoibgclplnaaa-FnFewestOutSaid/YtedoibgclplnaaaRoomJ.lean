/-
l00Has and WaitCircle of the reference. Condition: the slices read as lists.
-/
import Derived.Test.YtedoibgclplnaaaRoomI
namespace Go.Proofs.Ytedoibgclplnaaa
open Go.RowKit
set_option linter.unusedVariables false

theorem l00Has_any (v : Value) (xs : List Int) (x : Int) (w : World) (hv : SlI w v xs) :
    Calls Try.prog 70 #[v, .int .i64 x] w fun e w' => e = .returned (.bool (decide (x ∈ xs))) ∧ w = w' := by
  obtain ⟨A, c, rfl, hla, ha⟩ := hv.op
  have HA := Lib.hid ha
  clear hv ha
  go_enter Try.func70, Try.ntmps70
  go_wp2
  go_loop [5] (fun i => ∃ k : Nat, k ≤ xs.length ∧ i = .int .i64 k ∧ Hid (∀ y ∈ xs.take k, y ≠ x)) (fun i => xs.length - (intOf i).toNat)
  case atStart => exact ⟨0, Nat.zero_le _, rfl, Lib.hid (by simp)⟩
  case round =>
    obtain ⟨k, hk, rfl, hall⟩ := hrel
    by_cases hlt : k < xs.length
    · obtain ⟨b, o, rfl, hbs, hc⟩ := HA.out k hlt
      have hcell := hc k hlt
      have hlti : (k : Int) < (xs.length : Int) := by omega
      have HT : Hid (xs.take (k + 1) = xs.take k ++ [xs[k]]) := Lib.hid (List.take_succ_eq_append_getElem hlt)
      have HM : Hid (xs[k] ∈ xs) := Lib.hid (List.getElem_mem hlt)
      generalize xs[k] = y at hcell HT HM
      clear hc
      by_cases hy : y = x
      · have HD : Hid (decide (x ∈ xs) = true) := Lib.hid (by rw [decide_eq_true_iff, ← hy]; exact HM.out)
        have hyb : (y == x) = true := by simpa using hy
        clear hy
        go_wp2
        go_ret
        exact ⟨ret_bool HD.out.symm, rfl⟩
      · have hyb : (y == x) = false := by simpa using hy
        have HD : Hid (∀ z ∈ xs.take (k + 1), z ≠ x) := Lib.hid (by
          rw [HT.out]; intro z hz; rcases List.mem_append.1 hz with hz | hz
          · exact hall.out z hz
          · simp at hz; subst hz; exact hy)
        clear hy
        go_wp2
        go_round
        case rel => exact ⟨k + 1, by omega, by go_num, HD⟩
        case measure => simp [intOf]; omega
    · have HD : Hid (decide (x ∈ xs) = false) := Lib.hid (by
        rw [decide_eq_false_iff_not]; intro h
        have h2 := hall.out x (by rw [List.take_of_length_le (by omega)]; exact h)
        exact h2 rfl)
      go_wp2
      go_ret
      exact ⟨ret_bool HD.out.symm, rfl⟩

theorem wpList_one {w : World} {lo : Nat} (hlo : lo ≤ w.heap.size) (x : Int) : OwI (w.alloc (.cells #[.int .i64 x] 2)) lo (.slice (some ⟨w.heap.size, 0, none⟩) 1 1) [x] := ⟨World.ownsRow_lit w #[.int .i64 x] 1 hlo (by unfold maxLen; omega) (by simp), by simp⟩

set_option maxHeartbeats 2000000 in
theorem specCircle_any (v u : Value) (rooms : List Int) (ts : List Guest) (w : World) (hv : SlI w v rooms ∧ rooms.length ≤ 1048576) (hu : SlGuest w u ts ∧ ts.length ≤ 1048576) :
    Calls Try.prog 38 #[v, u] w fun e w' => ∃ A c, e = .returned (.tuple #[.slice A (circR rooms ts).1.length c, .int .i64 (circR rooms ts).2]) ∧ OwI w' w.heap.size (.slice A (circR rooms ts).1.length c) (circR rooms ts).1 ∧ Below w.heap.size w w' := by
  obtain ⟨hv, hl⟩ := hv
  obtain ⟨hu, hts⟩ := hu
  have HV := Lib.hid hv; have HU := Lib.hid hu
  obtain ⟨B, d, rfl, hlb, _⟩ := hu.op
  clear hv hu
  have HNIL := Lib.hid (fun w' : World => owI_nilR w' w.heap.size)
  go_enter Try.func38, Try.ntmps38
  go_wp2_with fail
  refine (l10Ok_any _ _ rooms ts _ HV.out HU.out hl hts).mono ?_
  rintro e w1 ⟨rfl, hb1⟩
  cases hok : roomsOk rooms ts with
  | false =>
    have E : Hid (circR rooms ts = ([], 1)) := Lib.hid (by unfold circR; rw [hok]; rfl)
    go_wp2
    go_ret2
    exact ⟨none, 0, by rw [E.out]; rfl, by rw [E.out]; exact HNIL.out _, hb1⟩
  | true =>
    have E : Hid (circR rooms ts = (match circT rooms ts 0 with | some o => (o, 0) | none => ([], 3))) := Lib.hid (by unfold circR; rw [hok]; rfl)
    have HOK := Lib.hid hok
    obtain ⟨-, -, h4, -, -⟩ := roomsOk_at hok
    have HB1 := Lib.hid hb1
    clear hok hb1
    go_wp2
    go_loopw [6, 7, 8] (fun i _ _ wr => ∃ k : Nat, k ≤ ts.length ∧ i = .int .i64 k ∧ Hid (circT rooms ts 0 = circT rooms ts k) ∧ Below w.heap.size w wr) (fun i _ _ _ => ts.length - (intOf i).toNat)
    case atStart => exact ⟨0, Nat.zero_le _, rfl, Lib.hid rfl, HB1.out⟩
    case round =>
      obtain ⟨k, hk, rfl, hT, hb⟩ := hrel
      by_cases hlt : k < ts.length
      · have hki : (k : Int) < (ts.length : Int) := by omega
        have HMISS : Hid ((∀ o, ¬ Circ (nxK rooms ts) ts.length k o) → circT rooms ts 0 = circT rooms ts (k + 1)) := Lib.hid fun h => hT.out.trans (circT_miss hlt h)
        have HHIT : Hid (∀ o, Circ (nxK rooms ts) ts.length k o → circR rooms ts = (o, 0)) := Lib.hid fun o h => by rw [E.out, hT.out, circT_hit hlt h]
        have HOB : Hid (∀ t, orb (nxK rooms ts) k t < (ts.length : Int) ∧ -1 ≤ orb (nxK rooms ts) k t) := Lib.hid (orb_bd hlt)
        have HAFT : Hid (∀ W (j : Nat) (hj : j < ts.length), waitK rooms ts j = true → Below w.heap.size w W → Calls Try.prog 69 #[v, .slice B ts.length d, .int .i64 j] W fun e w' => e = .returned (.int .i64 (nxK rooms ts j)) ∧ Below W.heap.size W w') :=
          Lib.hid fun W j hj hw hW => by rw [nxK_yes hj hw]; exact l10After_any _ _ rooms ts j W (HV.out.ex hW) (HU.out.ex hW) HOK.out hj
        have HB := Lib.hid hb
        have HWT := Lib.hid (l10Waits_any _ _ rooms ts k wr (HV.out.ex hb) (HU.out.ex hb) HOK.out hlt)
        have HWK : Hid (waitK rooms ts k = waitP rooms ts ts[k]) := Lib.hid (waitK_at hlt)
        generalize waitP rooms ts ts[k] = p at HWT HWK
        clear hb
        go_wp2_with fail
        refine HWT.out.mono ?_
        rintro e w2 ⟨rfl, hb2⟩
        have HB2 := Lib.hid (below_next0 HB.out hb2)
        clear hb2
        cases p with
        | false =>
          have HM : Hid (circT rooms ts 0 = circT rooms ts (k + 1)) := Lib.hid (HMISS.out (no_circ_neg (t := 1) (by omega) alive_one (by rw [orb_next (t := 0) (j := k) rfl, nxK_no hlt HWK.out]; omega)))
          go_wp2
          go_roundw
          case rel => exact ⟨k + 1, by omega, by go_num, HM, HB2.out⟩
          case measure => simp [intOf]; omega
        | true =>
          have HK0 : Hid (∀ {t j : Nat}, orb (nxK rooms ts) k t = (j : Int) → waitK rooms ts j = true) := Lib.hid (fun h => orb_waits HWK.out h)
          have HNX : Hid (orb (nxK rooms ts) k 1 = nxK rooms ts k) := Lib.hid (orb_next (t := 0) (j := k) rfl)
          have HZ : Hid (nxK rooms ts k < (ts.length : Int) ∧ -1 ≤ nxK rooms ts k) := Lib.hid (by rw [← HNX.out]; exact HOB.out 1)
          have HEM := Lib.hid (wpList_one HB2.out.size (k : Int))
          have HBA := Lib.hid (HB2.out.alloc HB2.out.size (.cells #[.int .i64 (k : Int)] 2))
          have HC := Lib.hid (HAFT.out _ k hlt HWK.out HBA.out)
          have HOL : Hid (orbL (nxK rooms ts) k 1 = [(k : Int)]) := Lib.hid rfl
          generalize nxK rooms ts k = z at HC HNX HZ
          go_wp2_with fail
          refine HC.out.mono ?_
          rintro e w3 ⟨rfl, hb3⟩
          have HB3 := Lib.hid (below_next0 HBA.out hb3)
          have HO3 := Lib.hid (HEM.out.ex hb3)
          clear hb3
          go_wp2
          go_loopg [7, 8] ts.length (fun gg out at' wr => ∃ (t : Nat) (A2 : Option Addr) (n c2 : Nat) (y : Int), 1 ≤ t ∧ t ≤ ts.length ∧ ts.length - t ≤ gg ∧ at' = .int .i64 y ∧ Hid (y = orb (nxK rooms ts) k t) ∧ out = .slice A2 n c2 ∧ n ≤ 8 ∧ Hid ((orbL (nxK rooms ts) k t).length = n) ∧ OwI wr w.heap.size (.slice A2 n c2) (orbL (nxK rooms ts) k t) ∧ Hid (Alive (nxK rooms ts) k t) ∧ Hid ((orbL (nxK rooms ts) k t).Nodup) ∧ Below w.heap.size w wr)
          case atStart => exact ⟨1, _, 1, _, z, Nat.le_refl _, by omega, by omega, rfl, Lib.hid HNX.out.symm, rfl, by omega, Lib.hid (by rw [HOL.out]; rfl), by rw [HOL.out]; exact HO3.out, Lib.hid alive_one, Lib.hid (by rw [HOL.out]; simp), HB3.out⟩
          case round =>
            obtain ⟨t, A2, n, c2, y, ht, htn, hg, rfl, hy, rfl, hn8, hn, hown, hal, hnd, hb⟩ := hrel
            have HOW := Lib.hid hown; have HB4 := Lib.hid hb
            clear hown hb
            by_cases hy0 : y < 0
            · have HM : Hid (circT rooms ts 0 = circT rooms ts (k + 1)) := Lib.hid (HMISS.out (no_circ_neg ht hal.out (by rw [← hy.out]; exact hy0)))
              have hyk : (y == (k : Int)) = false := by simp; omega
              have hy1 : decide (0 ≤ y) = false := by simpa using hy0
              go_wp2
              go_roundw
              case rel => exact ⟨k + 1, by omega, by go_num, HM, HB4.out⟩
              case measure => simp [intOf]; omega
            · obtain ⟨j, rfl⟩ := Int.eq_ofNat_of_zero_le (show 0 ≤ y by omega)
              by_cases hyk : (j : Int) = (k : Int)
              · have HH : Hid (circR rooms ts = (orbL (nxK rooms ts) k t, 0)) := Lib.hid (HHIT.out _ (circ_at ht htn hal.out (by rw [← hy.out]; exact hyk)))
                have hyk1 : ((j : Int) == (k : Int)) = true := by simpa using hyk
                have hyk2 : ((j : Int) != (k : Int)) = false := by simpa using hyk
                clear hyk
                go_wp2
                go_ret2
                exact ⟨A2, c2, by rw [HH.out]; simp only [hn.out]; rfl, by rw [HH.out]; simp only [hn.out]; exact HOW.out, HB4.out⟩
              · have hyk1 : ((j : Int) == (k : Int)) = false := by simpa using hyk
                have hyk2 : ((j : Int) != (k : Int)) = true := by simpa using hyk
                have hj : j < ts.length := by have := (HOB.out t).1; rw [← hy.out] at this; omega
                have HHAS := Lib.hid (l00Has_any (.slice A2 n c2) (orbL (nxK rooms ts) k t) (j : Int) wr HOW.out.sl)
                cases hmem : decide ((j : Int) ∈ orbL (nxK rooms ts) k t) with
                | true =>
                  rw [hmem] at HHAS
                  have HM : Hid (circT rooms ts 0 = circT rooms ts (k + 1)) := Lib.hid (HMISS.out (no_circ_rep ht hal.out (by rw [← hy.out]; omega) (by rw [← hy.out]; exact hyk) (by rw [← hy.out]; exact of_decide_eq_true hmem)))
                  clear hyk hmem
                  go_wp2_with fail
                  refine HHAS.out.mono ?_
                  rintro e w5 ⟨rfl, rfl⟩
                  go_wp2
                  go_roundw
                  case rel => exact ⟨k + 1, by omega, by go_num, HM, HB4.out⟩
                  case measure => simp [intOf]; omega
                | false =>
                  rw [hmem] at HHAS
                  have HY : Hid (orbL (nxK rooms ts) k (t + 1) = orbL (nxK rooms ts) k t ++ [(j : Int)]) := Lib.hid (by rw [orbL_succ, ← hy.out])
                  have HND : Hid ((orbL (nxK rooms ts) k (t + 1)).Nodup) := Lib.hid (by
                    rw [HY.out, List.nodup_append]
                    refine ⟨hnd.out, by simp, fun a ha b hb => ?_⟩
                    simp at hb; subst hb
                    intro e; subst e
                    exact of_decide_eq_false hmem ha)
                  have HAL : Hid (Alive (nxK rooms ts) k (t + 1)) := Lib.hid (alive_succ hal.out (by rw [← hy.out]; omega) (by rw [← hy.out]; exact hyk))
                  have htl : t + 1 ≤ ts.length := orb_short (fun i _ => (nxK_bd (by omega) i).1) hlt HAL.out HND.out
                  have HC2 := Lib.hid (fun W (hW : Below w.heap.size w W) => HAFT.out W j hj (HK0.out hy.out.symm) hW)
                  have HNX2 : Hid (orb (nxK rooms ts) k (t + 1) = nxK rooms ts j) := Lib.hid (orb_next hy.out.symm)
                  have HLN : Hid ((orbL (nxK rooms ts) k (t + 1)).length = n + 1) := Lib.hid (by rw [HY.out, List.length_append, hn.out]; rfl)
                  have hn7 : n ≤ 7 := by have h1 := hn.out; rw [orbL_len] at h1; omega
                  generalize nxK rooms ts j = z2 at HC2 HNX2
                  clear hyk hmem
                  go_wp2_with fail
                  refine HHAS.out.mono ?_
                  rintro e w5 ⟨rfl, rfl⟩
                  go_wp2_with (first | (at_builtin; refine wpList_appI wr rfl (.tmp 43) (.tmp 45) rfl w.heap.size w.heap.size w A2 n c2 _ _ _ _ rfl HOW.out hn.out rfl HB4.out (Nat.le_refl _) HB4.out.size (by omega) ?_; intro A3 c3 w3 hown3 hg3 hsz3 hb3) | fail)
                  rw [← HY.out] at hown3
                  have HO5 := Lib.hid hown3; have HB5 := Lib.hid hb3
                  clear hown3 hb3 hg3 hsz3
                  go_wp2_with fail
                  refine (HC2.out _ HB5.out).mono ?_
                  rintro e w6 ⟨rfl, hb6⟩
                  have HB6 := Lib.hid (below_next0 HB5.out hb6)
                  have HO6 := Lib.hid (HO5.out.ex hb6)
                  clear hb6
                  go_wp2
                  go_roundg (ts.length - (t + 1))
                  case measure => omega
                  case rel => exact ⟨t + 1, A3, n + 1, c3, z2, by omega, htl, by omega, rfl, Lib.hid HNX2.out.symm, rfl, by omega, HLN, HO6.out, HAL, HND, HB6.out⟩
      · have hkn : k = ts.length := by omega
        have E2 : Hid (circR rooms ts = ([], 3)) := Lib.hid (by rw [E.out, hT.out, hkn, circT_end])
        subst hkn
        go_wp2
        go_ret2
        exact ⟨none, 0, by rw [E2.out]; rfl, by rw [E2.out]; exact HNIL.out _, hb⟩
end Go.Proofs.Ytedoibgclplnaaa
