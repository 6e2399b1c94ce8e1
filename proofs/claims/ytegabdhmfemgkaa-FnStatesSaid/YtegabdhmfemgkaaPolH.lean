/-
Carriers that can go on: l12Inside and l12Moves of the reference. Condition: the slices read as lists; valid halls and ways; one place for each way.
-/
import Derived.Test.YtegabdhmfemgkaaPolG
import Derived.Test.YtegabdhmfemgkaaIntN
namespace Go.Proofs.Ytegabdhmfemgkaa
open Go.RowKit
set_option linter.unusedVariables false

/-- carrier c can go on -/
def mvB (halls : List Int) (ways : List (List Int)) (most : Int) (pl : List Int) (c : Nat) : Bool :=
  if ((ways.getD c []).length : Int) < plc pl c then false
  else if plc pl c = 0 ∧ most ≤ allF ways pl ways.length then false
  else if hallP (ways.getD c []) (plc pl c + 1) < 0 then true
  else decide (cntF ways pl ways.length (hallP (ways.getD c []) (plc pl c + 1)).toNat < halls.getD (hallP (ways.getD c []) (plc pl c + 1)).toNat 0)
def movesK (halls : List Int) (ways : List (List Int)) (most : Int) (pl : List Int) (k : Nat) : List Int := ((List.range k).filter (mvB halls ways most pl)).map (fun (c : Nat) => (c : Int))
def movesL (halls : List Int) (ways : List (List Int)) (most : Int) (pl : List Int) : List Int := movesK halls ways most pl ways.length
theorem movesK_no {halls : List Int} {ways : List (List Int)} {most : Int} {pl : List Int} {k : Nat} (h : mvB halls ways most pl k = false) : movesK halls ways most pl (k + 1) = movesK halls ways most pl k := by
  unfold movesK
  rw [List.range_succ, List.filter_append]
  simp [h]
theorem movesK_yes {halls : List Int} {ways : List (List Int)} {most : Int} {pl : List Int} {k : Nat} (h : mvB halls ways most pl k = true) : movesK halls ways most pl (k + 1) = movesK halls ways most pl k ++ [(k : Int)] := by
  unfold movesK
  rw [List.range_succ, List.filter_append]
  simp [h]
theorem movesK_len (halls : List Int) (ways : List (List Int)) (most : Int) (pl : List Int) (k : Nat) : (movesK halls ways most pl k).length ≤ k := by
  unfold movesK
  rw [List.length_map]
  exact Nat.le_trans (List.length_filter_le _ _) (by simp)
theorem mvB_at {halls : List Int} {ways : List (List Int)} {most : Int} {pl : List Int} {c : Nat} (hc : c < ways.length) : mvB halls ways most pl c =
    (if (ways[c].length : Int) < plc pl c then false
    else if plc pl c = 0 ∧ most ≤ allF ways pl ways.length then false
    else if hallP ways[c] (plc pl c + 1) < 0 then true
    else decide (cntF ways pl ways.length (hallP ways[c] (plc pl c + 1)).toNat < halls.getD (hallP ways[c] (plc pl c + 1)).toNat 0)) := by
  unfold mvB
  rw [show ways.getD c [] = ways[c] by simp [List.getD_eq_getElem?_getD, hc]]
theorem hallP_neg {way : List Int} {p : Int} (h : p < 1 ∨ (way.length : Int) < p) : hallP way p = -1 := by unfold hallP; rw [if_pos h]
theorem hallP_pos {way : List Int} {q : Nat} (h : q < way.length) : hallP way ((q : Int) + 1) = way[q] := by
  unfold hallP
  rw [if_neg (by omega), show ((q : Int) + 1 - 1).toNat = q by omega]
  simp [List.getD_eq_getElem?_getD, h]

set_option maxHeartbeats 1000000 in
theorem l12Inside_any (u r : Value) (m : Nat) (ways : List (List Int)) (pl : List Int) (w : World) (hu : SlII w u ways) (hr : SlI w r pl) (hlen : pl.length = ways.length) (h4 : ways.length ≤ 4) (hway : ∀ way ∈ ways, wayOk m way = true) :
    Calls Try.prog 107 #[u, r] w fun e w' => e = .returned (.int .i64 (allF ways pl ways.length)) ∧ Below w.heap.size w w' := by
  obtain ⟨B, f, rfl, hlb, hat⟩ := hu.op
  obtain ⟨R, g, rfl, hlr, hrt⟩ := hr.op
  have HAT := Lib.hid hat; have HRT := Lib.hid hrt
  have HLEN := Lib.hid hlen
  have HWL : Hid (∀ k (h : k < ways.length), 1 ≤ ways[k].length ∧ ways[k].length ≤ 5) := Lib.hid fun k h => (wayOk_at (hway _ (List.getElem_mem h))).1
  have HPO : Hid (∀ k (h : k < ways.length), (allF ways pl (k + 1) = allF ways pl k + (if inB (plc pl k) 1 (ways[k].length : Int) = true then 1 else 0))) := Lib.hid fun k h => by
    show allF ways pl k + _ = _
    rw [← hallK_at pl h]
    have hin := hallP_in (hway _ (List.getElem_mem h)) (plc pl k)
    cases hi : inB (plc pl k) 1 (ways[k].length : Int) with
    | true =>
      have hib := inB_iff.1 hi
      obtain ⟨q, hq⟩ := Int.eq_ofNat_of_zero_le (show (0 : Int) ≤ plc pl k - 1 by omega)
      have hql : q < ways[k].length := by omega
      have hpq : plc pl k = (q : Int) + 1 := by omega
      rw [hpq, hallP_pos hql]
      have := (wayOk_at (hway _ (List.getElem_mem h))).2 _ (List.getElem_mem hql)
      rw [if_pos (by omega), if_pos rfl]
    | false =>
      have hbad : plc pl k < 1 ∨ (ways[k].length : Int) < plc pl k := by
        rcases Int.lt_or_le (plc pl k) 1 with h | h
        · exact .inl h
        · rcases Int.lt_or_le (ways[k].length : Int) (plc pl k) with h2 | h2
          · exact .inr h2
          · have := inB_iff.2 ⟨h, h2⟩; rw [this] at hi; cases hi
      rw [hallP_neg hbad, if_neg (by omega)]; rfl
  rw [hlen]
  rw [hlen] at hlr
  clear hu hr hat hrt hway hlen
  go_enter Try.func107, Try.ntmps107
  go_wp2
  go_loopw [5, 6] (fun n i wr => ∃ k : Nat, k ≤ ways.length ∧ i = .int .i64 k ∧ n = .int .i64 (allF ways pl k) ∧ Below w.heap.size w wr) (fun _ i _ => ways.length - (intOf i).toNat)
  case atStart => exact ⟨0, Nat.zero_le _, rfl, rfl, Below.refl _ _⟩
  case round =>
    obtain ⟨k, hk, rfl, rfl, hb⟩ := hrel
    have HBB := Lib.hid hb
    by_cases hkw : k < ways.length
    · have hlt : k < pl.length := by rw [HLEN.out]; exact hkw
      have hki : (k : Int) < (ways.length : Int) := by omega
      obtain ⟨b, o, rfl, hbs, hcc⟩ := HRT.out k hlt
      have hp := cell_plus ((hb.cell (p := ⟨b, o + k, none⟩) hbs).trans (hcc k hlt))
      obtain ⟨bw, ow, A', c', rfl, hbsw, hcell, hrow⟩ := HAT.out k hkw
      have hpw := cell_plus ((hb.cell (p := ⟨bw, ow + k, none⟩) hbsw).trans hcell)
      have HX : Hid (pl[k] = plc pl k) := Lib.hid (by simp [plc, List.getD_eq_getElem?_getD, hlt])
      rw [HX.out] at hp
      have hwl := HWL.out k hkw
      have HE := Lib.hid (HPO.out k hkw)
      have hab := allF_bd ways pl k
      generalize plc pl k = p at hp HE
      generalize ways[k].length = L at hpw HE hwl
      have HLI := Lib.hid (fun e => l00In_any p 1 (L : Int) (plus wr e))
      clear hb hcc hcell hrow
      cases hin : inB p 1 (L : Int) with
      | false =>
        rw [hin] at HLI HE
        clear hin
        go_wp2
        refine wp_region_plus (by kernel_rfl) (by kernel_rfl) ?_
        repeat (go_big_quiet_step (((go_at_call 90; exact plus_same (HLI.out _)))))
        refine wpQuiet_nil ?_
        intro wq hwq
        replace hwq := below_of_plus hwq
        have HB3 := Lib.hid (below_next0 HBB.out hwq)
        clear hwq
        go_wp2
        go_roundw
        case rel => exact ⟨k + 1, by omega, by go_num, by rw [HE.out]; simp, HB3.out⟩
        case measure => simp [intOf]; omega
      | true =>
        rw [hin] at HLI HE
        clear hin
        go_wp2
        refine wp_region_plus (by kernel_rfl) (by kernel_rfl) ?_
        repeat (go_big_quiet_step (((go_at_call 90; exact plus_same (HLI.out _)))))
        refine wpQuiet_nil ?_
        intro wq hwq
        replace hwq := below_of_plus hwq
        have HB3 := Lib.hid (below_next0 HBB.out hwq)
        clear hwq
        go_wp2
        go_roundw
        case rel => exact ⟨k + 1, by omega, by go_num, by rw [HE.out]; simp, HB3.out⟩
        case measure => simp [intOf]; omega
    · have hkn : k = ways.length := by omega
      subst hkn
      go_wp2
      go_ret
      exact ⟨rfl, hb⟩
end Go.Proofs.Ytegabdhmfemgkaa
