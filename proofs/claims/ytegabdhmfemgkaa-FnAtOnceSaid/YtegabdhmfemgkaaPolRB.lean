/-
CountReached, FirstDeadlock, IsFree, MostAtOnce of the reference: the walks. Condition: the slices read as lists.
-/
import Derived.Test.YtegabdhmfemgkaaPolRA
import Derived.Test.YtegabdhmfemgkaaPolZ
namespace Go.Proofs.Ytegabdhmfemgkaa
open Go.RowKit
set_option linter.unusedVariables false
set_option linter.unusedSimpArgs false

/-- the index of the first deadlock, -1 for none -/
def DeadIx (halls : List Int) (ways : List (List Int)) (most : Int) (sts : List (List Int)) (r : Int) : Prop :=
  (r = -1 ∧ ∀ j, (hj : j < sts.length) → isDead halls ways most sts[j] = false) ∨ ∃ i : Nat, ∃ hi : i < sts.length, r = (i : Int) ∧ isDead halls ways most sts[i] = true ∧ ∀ j, (hj : j < sts.length) → j < i → isDead halls ways most sts[j] = false
def DeadPost (halls : List Int) (ways : List (List Int)) (most : Int) (sts : List (List Int)) (w : World) (e : Ending) (w' : World) : Prop := ∃ r : Int, e = .returned (.int .i64 r) ∧ DeadIx halls ways most sts r ∧ Below w.heap.size w w'

set_option maxRecDepth 100000 in
set_option maxHeartbeats 4000000 in
theorem l12Deadlock_any (v u x : Value) (halls : List Int) (ways : List (List Int)) (sts : List (List Int)) (most : Int) (w : World) (hv : SlI w v halls) (hu : SlII w u ways) (hx : SlII w x sts) (ht : travOk halls ways = true) (hg : ∀ s ∈ sts, Good (lensW ways) s) :
    Calls Try.prog 67 #[v, u, x, .int .i64 most] w (DeadPost halls ways most sts w) := by
  obtain ⟨_, _, h4, hway⟩ := travOk_at ht
  have HDO : Hid (∀ (s : List Int), Good (lensW ways) s → ∀ (r : Value) (W : World), SlI W r s → Below w.heap.size w W → _) := Lib.hid fun s hs r W h hW => l12Done_any u r ways s W (hu.ex hW) h hs.at_.1
  have HMO : Hid (∀ (s : List Int), Good (lensW ways) s → ∀ (r : Value) (W : World), SlI W r s → Below w.heap.size w W → _) := Lib.hid fun s hs r W h hW => l12Moves_any v u r halls ways s most W (hv.ex hW) (hu.ex hW) h hs.at_.1 ht (fun k hk => (hs.at_.2 k hk).1)
  have HX := Lib.hid hx; have HG := Lib.hid hg
  obtain ⟨A, d, rfl, hla, ha⟩ := hv.op
  obtain ⟨B, e, rfl, hlb, hat⟩ := hu.op
  obtain ⟨C, f, rfl, hlc, hct⟩ := hx.op
  have HCT := Lib.hid hct
  clear hv hu hx ha hat hct ht hway hg
  go_enter Try.func67, Try.ntmps67
  go_wp2
  go_loopw [9] (fun i wr => ∃ k : Nat, i = .int .i64 k ∧ k ≤ sts.length ∧ Hid (∀ j, (hj : j < sts.length) → j < k → isDead halls ways most sts[j] = false) ∧ Hid (Below w.heap.size w wr)) (fun i _ => sts.length - (intOf i).toNat)
  case atStart => exact ⟨0, rfl, Nat.zero_le _, Lib.hid (fun i _ h => by omega), Lib.hid (Below.refl _ _)⟩
  case round =>
    obtain ⟨k, rfl, hk, HP, HB⟩ := hrel
    by_cases hlt : k < sts.length
    · have hki : (k : Int) < (sts.length : Int) := by omega
      obtain ⟨b, o, A', c', rfl, hbs, hc, hrow⟩ := HCT.out k hlt
      have HGD : Hid (Good (lensW ways) sts[k]) := Lib.hid (HG.out _ (List.getElem_mem hlt))
      have hc1 := (HB.out.cell (p := ⟨b, o + k, none⟩) hbs).trans hc
      have HDD : Hid (isDead halls ways most sts[k] = (!doneS ways sts[k] && decide ((movesL halls ways most sts[k]).length = 0))) := Lib.hid rfl
      have HSU : Hid (isDead halls ways most sts[k] = false → ∀ j, (hj : j < sts.length) → j < k + 1 → isDead halls ways most sts[j] = false) := Lib.hid fun h j hj hjk => by
        by_cases e : j < k
        · exact HP.out j hj e
        · obtain rfl : j = k := by omega
          exact h
      have HFI : Hid (isDead halls ways most sts[k] = true → DeadIx halls ways most sts (k : Int)) := Lib.hid fun h => .inr ⟨k, hlt, rfl, h, HP.out⟩
      have HRW := Lib.hid (fun W (hW : Below w.heap.size w W) => hrow.ex hW)
      generalize sts[k] = s at hc1 HGD HDD HSU HFI HRW
      have HD := Lib.hid (HDO.out s HGD.out _ wr (HRW.out _ HB.out) HB.out)
      clear hc hrow
      cases hd : doneS ways s with
      | true =>
        have HDF : Hid (isDead halls ways most s = false) := Lib.hid (by rw [HDD.out, hd]; rfl)
        rw [hd] at HD
        clear hd
        go_wp2_with fail
        refine HD.out.mono ?_
        rintro e1 w1 ⟨rfl, hb1⟩
        have HB1 := Lib.hid (below_next0 HB.out hb1)
        clear hb1 hc1
        go_wp2
        go_roundw
        case rel => exact ⟨k + 1, by go_num, by omega, Lib.hid (HSU.out HDF.out), HB1⟩
        case measure => simp [intOf]; omega
      | false =>
        have HDF : Hid (isDead halls ways most s = decide ((movesL halls ways most s).length = 0)) := Lib.hid (by rw [HDD.out, hd]; rfl)
        rw [hd] at HD
        clear hd
        go_wp2_with fail
        refine HD.out.mono ?_
        rintro e1 w1 ⟨rfl, hb1⟩
        have HB1 := Lib.hid (below_next0 HB.out hb1)
        have hc2 := (hb1.cell (World.block_lt_of_cell? _ _ hc1)).trans hc1
        have HM := Lib.hid (HMO.out s HGD.out _ w1 (HRW.out _ HB1.out) HB1.out)
        generalize (movesL halls ways most s).length = ml at HDF HM
        clear hb1 hc1
        by_cases hz : ml = 0
        · subst hz
          go_wp2_with fail
          refine HM.out.mono ?_
          rintro e2 w2 ⟨Am, cm, rfl, hom, hb2⟩
          have HB2 := Lib.hid (below_next0 HB1.out hb2)
          clear hb2 hom hc2
          go_wp2
          go_ret
          exact ⟨_, rfl, HFI.out (by rw [HDF.out]; rfl), HB2.out⟩
        · have hzi : ¬ ((ml : Int) = 0) := by omega
          have HDT : Hid (isDead halls ways most s = false) := Lib.hid (by rw [HDF.out]; exact decide_eq_false hz)
          go_wp2_with fail
          refine HM.out.mono ?_
          rintro e2 w2 ⟨Am, cm, rfl, hom, hb2⟩
          have HB2 := Lib.hid (below_next0 HB1.out hb2)
          clear hb2 hom hc2
          have hzb : ((ml : Int) == 0) = false := by simpa using hz
          go_wp2
          go_roundw
          case rel => exact ⟨k + 1, by go_num, by omega, Lib.hid (HSU.out HDT.out), HB2⟩
          case measure => simp [intOf]; omega
    · have hki : ¬ ((k : Int) < (sts.length : Int)) := by omega
      go_wp2
      go_ret
      exact ⟨-1, rfl, .inl ⟨rfl, fun j hj => HP.out j hj (by omega)⟩, HB.out⟩

theorem deadIx_acc {halls : List Int} {ways : List (List Int)} {most : Int} {acc : Rch} {fd : Option (List Int × List Int)} (HFD : fd = acc.find? fun q => isDead halls ways most q.1) {r : Int} (h : DeadIx halls ways most (acc.map Prod.fst) r) : (r < 0 ↔ fd.isSome = false) ∧ (fd.isSome = true → ∃ i : Nat, ∃ hi : i < acc.length, r = (i : Int) ∧ (fd.map Prod.snd).getD [] = acc[i].2) := by
  rcases h with ⟨rfl, h⟩ | ⟨i, hi, rfl, h1, h2⟩
  · have e : fd = none := by
      rw [HFD]; exact find_none (fun j hj => by have := h j (by simpa using hj); simpa using this)
    rw [e]
    exact ⟨by simp, fun h => by cases h⟩
  · have hi' : i < acc.length := by simpa using hi
    have e : fd = some acc[i] := by
      rw [HFD]; exact find_at hi' (fun j hj hji => by have := h2 j (by simpa using hj) hji; simpa using this) (by simpa using h1)
    refine ⟨?_, fun _ => ⟨i, hi', rfl, ?_⟩⟩
    · rw [e]; simp
    · rw [e]; rfl
theorem deadIx_none {halls : List Int} {ways : List (List Int)} {most : Int} {r : Int} (h : DeadIx halls ways most ((reachT halls ways most).map Prod.fst) r) : (r < 0 ↔ (firstDead halls ways most).isSome = false) ∧ ((firstDead halls ways most).isSome = true → ∃ i : Nat, ∃ hi : i < (reachT halls ways most).length, r = (i : Int) ∧ deadP halls ways most = ((reachT halls ways most)[i]).2) := by
  exact deadIx_acc rfl h

set_option maxRecDepth 100000 in
set_option maxHeartbeats 4000000 in
theorem specCount_any (v u : Value) (halls : List Int) (ways : List (List Int)) (w : World) (hv : SlI w v halls) (hu : SlII w u ways) :
    Calls Try.prog 42 #[v, u] w fun e w' => e = .returned (.tuple #[.int .i64 (cntR halls ways).1, .int .i64 (cntR halls ways).2]) ∧ Below w.heap.size w w' := by
  have HV := Lib.hid hv; have HU := Lib.hid hu
  clear hv hu
  have HR : Hid (cntR halls ways = if travOk halls ways = true then (((reachT halls ways 4).length : Int), 0) else (0, 1)) := Lib.hid rfl
  go_enter Try.func42, Try.ntmps42
  go_wp2_with fail
  refine (l12Ok_any _ _ halls ways _ HV.out HU.out).mono ?_
  rintro e1 w1 ⟨rfl, hb1⟩
  have HB1 := Lib.hid hb1
  clear hb1
  cases ht : travOk halls ways with
  | false =>
    have E : Hid (cntR halls ways = (0, 1)) := Lib.hid (by rw [HR.out, ht]; rfl)
    clear ht
    go_wp2
    go_ret2
    rw [E.out]
    exact ⟨rfl, HB1.out⟩
  | true =>
    have HTR := Lib.hid ht
    have E : Hid (cntR halls ways = (((reachT halls ways 4).length : Int), 0)) := Lib.hid (by rw [HR.out, ht]; rfl)
    clear ht
    go_wp2_with fail
    refine (l12All_any _ _ halls ways 4 _ (HV.out.ex HB1.out) (HU.out.ex HB1.out) HTR.out).mono ?_
    rintro e3 w3 ⟨A9, A10, A11, c9, c10, c11, us, bf, mv, rfl, -, -, -, -, -, hb3⟩
    have HB3 := Lib.hid (below_next0 HB1.out hb3)
    clear hb3
    generalize (reachT halls ways 4).length = n at E
    go_wp2
    go_ret2
    rw [E.out]
    exact ⟨rfl, HB3.out⟩
end Go.Proofs.Ytegabdhmfemgkaa
