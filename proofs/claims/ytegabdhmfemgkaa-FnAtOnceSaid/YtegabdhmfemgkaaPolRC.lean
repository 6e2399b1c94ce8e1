/-
FirstDeadlock and IsFree of the reference: the walks. Condition: the slices read as lists.
-/
import Derived.Test.YtegabdhmfemgkaaPolRB
namespace Go.Proofs.Ytegabdhmfemgkaa
open Go.RowKit
set_option linter.unusedVariables false
set_option linter.unusedSimpArgs false

def pthAt (acc : Rch) (i : Nat) : List Int := (acc.getD i ([], [])).2
theorem pthAt_get {acc : Rch} {i : Nat} (h : i < acc.length) : acc[i].2 = pthAt acc i := by unfold pthAt; simp [List.getD_eq_getElem?_getD, h]
theorem Lnk.at_ {acc : Rch} {bf mv : List Int} (h : Lnk acc bf mv) {i : Nat} (hi : i < acc.length) : (i = 0 → pthAt acc i = []) ∧ (0 < i → ∃ p : Nat, p < i ∧ bf.getD i 0 = (p : Int) ∧ pthAt acc i = pthAt acc p ++ [mv.getD i 0]) := by
  refine ⟨fun h0 => by rw [← pthAt_get hi]; exact (h.ln i hi).2 h0, fun h0 => ?_⟩
  obtain ⟨p, hp, h1, h2⟩ := (h.ln i hi).1 h0
  exact ⟨p, hp, h1, by rw [← pthAt_get hi, ← pthAt_get (by omega), h2]⟩
theorem reach_pth {halls : List Int} {ways : List (List Int)} (most : Int) : PthOk (reachT halls ways most) := by
  have h9 := bfs_pth (movesL halls ways most) (zeroS ways.length) 2401
  exact h9

set_option maxRecDepth 100000 in
set_option maxHeartbeats 4000000 in
theorem specFirst_any (v u : Value) (halls : List Int) (ways : List (List Int)) (w : World) (hv : SlI w v halls) (hu : SlII w u ways) :
    Calls Try.prog 48 #[v, u] w fun e w' => ∃ A c, e = .returned (.tuple #[.slice A (fdR halls ways).1.length c, .int .i64 (fdR halls ways).2]) ∧ OwI w' w.heap.size (.slice A (fdR halls ways).1.length c) (fdR halls ways).1 ∧ Below w.heap.size w w' := by
  have HV := Lib.hid hv; have HU := Lib.hid hu
  clear hv hu
  have HR : Hid (fdR halls ways = if travOk halls ways = true then (deadP halls ways 4, if (firstDead halls ways 4).isSome = true then 0 else 3) else ([], 1)) := Lib.hid rfl
  have HNIL : Hid (∀ W : World, OwI W w.heap.size (.slice none 0 0) []) := Lib.hid fun W => ⟨World.ownsRow_nil _ _ _ _, by simp⟩
  go_enter Try.func48, Try.ntmps48
  go_wp2_with fail
  refine (l12Ok_any _ _ halls ways _ HV.out HU.out).mono ?_
  rintro e1 w1 ⟨rfl, hb1⟩
  have HB1 := Lib.hid hb1
  clear hb1
  cases ht : travOk halls ways with
  | false =>
    have E : Hid (fdR halls ways = ([], 1)) := Lib.hid (by rw [HR.out, ht]; rfl)
    clear ht
    go_wp2
    go_ret2
    rw [E.out]
    exact ⟨none, 0, rfl, HNIL.out _, HB1.out⟩
  | true =>
    have HTR := Lib.hid ht
    have E : Hid (fdR halls ways = (deadP halls ways 4, if (firstDead halls ways 4).isSome = true then 0 else 3)) := Lib.hid (by rw [HR.out, ht]; rfl)
    have HN := Lib.hid (@deadP_none halls ways 4)
    have HDL := Lib.hid (l12All_any _ _ halls ways 4 w1 (HV.out.ex HB1.out) (HU.out.ex HB1.out) HTR.out)
    have HDX := Lib.hid (fun r => @deadIx_none halls ways 4 r)
    have HGD : Hid (∀ s ∈ (reachT halls ways 4).map Prod.fst, Good (lensW ways) s) := Lib.hid fun s hs => by
      obtain ⟨q, hq, rfl⟩ := List.mem_map.1 hs
      exact reach_good 4 q hq
    have HPT := Lib.hid (reach_pth (halls := halls) (ways := ways) 4)
    have hrl := reach_len 4 ht
    unfold AllP at HDL
    generalize reachT halls ways 4 = acc at HDL HDX HGD HPT hrl
    generalize hps : deadP halls ways 4 = ps at E HN HDX
    generalize hfb : (firstDead halls ways 4).isSome = b at E HN HDX
    clear hps hfb ht
    go_wp2_with fail
    refine HDL.out.mono ?_
    rintro e3 w3 ⟨A9, A10, A11, c9, c10, c11, us, bf, mv, rfl, hst, hrw, hbe, hmo, hln, hb3⟩
    have HB3 := Lib.hid (below_next0 HB1.out hb3)
    have HSX : Hid (SlII w3 (.slice A9 acc.length c9) (acc.map Prod.fst)) := Lib.hid ⟨us, by rw [List.length_map]; exact hst.sl, fun i h1 h2 => (hrw i h1 h2).sl⟩
    have HLN := Lib.hid hln
    obtain ⟨g10, rfl, -, -⟩ := Ow.at1 hbe (i := 0) (by rw [List.length_map, hln.lb]; exact hln.pos)
    obtain ⟨g11, rfl, -, -⟩ := Ow.at1 hmo (i := 0) (by rw [List.length_map, hln.lm]; exact hln.pos)
    have HBE : Hid (∀ W, Below w3.heap.size w3 W → ∀ i : Nat, i < acc.length → W.cell? ⟨g10, i, none⟩ = some (.int .i64 (bf.getD i 0))) := Lib.hid fun W hW i hi => by
      have hib : i < bf.length := by rw [hln.lb]; exact hi
      have h9 := Ow.cell (hbe.ex hW) (k := i) (by rw [List.length_map]; exact hib)
      rw [h9]; simp [List.getD_eq_getElem?_getD, hib]
    have HMO : Hid (∀ W, Below w3.heap.size w3 W → ∀ i : Nat, i < acc.length → W.cell? ⟨g11, i, none⟩ = some (.int .i64 (mv.getD i 0))) := Lib.hid fun W hW i hi => by
      have hib : i < mv.length := by rw [hln.lm]; exact hi
      have h9 := Ow.cell (hmo.ex hW) (k := i) (by rw [List.length_map]; exact hib)
      rw [h9]; simp [List.getD_eq_getElem?_getD, hib]
    clear hst hrw hbe hmo hln hb3
    have HDC := Lib.hid (l12Deadlock_any _ _ _ halls ways _ 4 w3 (HV.out.ex HB3.out) (HU.out.ex HB3.out) HSX.out HTR.out HGD.out)
    go_wp2_with fail
    refine HDC.out.mono ?_
    rintro e4 w4 ⟨r, rfl, hix, hb4⟩
    obtain ⟨hneg, hpos⟩ := HDX.out r hix
    have HNEG := Lib.hid hneg; have HPOS := Lib.hid hpos
    have HB34 := Lib.hid hb4
    have HB4 := Lib.hid (below_next0 HB3.out hb4)
    clear hneg hpos hix hb4
    cases b with
    | false =>
      have hr0 : r < 0 := HNEG.out.2 rfl
      go_wp2
      go_ret2
      rw [E.out, HN.out (by first | rfl | trivial)]
      exact ⟨none, 0, rfl, HNIL.out _, HB4.out⟩
    | true =>
      obtain ⟨i0, hi0, rfl, hdp⟩ := HPOS.out rfl
      have HDP : Hid (ps = pthAt acc i0) := Lib.hid (by rw [hdp, pthAt_get])
      have HPL : Hid (ps.length ≤ 2401) := Lib.hid (by have h9 := HPT.out _ (List.getElem_mem hi0); rw [hdp]; omega)
      have hneg : ¬ ((i0 : Int) < 0) := by omega
      clear hdp
      have HO5 := Lib.hid (owI_empty w4 w.heap.size HB4.out.size)
      have HB5 := Lib.hid (below_alloc w4 (.cells #[] 2))
      go_wp2
      go_loopw [9, 10] (fun v9 v10 wr => ∃ (i ln c : Nat) (A : Option Addr) (xs : List Int), v9 = .int .i64 i ∧ v10 = .slice A ln c ∧ i < acc.length ∧ ln ≤ 2401 ∧ Hid (xs.length = ln) ∧ Hid (pthAt acc i ++ xs = ps) ∧ Hid (OwI wr w.heap.size (.slice A ln c) xs) ∧ Hid (Below w4.heap.size w4 wr)) (fun v9 _ _ => (intOf v9).toNat)
      case atStart => exact ⟨i0, 0, _, _, [], rfl, rfl, hi0, by omega, Lib.hid rfl, Lib.hid (by rw [HDP.out]; simp), HO5, HB5⟩
      case round =>
        obtain ⟨i, ln, c, A, xs, rfl, rfl, hi, hln, HXL, HXP, HO, HB⟩ := hrel
        have HLA := Lib.hid (HLN.out.at_ hi)
        by_cases h0 : 0 < i
        · have hii : (0 : Int) < (i : Int) := by omega
          have hil : (i : Int) < (acc.length : Int) := by omega
          obtain ⟨p, hp, hbp, hpp⟩ := HLA.out.2 h0
          have hm := HMO.out wr (below_next0 HB34.out HB.out) i hi
          have HBC : Hid (∀ W, Below wr.heap.size wr W → W.cell? ⟨g10, i, none⟩ = some (.int .i64 (p : Int))) := Lib.hid fun W hW => by
            rw [← hbp]; exact HBE.out W (below_next0 (below_next0 HB34.out HB.out) hW) i hi
          have HPP := Lib.hid hpp
          clear hbp hpp
          generalize mv.getD i 0 = x at hm HPP
          have HXP2 : Hid (pthAt acc p ++ (x :: xs) = ps) := Lib.hid (by rw [← HXP.out, HPP.out]; simp)
          have hl2 : 1 + ln ≤ 2401 := by
            have h9 := HXP2.out; have h10 := HPL.out; have h11 := HXL.out
            rw [← h9, List.length_append, List.length_cons] at h10; omega
          have HW := Lib.hid (Ow.lay wr (lo := w.heap.size) (sz := 1) 2 #[.int .i64 x] 1 (Nat.le_trans HB4.out.size HB.out.size) (by omega) rfl)
          have HBA := Lib.hid (below_alloc wr (.cells #[.int .i64 x] 2))
          have HSX2 : Hid (Sl (wr.alloc (.cells #[.int .i64 x] 2)) 1 (.slice A ln c) ln (xs.map (Value.int .i64))) := Lib.hid (by have h9 := (HO.out.sl).ex HBA.out; unfold SlI at h9; rw [HXL.out] at h9; exact h9)
          have hsz : w.heap.size ≤ (wr.alloc (.cells #[.int .i64 x] 2)).heap.size := Nat.le_trans (Nat.le_trans HB4.out.size HB.out.size) HBA.out.size
          have HSZ := Lib.hid hsz
          clear hsz
          go_wp2_with (first | (at_builtin; refine wpList_cat (wr.alloc (.cells #[.int .i64 x] 2)) rfl (.tmp 35) (.tmp 36) 31 rfl w.heap.size 2 (.int .i64 0) 1 8 Try.underlying31 infoI64 rfl (by omega) (.slice (some ⟨wr.heap.size, 0, none⟩) 1 1) 1 _ rfl HW.out (.slice A ln c) ln _ rfl HSX2.out (by intro q hq; obtain ⟨y, _, rfl⟩ := List.mem_map.1 hq; rfl) (by omega) (by omega) HSZ.out ?_; intro A6 c6 w6 _ ho6 hg6 hsz6; have HO6 : Hid (OwI w6 w.heap.size (.slice A6 (1 + ln) c6) (x :: xs)) := Lib.hid (by unfold OwI; rw [show (x :: xs).length = 1 + ln by simp [HXL.out]; omega]; exact ho6); have HB6 : Hid (Below wr.heap.size wr w6) := Lib.hid (HBA.out.grown hg6 (by simp) (fun k hk => by have e : wr.heap.size = k := (by simpa [Value.ownBlock] using hk); omega)); have hbc := HBC.out w6 HB6.out; clear ho6 hg6 hsz6) | fail)
          go_roundw
          case rel => exact ⟨p, 1 + ln, c6, A6, x :: xs, rfl, rfl, by omega, by omega, Lib.hid (by simp [HXL.out]; omega), HXP2, HO6, Lib.hid (below_next0 HB.out HB6.out)⟩
          case measure => simp [intOf]; omega
        · obtain rfl : i = 0 := by omega
          have HE2 : Hid (xs = ps) := Lib.hid (by have h9 := HXP.out; rw [HLA.out.1 rfl] at h9; simpa using h9)
          have HOF : Hid (OwI wr w.heap.size (.slice A ps.length c) ps) := Lib.hid (by rw [← HE2.out, HXL.out]; exact HO.out)
          have HLP : Hid (ln = ps.length) := Lib.hid (by rw [← HE2.out, HXL.out])
          go_wp2
          go_ret2
          rw [E.out, HLP.out]
          exact ⟨A, c, rfl, HOF.out, below_next0 HB4.out HB.out⟩

set_option maxHeartbeats 1000000 in
theorem specFree_any (v u : Value) (halls : List Int) (ways : List (List Int)) (w : World) (hv : SlI w v halls) (hu : SlII w u ways) :
    Calls Try.prog 47 #[v, u] w fun e w' => e = .returned (.tuple #[.bool (ifR halls ways).1, .int .i64 (ifR halls ways).2]) ∧ Below w.heap.size w w' := by
  have hF := specFirst_any v u halls ways w hv hu
  have HR : Hid (((fdR halls ways).2 = 1 ∧ ifR halls ways = (false, 1)) ∨ ((fdR halls ways).2 = 3 ∧ ifR halls ways = (true, 0)) ∨ ((fdR halls ways).2 = 0 ∧ ifR halls ways = (false, 0))) := Lib.hid (by
    unfold fdR ifR
    cases travOk halls ways with
    | false => exact .inl ⟨rfl, rfl⟩
    | true =>
      cases (firstDead halls ways 4).isSome with
      | false => exact .inr (.inl ⟨rfl, rfl⟩)
      | true => exact .inr (.inr ⟨rfl, rfl⟩))
  generalize (fdR halls ways).1 = ps at hF
  generalize (fdR halls ways).2 = cd at hF HR
  have HF := Lib.hid hF
  clear hF hv hu
  go_enter Try.func47, Try.ntmps47
  go_wp2_with fail
  refine HF.out.mono ?_
  rintro e1 w1 ⟨A, c, rfl, -, hb1⟩
  have HB1 := Lib.hid hb1
  clear hb1
  rcases HR.out with ⟨rfl, hr⟩ | ⟨rfl, hr⟩ | ⟨rfl, hr⟩
  all_goals
    have E := Lib.hid hr
    clear hr
    go_wp2
    go_ret2
    rw [E.out]
    exact ⟨rfl, HB1.out⟩

end Go.Proofs.Ytegabdhmfemgkaa
