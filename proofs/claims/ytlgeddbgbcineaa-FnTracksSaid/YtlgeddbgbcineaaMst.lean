/-
most of the program, FewestCarriers of the program. Condition: the table reads as a graph's, at most 14 readings.
-/
import Derived.Test.YtlgeddbgbcineaaFnd
namespace Go.Proofs.Ytlgeddbgbcineaa
open Go.RowKit
set_option linter.unusedVariables false

theorem makeB (n : Nat) (hn : n ≤ 14) : ∃ M : Array Value, M.toList = List.replicate n (Value.bool false) ∧ ∀ W : World, (Instr.makeSlice 84 (.int .i64 (n : Int)) (.int .i64 (n : Int))).run Try.prog W = .ok (.slice (some ⟨W.heap.size, 0, none⟩) n n) (W.alloc (.cells M 4)) := by
  obtain ⟨i0, hi, hz0, hz1, hz2⟩ := info_parts infoB
  refine ⟨madeCells (Value.bool false).cells (((n : Int)).toNat * i0.size), ?_, fun W => ?_⟩
  · rw [hz1, Int.toNat_natCast, Nat.mul_one]
    exact toList_madeCells_one (Value.bool false) n
  · have h := run_makeSlice (P := Try.prog) W 84 4 i0 (.bool false) Try.underlying84 hi hz0 .i64 .i64 (n : Int) (n : Int) (by omega) (by omega) (by rw [hz1]; first | omega | (simp; omega) | (unfold maxLen; omega)) (by rw [hz2]; first | omega | (simp; omega)) (by first | omega | (simp; omega) | (unfold maxLen; omega))
    simpa using h
theorem ownMade {M : Array Value} {m : Nat} {e : TypeId} {x : Value} (hM : M.toList = List.replicate m x) (hm : m ≤ 1048576) (W : World) (lo : Nat) (hlo : lo ≤ W.heap.size) : Ow (W.alloc (.cells M e)) lo e 1 (.slice (some ⟨W.heap.size, 0, none⟩) m m) m (List.replicate m x) := by
  have hs : M.size = m * 1 := by rw [← Array.length_toList, hM, List.length_replicate, Nat.mul_one]
  have h := World.ownsRow_lit (e := e) W M m hlo (by unfold maxLen; omega) hs
  rw [hM] at h
  exact ⟨h, by omega⟩
theorem run_at {E : Nat → Nat → Bool} {fx : Nat → Bool} {n : Nat} {p : List Int × Nat} (k : Nat) : runK E fx n 0 p (k + 1) = ((growK E fx n (n + 1) k (runK E fx n 0 p k).1 (List.replicate n false)).2.1, if (growK E fx n (n + 1) k (runK E fx n 0 p k).1 (List.replicate n false)).1 = true then (runK E fx n 0 p k).2 + 1 else (runK E fx n 0 p k).2) := by
  rw [runK, Nat.zero_add]; rfl

set_option maxRecDepth 100000 in
set_option maxHeartbeats 4000000 in
theorem most_any (v : Value) (E : Nat → Nat → Bool) (n : Nat) (hn : n ≤ 14) (w : World) (hv : SlTab w v E n) :
    Calls Try.prog 70 #[v] w fun e w' => e = .returned (.int .i64 ((mostK E n : Nat) : Int)) ∧ Below w.heap.size w w' := by
  obtain ⟨A, c, rfl, hrow⟩ := hv.op
  have HV := Lib.hid hv
  obtain ⟨M, hM, hMk⟩ := makeB n hn
  have HM := Lib.hid hM
  have HMK : Hid (mostK E n = (runK E noF n 0 (List.replicate n (-1), 0) n).2) := Lib.hid rfl
  generalize mostK E n = Q at HMK
  clear hv hrow hM
  go_enter Try.func70, Try.ntmps70
  go_wp2_with fail
  have hbl := below_alloc w (.cells #[.int .i64 (-1)] 3)
  refine (repeat_any n hn w.heap.size 1 (w.alloc (.cells #[.int .i64 (-1)] 3)) (by simp [go_sem])).mono ?_
  rintro e w1 ⟨rfl, ho1, hb1⟩
  have HB1 := Lib.hid (below_next0 hbl hb1)
  have HO1 := Lib.hid ho1
  clear hbl ho1 hb1
  have hg1 : (w.alloc (.cells #[.int .i64 (-1)] 3)).heap.size = w.heap.size + 1 := by simp
  rw [hg1] at HO1
  have HOR : Hid (Ow w1 w.heap.size 3 1 (.slice (some ⟨w.heap.size + 1, 0, none⟩) n n) n ((runK E noF n 0 (List.replicate n (-1), 0) 0).1.map (Value.int .i64))) := Lib.hid (by
    have h := HO1.out
    unfold OwN at h
    rw [List.length_replicate] at h
    exact Ow.mono h (by simp))
  have hw1 : w.heap.size + 1 < w1.heap.size := (Ow.lt HOR.out _ rfl).2
  have hal := below_alloc w1 (.cells #[.slice A n c, .slice (some ⟨w.heap.size + 1, 0, none⟩) n n] 100)
  have HOS := Lib.hid (HOR.out.ex hal)
  have HBS := Lib.hid (below_next0 HB1.out hal)
  have HBX := Lib.hid (Box2.new w1 (.slice A n c) (.slice (some ⟨w.heap.size + 1, 0, none⟩) n n) 100)
  have HFI := Lib.hid (find_any (.slice A n c) E n hn w HV.out w.heap.size (w.heap.size + 1))
  have HED : Hid (∀ k, k ≤ n → (runK E noF n 0 (List.replicate n (-1), 0) k).1.length = n ∧ Ed E n (runK E noF n 0 (List.replicate n (-1), 0) k).1) := Lib.hid (fun k hk => run_ed E noF n 0 _ (by simp) (ed_none E n) k (by omega))
  have HCN : Hid (∀ k, (runK E noF n 0 (List.replicate n (-1), 0) k).2 ≤ k) := Lib.hid (fun k => by
    induction k with
    | zero => exact Nat.le_refl _
    | succ k ih => rw [run_at]; dsimp only; split <;> omega)
  have HRA : Hid (∀ k, runK E noF n 0 (List.replicate n (-1), 0) (k + 1) = ((growK E noF n (n + 1) k (runK E noF n 0 (List.replicate n (-1), 0) k).1 (List.replicate n false)).2.1, if (growK E noF n (n + 1) k (runK E noF n 0 (List.replicate n (-1), 0) k).1 (List.replicate n false)).1 = true then (runK E noF n 0 (List.replicate n (-1), 0) k).2 + 1 else (runK E noF n 0 (List.replicate n (-1), 0) k).2)) := Lib.hid (fun k => run_at k)
  have HR0 : Hid ((runK E noF n 0 (List.replicate n (-1), 0) 0).2 = 0) := Lib.hid rfl
  clear hal HO1 hg1 HOR
  generalize hrr : runK E noF n 0 (List.replicate n (-1), 0) = RN at HOS HED HCN HRA HR0 HMK
  clear hrr
  go_wp2
  clear HB1
  go_loopw [5, 6, 15] (fun v5 _ v15 wr => ∃ k : Nat, v15 = .int .i64 k ∧ v5 = .int .i64 (((RN k).2 : Nat) : Int) ∧ k ≤ n ∧ Hid (Ow wr w.heap.size 3 1 (.slice (some ⟨w.heap.size + 1, 0, none⟩) n n) n ((RN k).1.map (Value.int .i64))) ∧ Hid (Below w.heap.size w wr) ∧ Hid (Box2 wr w1.heap.size (.slice A n c) (.slice (some ⟨w.heap.size + 1, 0, none⟩) n n))) (fun _ _ v15 _ => n - (intOf v15).toNat)
  case atStart => exact ⟨0, rfl, by rw [HR0.out]; rfl, by omega, HOS, HBS, HBX⟩
  case round =>
    clear HOS HBS HBX
    obtain ⟨k, rfl, rfl, hk, HO, HB, HBX⟩ := hrel
    by_cases hlt : k < n
    · have hki : (k : Int) < (n : Int) := by omega
      obtain ⟨hel, hed⟩ := HED.out k hk
      have hcn := HCN.out k
      have HRK := Lib.hid (HRA.out k)
      have hgw : w.heap.size + 1 < wr.heap.size := (Ow.lt HO.out _ rfl).2
      have hbm : Below wr.heap.size wr (wr.drew.alloc (.cells M 4)) := (Below.refl _ _).drew.alloc (Nat.le_refl _) _
      have HTW : Hid (Two (wr.drew.alloc (.cells M 4)) w.heap.size (w.heap.size + 1) wr.heap.size n (RN k).1 (List.replicate n false)) := Lib.hid ⟨HO.out.ex hbm, by rw [List.map_replicate]; exact ownMade HM.out (by omega) wr.drew w.heap.size HB.out.size, hel, by simp, by omega⟩
      have HCL := Lib.hid (HFI.out wr.heap.size (Nat.le_refl _) (n + 1) k (RN k).1 (List.replicate n false) (wr.drew.alloc (.cells M 4)) (below_next0 HB.out hbm) HTW.out hlt hed (by simp [untr]))
      have HBXM := Lib.hid (HBX.out.ex hbm)
      have HBM := Lib.hid (below_next0 HB.out hbm)
      have hx0 := HBX.out.c0; have hx1 := HBX.out.c1
      have hy0 := HBXM.out.c0; have hy1 := HBXM.out.c1
      have hbl := HBX.out.lt
      generalize growK E noF n (n + 1) k (RN k).1 (List.replicate n false) = q at HCL HRK
      obtain ⟨q1, q2, q3⟩ := q
      clear hed hel hbm HTW
      go_wp2
      go_region_law (first | (go_simp; go_at_call 86; refine Calls.mono HCL.out ?_; rintro eA wA ⟨rfl, htA, hgA⟩; have HTA := Lib.hid htA; have HGA := Lib.hid hgA; clear htA hgA) | fail)
      all_goals
        have HBXA : Hid (Box2 wA w1.heap.size (.slice A n c) (.slice (some ⟨w.heap.size + 1, 0, none⟩) n n)) := Lib.hid (HBXM.out.gr HGA.out (by rintro (h | h) <;> omega))
        have HBA : Hid (Below w.heap.size w wA) := Lib.hid (HBM.out.trans (GrS.below HGA.out (fun k _ hk => by have := HB.out.size; rcases hk with rfl | rfl <;> omega) HBM.out.size))
        have HOA := Lib.hid HTA.out.o
        clear hx0 hx1 hy0 hy1
        cases q1 with
        | true =>
          have HRF : Hid (RN (k + 1) = (q2, (RN k).2 + 1)) := Lib.hid (by rw [HRK.out]; rfl)
          go_wp2
          go_roundw
          case rel => exact ⟨k + 1, by go_num, by rw [HRF.out]; go_num, by omega, by rw [HRF.out]; exact HOA, HBA, HBXA⟩
          case measure => simp [intOf]; omega
        | false =>
          have HRF : Hid (RN (k + 1) = (q2, (RN k).2)) := Lib.hid (by rw [HRK.out]; rfl)
          go_wp2
          go_roundw
          case rel => exact ⟨k + 1, by go_num, by rw [HRF.out], by omega, by rw [HRF.out]; exact HOA, HBA, HBXA⟩
          case measure => simp [intOf]; omega
    · obtain rfl : k = n := by omega
      go_wp2
      go_ret
      rw [HMK.out]
      exact ⟨rfl, HB.out⟩
end Go.Proofs.Ytlgeddbgbcineaa
