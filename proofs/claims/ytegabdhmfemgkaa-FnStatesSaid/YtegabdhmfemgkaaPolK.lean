/-
NextMoves of the program and of the reference. Condition: the slices read as lists.
-/
import Derived.Test.YtegabdhmfemgkaaPolJ
namespace Go.Proofs.Ytegabdhmfemgkaa
open Go.RowKit
set_option linter.unusedVariables false

def nextR (halls : List Int) (ways : List (List Int)) (pl : List Int) : List Int × Int :=
  if travOk halls ways = true then (if plOk halls ways pl = true then (movesL halls ways 4 pl, 0) else ([], 2)) else ([], 1)
theorem allF_lt (ways : List (List Int)) (pl : List Int) (c : Nat) (h : hallK ways pl c < 0) : ∀ n, c < n → allF ways pl n ≤ (n : Int) - 1
  | 0, hc => by omega
  | n + 1, hc => by
    show allF ways pl n + _ ≤ _
    by_cases e : c = n
    · subst e
      rw [if_neg (by omega)]
      have := (allF_bd ways pl c).2
      omega
    · have := allF_lt ways pl c h n (by omega)
      split <;> omega
theorem mvB_most {halls : List Int} {ways : List (List Int)} {pl : List Int} (h4 : ways.length ≤ 4) {c : Nat} (hc : c < ways.length) : mvB halls ways (ways.length : Int) pl c = mvB halls ways 4 pl c := by
  rw [mvB_at hc, mvB_at hc]
  by_cases h0 : plc pl c = 0
  · have hk : hallK ways pl c < 0 := by
      rw [← hallK_at pl hc, hallP_neg (.inl (by omega))]; omega
    have := allF_lt ways pl c hk ways.length hc
    rw [if_neg (show ¬ (plc pl c = 0 ∧ (ways.length : Int) ≤ allF ways pl ways.length) by omega), if_neg (show ¬ (plc pl c = 0 ∧ (4 : Int) ≤ allF ways pl ways.length) by omega)]
  · simp only [h0, false_and]
theorem movesL_most {halls : List Int} {ways : List (List Int)} {pl : List Int} (h4 : ways.length ≤ 4) : movesL halls ways (ways.length : Int) pl = movesL halls ways 4 pl := by
  unfold movesL movesK
  congr 1
  exact List.filter_congr fun c hc => mvB_most h4 (List.mem_range.1 hc)
theorem plOk_at {halls : List Int} {ways : List (List Int)} {pl : List Int} (ht : travOk halls ways = true) (h : plOk halls ways pl = true) : pl.length = ways.length ∧ ∀ k, k < ways.length → 0 ≤ plc pl k ∧ plc pl k ≤ 1000 := by
  simp only [plOk, Bool.and_eq_true, decide_eq_true_eq] at h
  obtain ⟨⟨h1, h2⟩, h3⟩ := h
  obtain ⟨-, -, h4, hway⟩ := travOk_at ht
  refine ⟨h1, fun k hk => ?_⟩
  have := plFit_at h2 hk
  have := (wayOk_at (hway _ (List.getElem_mem hk))).1
  omega

set_option maxHeartbeats 1000000 in
theorem specNextMoves_any (v u r : Value) (halls : List Int) (ways : List (List Int)) (pl : List Int) (w : World) (hv : SlI w v halls) (hu : SlII w u ways) (hr : SlI w r pl) :
    Calls Try.prog 43 #[v, u, r] w fun e w' => ∃ A c, e = .returned (.tuple #[.slice A (nextR halls ways pl).1.length c, .int .i64 (nextR halls ways pl).2]) ∧ OwI w' w.heap.size (.slice A (nextR halls ways pl).1.length c) (nextR halls ways pl).1 ∧ Below w.heap.size w w' := by
  have HV := Lib.hid hv; have HU := Lib.hid hu; have HR := Lib.hid hr
  clear hv hu hr
  have HC : Hid (codePl halls ways pl = if travOk halls ways = true then (if plOk halls ways pl = true then 0 else 2) else 1) := Lib.hid rfl
  have HN : Hid (nextR halls ways pl = if travOk halls ways = true then (if plOk halls ways pl = true then (movesL halls ways 4 pl, 0) else ([], 2)) else ([], 1)) := Lib.hid rfl
  have HNIL : Hid (∀ W : World, OwI W w.heap.size (.slice none 0 0) []) := Lib.hid fun W => ⟨World.ownsRow_nil _ _ _ _, by simp⟩
  go_enter Try.func43, Try.ntmps43
  go_wp2_with fail
  refine (l12Code_any _ _ _ halls ways pl _ HV.out HU.out HR.out).mono ?_
  rintro e w1 ⟨rfl, hb1⟩
  have HB1 := Lib.hid hb1
  clear hb1
  cases ht : travOk halls ways with
  | false =>
    have HN2 : Hid (nextR halls ways pl = ([], 1)) := Lib.hid (by rw [HN.out, ht]; rfl)
    rw [show codePl halls ways pl = 1 by rw [HC.out, ht]; rfl]
    clear ht
    go_wp2
    go_ret2
    rw [HN2.out]
    exact ⟨none, 0, rfl, HNIL.out _, HB1.out⟩
  | true =>
    cases hp : plOk halls ways pl with
    | false =>
      have HN2 : Hid (nextR halls ways pl = ([], 2)) := Lib.hid (by rw [HN.out, ht, hp]; rfl)
      rw [show codePl halls ways pl = 2 by rw [HC.out, ht, hp]; rfl]
      clear ht hp
      go_wp2
      go_ret2
      rw [HN2.out]
      exact ⟨none, 0, rfl, HNIL.out _, HB1.out⟩
    | true =>
      obtain ⟨hlen, hp0⟩ := plOk_at ht hp
      have HN2 : Hid (nextR halls ways pl = (movesL halls ways 4 pl, 0)) := Lib.hid (by rw [HN.out, ht, hp]; rfl)
      have HC2 : Hid (codePl halls ways pl = 0) := Lib.hid (by rw [HC.out, ht, hp]; rfl)
      have HMV := Lib.hid (l12Moves_any _ _ _ halls ways pl 4 w1 (HV.out.ex HB1.out) (HU.out.ex HB1.out) (HR.out.ex HB1.out) hlen ht (fun k hk => (hp0 k hk).1))
      clear ht hp hlen hp0
      rw [HC2.out]
      go_wp2_with fail
      refine HMV.out.mono ?_
      rintro e w2 ⟨A, c, rfl, hown, hb2⟩
      have HO := Lib.hid (hown.mono HB1.out.size)
      have HB2 := Lib.hid (below_next0 HB1.out hb2)
      clear hown hb2
      go_wp2
      go_ret2
      rw [HN2.out]
      exact ⟨A, c, rfl, HO.out, HB2.out⟩

set_option maxRecDepth 100000 in
set_option maxHeartbeats 1000000 in
theorem implNextMoves_any (v u r : Value) (halls : List Int) (ways : List (List Int)) (pl : List Int) (w : World) (hv : SlI w v halls) (hu : SlII w u ways) (hr : SlI w r pl) :
    Calls Try.prog 38 #[v, u, r] w fun e w' => ∃ A c, e = .returned (.tuple #[.slice A (nextR halls ways pl).1.length c, .int .i64 (nextR halls ways pl).2]) ∧ OwI w' w.heap.size (.slice A (nextR halls ways pl).1.length c) (nextR halls ways pl).1 ∧ Below w.heap.size w w' := by
  have HV := Lib.hid hv; have HU := Lib.hid hu; have HR := Lib.hid hr
  obtain ⟨A, d, rfl, hla, ha⟩ := hv.op
  obtain ⟨B, f, rfl, hlb, hat⟩ := hu.op
  obtain ⟨R, g, rfl, hlr, hrt⟩ := hr.op
  clear hv hu hr ha hat hrt
  have HC : Hid (codePl halls ways pl = if travOk halls ways = true then (if plOk halls ways pl = true then 0 else 2) else 1) := Lib.hid rfl
  have HN : Hid (nextR halls ways pl = if travOk halls ways = true then (if plOk halls ways pl = true then (movesL halls ways 4 pl, 0) else ([], 2)) else ([], 1)) := Lib.hid rfl
  have HNIL : Hid (∀ W : World, OwI W w.heap.size (.slice none 0 0) []) := Lib.hid fun W => ⟨World.ownsRow_nil _ _ _ _, by simp⟩
  go_enter Try.func38, Try.ntmps38
  go_wp2_with fail
  refine (placesCode_any _ _ _ halls ways pl _ HV.out HU.out HR.out).mono ?_
  rintro e w1 ⟨rfl, hb1⟩
  have HB1 := Lib.hid hb1
  clear hb1
  cases ht : travOk halls ways with
  | false =>
    have HN2 : Hid (nextR halls ways pl = ([], 1)) := Lib.hid (by rw [HN.out, ht]; rfl)
    rw [show codePl halls ways pl = 1 by rw [HC.out, ht]; rfl]
    clear ht
    go_wp2
    go_ret2
    rw [HN2.out]
    exact ⟨none, 0, rfl, HNIL.out _, HB1.out⟩
  | true =>
    cases hp : plOk halls ways pl with
    | false =>
      have HN2 : Hid (nextR halls ways pl = ([], 2)) := Lib.hid (by rw [HN.out, ht, hp]; rfl)
      rw [show codePl halls ways pl = 2 by rw [HC.out, ht, hp]; rfl]
      clear ht hp
      go_wp2
      go_ret2
      rw [HN2.out]
      exact ⟨none, 0, rfl, HNIL.out _, HB1.out⟩
    | true =>
      obtain ⟨hlen, hp0⟩ := plOk_at ht hp
      obtain ⟨⟨-, h6⟩, -, h4, hway⟩ := travOk_at ht
      have HN2 : Hid (nextR halls ways pl = (movesL halls ways 4 pl, 0)) := Lib.hid (by rw [HN.out, ht, hp]; rfl)
      have HC2 : Hid (codePl halls ways pl = 0) := Lib.hid (by rw [HC.out, ht, hp]; rfl)
      have HMV := Lib.hid fun (W : World) (hW : Below w.heap.size w W) => moves_any _ _ halls ways pl (ways.length : Int) W (HV.out.ex hW) (HU.out.ex hW) hlen ht hp0
      have HSO := Lib.hid fun (W : World) (hW : Below w.heap.size w W) => stateOf_any _ _ _ halls ways (ways.length : Int) pl W (HV.out.ex hW) (HU.out.ex hW) (HR.out.ex hW) h6 h4 hway
      have HMM := Lib.hid (movesL_most (halls := halls) (pl := pl) h4)
      have HPK := Lib.hid hp
      clear ht hp hlen hp0 hway
      rw [HC2.out]
      go_wp2_with fail
      refine (newTravels_any _ _ halls ways _ (HV.out.ex HB1.out) (HU.out.ex HB1.out)).mono ?_
      rintro e w2 ⟨rfl, hb2⟩
      have HB2 := Lib.hid (below_next0 HB1.out hb2)
      clear hb2
      have HB3 := Lib.hid (below_next0 HB2.out (below_alloc w2 (.cells #[.slice A halls.length d, .slice B ways.length f, .int .i64 (ways.length : Int)] 69)))
      have HX3 := Lib.hid (Box3.new w2 (.slice A halls.length d) (.slice B ways.length f) (.int .i64 (ways.length : Int)) 69)
      go_wp2_with fail
      refine (HSO.out _ HB3.out).mono ?_
      rintro e w3 ⟨⟨a0, a1, a2, a3, rfl, hst⟩, hb3⟩
      have hst2 := hst HPK.out
      unfold stV at hst2
      simp only [Value.agg.injEq, Array.mk.injEq, List.cons.injEq, Value.int.injEq, true_and, and_true] at hst2
      obtain ⟨rfl, rfl, rfl, rfl⟩ := hst2
      have HB4 := Lib.hid (below_next0 HB3.out hb3)
      have hx4 := HX3.out.exB hb3 HX3.out.lt
      have hS4 := Four.new w3 (plc pl) 86
      have hbA := below_alloc w3 (.cells #[.int .i64 (plc pl 0), .int .i64 (plc pl 1), .int .i64 (plc pl 2), .int .i64 (plc pl 3)] 86)
      have hbE := below_alloc (w3.alloc (.cells #[.int .i64 (plc pl 0), .int .i64 (plc pl 1), .int .i64 (plc pl 2), .int .i64 (plc pl 3)] 86)) (.cells #[] 2)
      have hx5 := hx4.exB (hbA.trans (hbE.mono (by simp))) hx4.lt
      have hS5 := hS4.exB hbE hS4.lt
      have hc0 := hx5.c0; have hc1 := hx5.c1; have hc2 := hx5.c2
      have hs0 := hS5.c 0 (by omega); have hs1 := hS5.c 1 (by omega); have hs2 := hS5.c 2 (by omega); have hs3 := hS5.c 3 (by omega)
      have HB5 := Lib.hid (below_next0 (below_next0 HB4.out hbA) hbE)
      have HEM : Hid (OwI ((w3.alloc (.cells #[.int .i64 (plc pl 0), .int .i64 (plc pl 1), .int .i64 (plc pl 2), .int .i64 (plc pl 3)] 86)).alloc (.cells #[] 2)) w.heap.size (.slice (some ⟨w3.heap.size + 1, 0, none⟩) 0 0) []) := Lib.hid (by simpa using owI_empty (w3.alloc (.cells #[.int .i64 (plc pl 0), .int .i64 (plc pl 1), .int .i64 (plc pl 2), .int .i64 (plc pl 3)] 86)) w.heap.size (by have := HB4.out.size; simp; omega))
      have hM := HMV.out _ HB5.out
      unfold stV at hM
      have HM := Lib.hid hM
      clear hst hb3 hx4 hS4 hbA hbE hx5 hS5 hM
      go_wp2_with fail
      refine HM.out.mono ?_
      rintro e w4 ⟨A4, c4, rfl, hown4, hb5⟩
      rw [HMM.out] at hown4 ⊢
      have HLM := Lib.hid (movesK_len halls ways 4 pl ways.length)
      have HLM2 : Hid ((movesL halls ways 4 pl).length ≤ 4) := Lib.hid (Nat.le_trans HLM.out h4)
      have HB6 := Lib.hid (below_next0 HB5.out hb5)
      have HE6 := Lib.hid (HEM.out.ex hb5)
      generalize movesL halls ways 4 pl = M at hown4 HLM2 HN2 ⊢
      have HO4 := Lib.hid hown4
      have HSEP0 : Hid (Sep (.slice A4 M.length c4) (.slice (some ⟨w3.heap.size + 1, 0, none⟩) 0 0)) := Lib.hid (Ow.sep_type hown4 HE6.out (by decide))
      clear hown4 hb5 hc0 hc1 hc2 hs0 hs1 hs2 hs3
      have hM4 := HLM2.out
      go_wp2
      go_loopw [12, 36] (fun ov i wr => ∃ (k : Nat) (A2 : Option Addr) (c2 : Nat), k ≤ M.length ∧ i = .int .i64 k ∧ ov = .slice A2 k c2 ∧ Hid (OwI wr w.heap.size (.slice A2 k c2) (M.take k)) ∧ Hid (Ow wr (((w3.alloc (.cells #[.int .i64 (plc pl 0), .int .i64 (plc pl 1), .int .i64 (plc pl 2), .int .i64 (plc pl 3)] 86)).alloc (.cells #[] 2))).heap.size 3 1 (.slice A4 M.length c4) M.length (M.map (Value.int .i64))) ∧ Hid (Sep (.slice A4 M.length c4) (.slice A2 k c2)) ∧ Hid (Below w.heap.size w wr)) (fun _ i _ => M.length - (intOf i).toNat)
      case atStart => exact ⟨0, _, 0, Nat.zero_le _, rfl, rfl, HE6, HO4, HSEP0, HB6⟩
      case round =>
        obtain ⟨k, A2, c2, hk, rfl, rfl, HO, HM4, HSP, HBB⟩ := hrel
        by_cases hlt : k < M.length
        · have hki : (k : Int) < (M.length : Int) := by omega
          obtain ⟨A7, c7, hveq, hla7, ha7⟩ := SlI.op (w := wr) (v := .slice A4 M.length c4) (xs := M) HM4.out.sl
          injection hveq with hA7 hn7 hc7
          subst hA7 hc7
          obtain ⟨b, o, rfl, hbs, hcc⟩ := ha7 k hlt
          have hp := hcc k hlt
          clear hn7 ha7 hla7
          have HTK : Hid (M.take (k + 1) = M.take k ++ [M[k]]) := Lib.hid (List.take_succ_eq_append_getElem hlt)
          have HLT : Hid ((M.take k).length = k) := Lib.hid (by simp; omega)
          have HLO := Lib.hid (show w.heap.size ≤ w4.heap.size from HB6.out.size)
          generalize M[k] = x at hp HTK
          clear hcc
          go_wp2_with (first | (at_builtin; refine wpList_appI2 wr rfl (.tmp 40) (.tmp 42) rfl w.heap.size w.heap.size w A2 k c2 _ _ _ _ rfl HO.out HLT.out rfl HBB.out (Nat.le_refl _) HBB.out.size (by omega) HM4.out HSP.out ?_; intro A3 c3 w5 hown3 hsz3 hb3 hd3 hsep3; rw [← HTK.out] at hown3; have HO3 := Lib.hid hown3; have HB3 := Lib.hid hb3; have HD3 := Lib.hid hd3; have HS3 := Lib.hid hsep3; clear hown3 hsz3 hb3 hd3 hsep3) | fail)
          go_roundw
          case rel => exact ⟨k + 1, A3, c3, by omega, by go_num, rfl, HO3, HD3, HS3, HB3⟩
          case measure => simp [intOf]; omega
        · have hkn : k = M.length := by omega
          have HF : Hid (OwI wr w.heap.size (.slice A2 M.length c2) M) := Lib.hid (by have := HO.out; rw [hkn, List.take_of_length_le (Nat.le_refl _)] at this; exact this)
          subst hkn
          go_wp2
          go_ret2
          rw [HN2.out]
          exact ⟨A2, c2, rfl, HF.out, HBB.out⟩
end Go.Proofs.Ytegabdhmfemgkaa
