/-
SetText of the program and of the reference. Condition: the slices read as lists.
-/
import Derived.Test.YtjleabgoajoegaaBlowC
import Derived.Test.YtjleabgoajoegaaApp
import Derived.Laws.BytesArg
namespace Go.Proofs.Ytjleabgoajoegaa
open Go.RowKit
set_option linter.unusedVariables false

/-- the signs of the first k blowers -/
def signs (s : Int) (k : Nat) : List Int := (List.range k).map fun (i : Nat) => if hasB s i = true then 43 else 45
theorem signs_yes {s : Int} {k : Nat} (h : hasB s k = true) : signs s (k + 1) = signs s k ++ [43] := by simp [signs, List.range_succ, h]
theorem signs_no {s : Int} {k : Nat} (h : hasB s k = false) : signs s (k + 1) = signs s k ++ [45] := by simp [signs, List.range_succ, h]
theorem signs_len (s : Int) (k : Nat) : (signs s k).length = k := by simp [signs]
theorem str_snoc (xs : List Int) (x : Int) : Go.strOfNums (xs ++ [x]) = Go.strOfNums xs ++ ⟨#[UInt8.ofNat x.toNat]⟩ := by
  apply ByteArray.ext
  simp [Go.strOfNums, ByteArray.data_append]
theorem str_size (xs : List Int) : (Go.strOfNums xs).size = xs.length := by simp [Go.strOfNums, ByteArray.size]
def textR (ts : List Blower) (s : Int) : ByteArray := if blowersOk ts = true ∧ inB s 0 (lastB ts.length) = true then Go.strOfNums (signs s ts.length) else ByteArray.empty

set_option maxRecDepth 100000 in
set_option maxHeartbeats 1000000 in
theorem specSetText_any (v : Value) (ts : List Blower) (s : Int) (w : World) (hv : SlBlower w v ts) (_ : -9223372036854775808 ≤ s ∧ s ≤ 9223372036854775807) :
    Calls Try.prog 52 #[v, .int .i64 s] w fun e w' => e = .returned (.string (textR ts s)) ∧ Below w.heap.size w w' := by
  have HV := Lib.hid hv
  obtain ⟨A, c, rfl, hla, _⟩ := hv.op
  clear hv
  cases hok : blowersOk ts with
  | false =>
    have E : Hid (textR ts s = ByteArray.empty) := Lib.hid (by simp [textR, hok])
    go_enter Try.func52, Try.ntmps52
    go_wp2_with fail
    refine (l11Ok_any _ ts _ HV.out).mono ?_
    rintro e w1 ⟨rfl, hb1⟩
    rw [hok]
    go_wp2
    go_ret
    exact ⟨by rw [E.out]; rfl, hb1⟩
  | true =>
    have hl4 := (blowersOk_at hok).1
    cases hs : inB s 0 (lastB ts.length) with
    | false =>
      have E : Hid (textR ts s = ByteArray.empty) := Lib.hid (by simp [textR, hs])
      go_enter Try.func52, Try.ntmps52
      go_wp2_with fail
      refine (l11Ok_any _ ts _ HV.out).mono ?_
      rintro e w1 ⟨rfl, hb1⟩
      rw [hok]
      go_wp2_with fail
      refine (l11Set_any _ _ _ _ _ hl4).mono ?_
      rintro e w' ⟨rfl, rfl⟩
      rw [hs]
      go_wp2
      go_ret
      exact ⟨by rw [E.out]; rfl, hb1⟩
    | true =>
      have E : Hid (textR ts s = Go.strOfNums (signs s ts.length)) := Lib.hid (by simp [textR, hok, hs])
      have HS := Lib.hid (set_bd hok hs)
      go_enter Try.func52, Try.ntmps52
      go_wp2_with fail
      refine (l11Ok_any _ ts _ HV.out).mono ?_
      rintro e w1 ⟨rfl, hb1⟩
      rw [hok]
      go_wp2_with fail
      refine (l11Set_any _ _ _ _ _ hl4).mono ?_
      rintro e w' ⟨rfl, rfl⟩
      rw [hs]
      have HB1 := Lib.hid hb1
      clear hb1 hs
      go_wp2
      go_loop [5, 6] (fun o i => ∃ k : Nat, k ≤ ts.length ∧ i = .int .i64 k ∧ o = .string (Go.strOfNums (signs s k))) (fun _ i => ts.length - (intOf i).toNat)
      case atStart => exact ⟨0, Nat.zero_le _, rfl, by simp [signs, Go.strOfNums]⟩
      case round =>
        obtain ⟨k, hk, rfl, rfl⟩ := hrel
        by_cases hlt : k < ts.length
        · have hki : (k : Int) < (ts.length : Int) := by omega
          have HH := Lib.hid (fun W => l11Has_any s k W HS.out (by omega))
          have HY := Lib.hid (signs_yes (s := s) (k := k)); have HN := Lib.hid (signs_no (s := s) (k := k))
          have HT := Lib.hid (str_snoc (signs s k))
          have hsz : (Go.strOfNums (signs s k)).size = k := by rw [str_size, signs_len]
          go_wp2_with fail
          refine (HH.out _).mono ?_
          rintro e w' ⟨rfl, rfl⟩
          cases hq : hasB s (k : Int) with
          | true =>
            have HE := Lib.hid (HY.out hq)
            clear hq
            go_wp2
            refine ⟨⟨k + 1, by omega, by go_num, by rw [HE.out, HT.out]; rfl⟩, by simp [intOf]; omega⟩
          | false =>
            have HE := Lib.hid (HN.out hq)
            clear hq
            go_wp2
            refine ⟨⟨k + 1, by omega, by go_num, by rw [HE.out, HT.out]; rfl⟩, by simp [intOf]; omega⟩
        · have hkn : k = ts.length := by omega
          subst hkn
          go_wp2
          go_ret
          exact ⟨by rw [E.out]; rfl, HB1.out⟩

theorem infoU8s : (Try.prog.info? 5).map (fun i => (i.zero, i.size, i.bytes)) = some (some (.int .u8 0), 1, 1) := by kernel_rfl

set_option maxRecDepth 100000 in
set_option maxHeartbeats 1000000 in
theorem implSetText_any (v : Value) (ts : List Blower) (s : Int) (w : World) (hv : SlBlower w v ts) (_ : -9223372036854775808 ≤ s ∧ s ≤ 9223372036854775807) :
    Calls Try.prog 51 #[v, .int .i64 s] w fun e w' => e = .returned (.string (textR ts s)) ∧ Below w.heap.size w w' := by
  have HV := Lib.hid hv
  obtain ⟨A, c, rfl, hla, _⟩ := hv.op
  clear hv
  have hone := codeS_one ts s
  have HR0 : Hid (codeS ts [s] ≠ 0 → textR ts s = ByteArray.empty) := Lib.hid <| by
    rw [hone]; unfold textR; cases blowersOk ts <;> cases inB s 0 (lastB ts.length) <;> simp
  have HR1 : Hid (codeS ts [s] = 0 → textR ts s = Go.strOfNums (signs s ts.length)) := Lib.hid <| by
    rw [hone]; unfold textR; cases blowersOk ts <;> cases inB s 0 (lastB ts.length) <;> simp
  have HK : Hid (codeS ts [s] = 0 → blowersOk ts = true ∧ 0 ≤ s ∧ s ≤ 15) := Lib.hid fun h => ⟨(codeS_ok h).1, (codeS_ok h).2.2 s (by simp)⟩
  clear hone
  go_enter Try.func51, Try.ntmps51
  go_wp2_with fail
  refine (setsCode_any _ _ ts [s] _ (HV.out.ex (below_alloc _ _)) (slI_one _ _ _)).mono ?_
  rintro e w1 ⟨rfl, hb1⟩
  replace hb1 := below_next0 (below_alloc _ _) hb1
  generalize codeS ts [s] = cd at HR0 HR1 HK ⊢
  by_cases h0 : cd = 0
  · subst h0
    have HK2 := Lib.hid (HK.out rfl)
    have hl4 := (blowersOk_at HK2.out.1).1
    have E := Lib.hid (HR1.out rfl)
    have HB1 := Lib.hid hb1
    have hbE := below_alloc w1 (.cells #[] 5)
    have HB2 := Lib.hid (below_next0 hb1 hbE)
    have HEM := Lib.hid (ow_empty w1 w1.heap.size 5 1 (Nat.le_refl _))
    have HLO := Lib.hid hb1.size
    clear hb1 hbE HR0 HR1 HK
    go_wp2
    go_loopw [5, 15] (fun o i wr => ∃ (k c2 : Nat) (A2 : Option Addr), k ≤ ts.length ∧ i = .int .i64 k ∧ o = .slice A2 k c2 ∧ Hid (Ow wr w1.heap.size 5 1 (.slice A2 k c2) k ((signs s k).map (Value.int .u8))) ∧ Hid (Below w.heap.size w wr) ∧ Hid (w1.heap.size ≤ wr.heap.size)) (fun _ i _ => ts.length - (intOf i).toNat)
    case atStart => exact ⟨0, _, _, Nat.zero_le _, rfl, rfl, Lib.hid (by simpa [signs] using HEM.out), HB2, Lib.hid (by simp)⟩
    case round =>
      obtain ⟨k, c2, A2, hk, rfl, rfl, HOW, HB, HSZI⟩ := hrel
      by_cases hlt : k < ts.length
      · have hki : (k : Int) < (ts.length : Int) := by omega
        have HSZ : Hid (w1.heap.size ≤ wr.heap.size) := HSZI
        have HH := Lib.hid (fun W => has_any s k W HK2.out.2 (by omega))
        have HY := Lib.hid (signs_yes (s := s) (k := k)); have HN := Lib.hid (signs_no (s := s) (k := k))
        go_wp2_with fail
        refine (HH.out _).mono ?_
        rintro e w' ⟨rfl, rfl⟩
        cases hq : hasB s (k : Int) with
        | true =>
          have HE := Lib.hid (HY.out hq)
          clear hq
          go_wp2_with (first | (at_builtin; refine wpList_app wr rfl (.tmp 21) (.tmp 22) _ rfl w1.heap.size 5 (.int .u8 0) 1 1 Try.underlying49 infoU8s rfl (by omega) (.slice A2 k c2) k _ rfl HOW.out #[.int .u8 43] _ _ rfl rfl (by intro u hu; simp at hu; subst hu; rfl) (by omega) (by omega) HSZ.out ?_; intro A3 c3 w3 hown3 hg3 hsz3 hor3; have HB3 := Lib.hid (below_own HB.out HOW.out hg3 HB.out.size HLO.out); have HO3 : Hid (Ow w3 w1.heap.size 5 1 (.slice A3 (k + 1) c3) (k + 1) ((signs s (k + 1)).map (Value.int .u8))) := Lib.hid (by rw [HE.out]; simpa using hown3); have HZ3 := Lib.hid (show w1.heap.size ≤ w3.heap.size by have := HSZI.out; omega); clear hown3 hg3 hsz3 hor3) | fail)
          go_roundw
          case rel => exact ⟨k + 1, c3, A3, by omega, by go_num, rfl, HO3, HB3, HZ3⟩
          case measure => simp [intOf]; omega
        | false =>
          have HE := Lib.hid (HN.out hq)
          clear hq
          go_wp2_with (first | (at_builtin; refine wpList_app wr rfl (.tmp 24) (.tmp 25) _ rfl w1.heap.size 5 (.int .u8 0) 1 1 Try.underlying49 infoU8s rfl (by omega) (.slice A2 k c2) k _ rfl HOW.out #[.int .u8 45] _ _ rfl rfl (by intro u hu; simp at hu; subst hu; rfl) (by omega) (by omega) HSZ.out ?_; intro A3 c3 w3 hown3 hg3 hsz3 hor3; have HB3 := Lib.hid (below_own HB.out HOW.out hg3 HB.out.size HLO.out); have HO3 : Hid (Ow w3 w1.heap.size 5 1 (.slice A3 (k + 1) c3) (k + 1) ((signs s (k + 1)).map (Value.int .u8))) := Lib.hid (by rw [HE.out]; simpa using hown3); have HZ3 := Lib.hid (show w1.heap.size ≤ w3.heap.size by have := HSZI.out; omega); clear hown3 hg3 hsz3 hor3) | fail)
          go_roundw
          case rel => exact ⟨k + 1, c3, A3, by omega, by go_num, rfl, HO3, HB3, HZ3⟩
          case measure => simp [intOf]; omega
      · have hkn : k = ts.length := by omega
        subst hkn
        rcases Ow.form HOW.out with ⟨hA, h0, _⟩ | ⟨g, c4, hA, _, _, _⟩
        · injection hA with hA hn9 hc
          clear hn9
          subst hA hc
          have hcv1 := run_convert_bytes_nil (P := Try.prog) wr 49 5 Try.underlying49 Try.underlying5 ts.length 0 9 Try.underlying9
          have HZ : Hid (Go.strOfNums (signs s ts.length) = ByteArray.empty) := Lib.hid (by rw [h0]; rfl)
          clear h0
          go_wp2
          go_ret
          exact ⟨by rw [E.out, HZ.out]; rfl, HB.out⟩
        · injection hA with hA hn9 hc
          clear hn9
          subst hA hc
          have hcv1 := run_convert_bytes_arg (P := Try.prog) wr 49 5 Try.underlying49 Try.underlying5 g 0 ts.length c2 (signs s ts.length) (signs_len s ts.length) (fun i hi => by
            have h9 := Ow.cell HOW.out (k := i) (by simp [signs_len]; exact hi)
            rw [Nat.zero_add, h9, List.getElem_map]
            simp [List.getD_eq_getElem?_getD, signs_len, hi]) 9 Try.underlying9
          go_wp2
          go_ret
          exact ⟨by rw [E.out]; rfl, HB.out⟩
  · have h0n : (cd != 0) = true := by simpa using h0
    have E := Lib.hid (HR0.out h0)
    clear h0
    go_wp2
    go_ret
    exact ⟨by rw [E.out]; rfl, hb1⟩
end Go.Proofs.Ytjleabgoajoegaa
