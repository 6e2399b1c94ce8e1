/-
The codes of tracks; AreTracks of both. Condition: the slices read as lists.
-/
import Derived.Test.YtlgeddbgbcineaaSensF
namespace Go.Proofs.Ytlgeddbgbcineaa
open Go.RowKit
set_option linter.unusedVariables false

theorem outB_idx (t : List Int) (n : Nat) : outB t 0 ((n : Int) - 1) = !t.all (fun x => inB x 0 ((n : Int) - 1)) := by
  unfold outB; rw [Bool.eq_iff_iff]; simp
theorem trkC_any (v : Value) (t : List Int) (A : Option Addr) (n c B : Nat) (w : World) (hv : SlI w v t) (hn : n ≤ 17592186044416) (h : w.cell? ⟨B, 0, none⟩ = some (.slice A n c)) :
    Calls Try.prog 83 #[v, .pointer (some ⟨B, 0, none⟩)] w fun e w' => e = .returned (.bool (!t.all (fun x => inB x 0 ((n : Int) - 1)))) ∧ Below w.heap.size w w' := by
  have HV := Lib.hid hv
  obtain ⟨Av, cv, rfl, hlv, _⟩ := hv.op
  have HO := Lib.hid (outB_idx t n)
  clear hv
  go_enter Try.func83, Try.ntmps83
  go_wp2_with fail
  refine (outside_any _ t _ _ _ HV.out).mono ?_
  rintro e w1 ⟨rfl, hb1⟩
  go_wp2
  go_ret
  exact ⟨ret_bool HO.out, hb1⟩

set_option maxHeartbeats 1000000 in
theorem tracksCode_any (v u t : Value) (gs : List (List Int)) (ts : List Reading) (tr : List (List Int)) (w : World) (hv : SlII w v gs) (hu : SlReading w u ts) (ht : SlII w t tr) :
    Calls Try.prog 67 #[v, u, t] w fun e w' => e = .returned (.int .i64 (codeT gs ts tr)) ∧ Below w.heap.size w w' := by
  have HV := Lib.hid hv; have HU := Lib.hid hu; have HT := Lib.hid ht
  obtain ⟨Ag, cg, rfl, hlg, _⟩ := hv.op
  obtain ⟨Ar, cr, rfl, hlr, _⟩ := hu.op
  obtain ⟨At, ct, rfl, hlt, _⟩ := ht.op
  clear hv hu ht
  have hq := show (w.alloc (.cells #[.slice Ar ts.length cr] 29)).cell? ⟨w.heap.size, 0, none⟩ = some (.slice Ar ts.length cr) by simp [go_sem]
  have HQ := Lib.hid hq
  have HB0 := Lib.hid (below_alloc w (.cells #[.slice Ar ts.length cr] 29))
  have HC : Hid (codeT gs ts tr = if readsOk gs ts = true then (if idxOk ts.length tr = true then 0 else 2) else 1) := Lib.hid rfl
  go_enter Try.func67, Try.ntmps67
  go_wp2_with fail
  refine (validReadings_any _ _ gs ts _ (HV.out.ex HB0.out) (HU.out.ex HB0.out)).mono ?_
  rintro e w1 ⟨rfl, hb1⟩
  have HB1 := Lib.hid (below_next0 HB0.out hb1)
  cases hok : readsOk gs ts with
  | false =>
    have E : Hid (codeT gs ts tr = 1) := Lib.hid (by rw [HC.out, hok]; rfl)
    clear hb1
    go_wp2
    go_ret
    exact ⟨ret_int E.out.symm, HB1.out⟩
  | true =>
    have E : Hid (codeT gs ts tr = if idxOk ts.length tr = true then 0 else 2) := Lib.hid (by rw [HC.out, hok]; rfl)
    have hq1 := (hb1.cell (p := ⟨w.heap.size, 0, none⟩) (by simp)).trans HQ.out
    have HQ1 := Lib.hid hq1
    have hblt : w.heap.size < w1.heap.size := Nat.lt_of_lt_of_le (by simp) hb1.size
    have EA : Hid (anyN (fun k => match tr[k]? with | some t => !t.all (fun x => inB x 0 ((ts.length : Int) - 1)) | none => false) tr.length = !idxOk ts.length tr) := Lib.hid <| by
      rw [anyN_list tr (fun t => !t.all (fun x => inB x 0 ((ts.length : Int) - 1))) _ (fun k hk => by simp [hk])]
      unfold idxOk
      rw [Bool.eq_iff_iff]; simp
    clear hb1 hq hq1 hok
    go_wp2_with fail
    obtain ⟨us, hu2, hrow⟩ := HT.out.ex HB1.out
    refine (conII_any 83 _ (enters_of Try.func83 (by kernel_rfl) rfl) (fun k => match tr[k]? with | some t => !t.all (fun x => inB x 0 ((ts.length : Int) - 1)) | none => false) _ tr.length us _ hu2 ?_).mono ?_
    · intro k hk W hW
      have hk' : k < tr.length := by obtain ⟨_, _, _, hl, _⟩ := hu2; omega
      have hx : (match tr[k]? with | some t => !t.all (fun x => inB x 0 ((ts.length : Int) - 1)) | none => false) = !tr[k].all (fun x => inB x 0 ((ts.length : Int) - 1)) := by simp [hk']
      rw [hx]
      exact trkC_any _ _ _ _ _ _ W ((hrow k hk hk').ex hW) hlr ((hW.cell (p := ⟨w.heap.size, 0, none⟩) hblt).trans HQ1.out)
    · rintro e w2 ⟨rfl, hb2⟩
      rw [EA.out]
      have HB2 := Lib.hid (below_next0 HB1.out hb2)
      clear hu2 hrow hb2
      cases hix : idxOk ts.length tr with
      | false =>
        rw [hix] at E
        go_wp2
        go_ret
        exact ⟨ret_int (by rw [E.out]; rfl), HB2.out⟩
      | true =>
        rw [hix] at E
        go_wp2
        go_ret
        exact ⟨ret_int (by rw [E.out]; rfl), HB2.out⟩

set_option maxHeartbeats 1000000 in
theorem l14Indices_any (t : Value) (tr : List (List Int)) (n : Nat) (w : World) (ht : SlII w t tr) (hn : n ≤ 17592186044416) :
    Calls Try.prog 82 #[t, .int .i64 (n : Int)] w fun e w' => e = .returned (.bool (idxOk n tr)) ∧ Below w.heap.size w w' := by
  obtain ⟨At, ct, rfl, hlt0, hat⟩ := ht.op
  have HAT := Lib.hid hat
  clear ht hat
  go_enter Try.func82, Try.ntmps82
  go_wp2
  go_loopw [5, 6] (fun i _ wr => ∃ m : Nat, m ≤ tr.length ∧ i = .int .i64 (m : Int) ∧ Hid (∀ t ∈ tr.take m, t.all (fun x => inB x 0 ((n : Int) - 1)) = true) ∧ w = wr) (fun i _ _ => tr.length - (intOf i).toNat)
  case atStart => exact ⟨0, Nat.zero_le _, rfl, Lib.hid (by simp), rfl⟩
  case round =>
    obtain ⟨m, hm, rfl, hall, rfl⟩ := hrel
    by_cases hlt : m < tr.length
    · have hmi : (m : Int) < (tr.length : Int) := by omega
      obtain ⟨b, o, A', c', rfl, hbs, hc, hrow⟩ := HAT.out m hlt
      have hle := hrow.le
      have HTL : Hid (∀ k, k < tr[m].length → ∃ b2 o2, A' = some ⟨b2, o2, none⟩ ∧ b2 < w.heap.size ∧ ∀ j (hj : j < tr[m].length), w.cell? ⟨b2, o2 + j, none⟩ = some (.int .i64 (tr[m][j]))) := Lib.hid (by
        obtain ⟨A2, c2, hveq, hla2, ha2⟩ := hrow.op
        injection hveq with hA2 _ hc2
        subst hA2 hc2
        exact ha2)
      have HBAD : Hid (∀ j (hj : j < tr[m].length), inB tr[m][j] 0 ((n : Int) - 1) = false → idxOk n tr = false) := Lib.hid fun j hj h => by
        unfold idxOk; rw [List.all_eq_false]
        exact ⟨tr[m], List.getElem_mem hlt, by
          simp only [Bool.not_eq_true]; rw [List.all_eq_false]; exact ⟨_, List.getElem_mem hj, by simp [h]⟩⟩
      have HNX : Hid ((∀ j (hj : j < tr[m].length), inB tr[m][j] 0 ((n : Int) - 1) = true) → ∀ t ∈ tr.take (m + 1), t.all (fun x => inB x 0 ((n : Int) - 1)) = true) := Lib.hid fun h t ht => by
        rw [List.take_succ_eq_append_getElem hlt] at ht
        rcases List.mem_append.1 ht with ht | ht
        · exact hall.out t ht
        · simp at ht; subst ht
          rw [List.all_eq_true]; intro x hx
          obtain ⟨j, hj, rfl⟩ := List.mem_iff_getElem.1 hx
          exact h j hj
      generalize tr[m] = L at hc HTL HBAD HNX hle
      clear hrow
      go_wp2
      go_loopw [6] (fun k wr => ∃ j : Nat, j ≤ L.length ∧ k = .int .i64 (j : Int) ∧ Hid (∀ i (hi : i < L.length), i < j → inB L[i] 0 ((n : Int) - 1) = true) ∧ w = wr) (fun k _ => L.length - (intOf k).toNat)
      case atStart => exact ⟨0, Nat.zero_le _, rfl, Lib.hid (fun i _ h => absurd h (Nat.not_lt_zero _)), rfl⟩
      case round =>
        obtain ⟨j, hj, rfl, hin, rfl⟩ := hrel
        by_cases hlj : j < L.length
        · have hji : (j : Int) < (L.length : Int) := by omega
          obtain ⟨b2, o2, rfl, hbs2, hcc⟩ := HTL.out j hlj
          have hx := hcc j hlj
          have HBJ := Lib.hid (HBAD.out j hlj)
          have HOK : Hid (inB L[j] 0 ((n : Int) - 1) = true → ∀ i (hi : i < L.length), i < j + 1 → inB L[i] 0 ((n : Int) - 1) = true) := Lib.hid fun h i hi hij => by
            by_cases e : i = j
            · subst e; exact h
            · exact hin.out i hi (by omega)
          generalize L[j] = x at hx HBJ HOK
          clear hcc
          cases hxi : inB x 0 ((n : Int) - 1) with
          | false =>
            have HF := Lib.hid (HBJ.out hxi)
            go_wp2_with (go_at_call 75; refine (l00In_any _ _ _ _).mono ?_; rintro e w' ⟨rfl, rfl⟩; rw [hxi])
            go_ret
            exact ⟨ret_bool HF.out.symm, Below.refl _ _⟩
          | true =>
            have HO2 := Lib.hid (HOK.out hxi)
            go_wp2_with (go_at_call 75; refine (l00In_any _ _ _ _).mono ?_; rintro e w' ⟨rfl, rfl⟩; rw [hxi])
            go_roundw
            case rel => exact ⟨j + 1, by omega, by go_num, HO2, by first | trivial | rfl⟩
            case measure => simp [intOf]; omega
        · have hjn : j = L.length := by omega
          have HN2 := Lib.hid (HNX.out (fun i hi => hin.out i hi (by omega)))
          subst hjn
          go_wp2
          go_roundw
          case rel => exact ⟨m + 1, by omega, by go_num, HN2, by first | trivial | rfl⟩
          case measure => simp [intOf]; omega
    · have hmn : m = tr.length := by omega
      subst hmn
      have HE : Hid (idxOk n tr = true) := Lib.hid (by
        have h1 := hall.out
        rw [List.take_of_length_le (Nat.le_refl _)] at h1
        unfold idxOk; rw [List.all_eq_true]; exact h1)
      go_wp2
      go_ret
      exact ⟨ret_bool HE.out.symm, Below.refl _ _⟩

theorem l14Code_any (v u t : Value) (gs : List (List Int)) (ts : List Reading) (tr : List (List Int)) (w : World) (hv : SlII w v gs) (hu : SlReading w u ts) (ht : SlII w t tr) :
    Calls Try.prog 65 #[v, u, t] w fun e w' => e = .returned (.int .i64 (codeT gs ts tr)) ∧ Below w.heap.size w w' := by
  have HV := Lib.hid hv; have HU := Lib.hid hu; have HT := Lib.hid ht
  obtain ⟨Ar, cr, rfl, hlr, _⟩ := hu.op
  clear hv hu ht
  have HC : Hid (codeT gs ts tr = if readsOk gs ts = true then (if idxOk ts.length tr = true then 0 else 2) else 1) := Lib.hid rfl
  go_enter Try.func65, Try.ntmps65
  go_wp2_with fail
  refine (l14Ok_any _ _ gs ts _ HV.out HU.out).mono ?_
  rintro e w1 ⟨rfl, hb1⟩
  cases hok : readsOk gs ts with
  | false =>
    rw [hok] at HC
    go_wp2
    go_ret
    exact ⟨ret_int (by rw [HC.out]; rfl), hb1⟩
  | true =>
    rw [hok] at HC
    have HB1 := Lib.hid hb1
    clear hb1 hok
    go_wp2_with fail
    refine (l14Indices_any _ tr ts.length _ (HT.out.ex HB1.out) hlr).mono ?_
    rintro e w2 ⟨rfl, hb2⟩
    cases hix : idxOk ts.length tr
    all_goals
      rw [hix] at HC
      go_wp2
      go_ret
      exact ⟨ret_int (by rw [HC.out]; rfl), below_next0 HB1.out hb2⟩
theorem codeT_ok {gs : List (List Int)} {ts : List Reading} {tr : List (List Int)} (h : codeT gs ts tr = 0) : readsOk gs ts = true ∧ idxOk ts.length tr = true := by
  unfold codeT at h
  split at h
  · split at h
    · exact ⟨by assumption, by assumption⟩
    · omega
  · omega

theorem implAre_any (v u t : Value) (gs : List (List Int)) (ts : List Reading) (tr : List (List Int)) (w : World) (hv : SlII w v gs) (hu : SlReading w u ts) (ht : SlII w t tr) :
    Calls Try.prog 40 #[v, u, t] w fun e w' => e = .returned (.tuple #[.bool (arR gs ts tr).1, .int .i64 (arR gs ts tr).2]) ∧ Below w.heap.size w w' := by
  have HV := Lib.hid hv; have HU := Lib.hid hu; have HT := Lib.hid ht
  clear hv hu ht
  have HR : Hid (arR gs ts tr = if codeT gs ts tr = 0 then (areP gs ts tr, 0) else (false, codeT gs ts tr)) := Lib.hid rfl
  have HOK := Lib.hid (codeT_ok (gs := gs) (ts := ts) (tr := tr))
  go_enter Try.func40, Try.ntmps40
  go_wp2_with fail
  refine (tracksCode_any _ _ _ gs ts tr _ HV.out HU.out HT.out).mono ?_
  rintro e w1 ⟨rfl, hb1⟩
  have HB1 := Lib.hid hb1
  clear hb1
  generalize codeT gs ts tr = cd at HR HOK
  by_cases hz : cd = 0
  · have hzb : (cd != 0) = false := by simpa using hz
    obtain ⟨h1, h2⟩ := HOK.out hz
    have HC := Lib.hid (areTracks_any _ _ _ gs ts tr w1 (HV.out.ex HB1.out) (HU.out.ex HB1.out) (HT.out.ex HB1.out) h1 h2)
    rw [if_pos hz] at HR
    clear hz h1 h2
    go_wp2_with fail
    refine HC.out.mono ?_
    rintro e w2 ⟨rfl, hb2⟩
    go_wp2
    go_ret2
    exact ⟨by rw [HR.out]; rfl, below_next0 HB1.out hb2⟩
  · have hzb : (cd != 0) = true := by simpa using hz
    rw [if_neg hz] at HR
    clear hz
    go_wp2
    go_ret2
    exact ⟨by rw [HR.out]; rfl, HB1.out⟩

theorem specAre_any (v u t : Value) (gs : List (List Int)) (ts : List Reading) (tr : List (List Int)) (w : World) (hv : SlII w v gs) (hu : SlReading w u ts) (ht : SlII w t tr) :
    Calls Try.prog 39 #[v, u, t] w fun e w' => e = .returned (.tuple #[.bool (arR gs ts tr).1, .int .i64 (arR gs ts tr).2]) ∧ Below w.heap.size w w' := by
  have HV := Lib.hid hv; have HU := Lib.hid hu; have HT := Lib.hid ht
  clear hv hu ht
  have HR : Hid (arR gs ts tr = if codeT gs ts tr = 0 then (areP gs ts tr, 0) else (false, codeT gs ts tr)) := Lib.hid rfl
  have HOK := Lib.hid (codeT_ok (gs := gs) (ts := ts) (tr := tr))
  go_enter Try.func39, Try.ntmps39
  go_wp2_with fail
  refine (l14Code_any _ _ _ gs ts tr _ HV.out HU.out HT.out).mono ?_
  rintro e w1 ⟨rfl, hb1⟩
  have HB1 := Lib.hid hb1
  clear hb1
  generalize codeT gs ts tr = cd at HR HOK
  by_cases hz : cd = 0
  · have hzb : (cd != 0) = false := by simpa using hz
    obtain ⟨h1, h2⟩ := HOK.out hz
    have HC := Lib.hid (l14Are_any _ _ _ gs ts tr w1 (HV.out.ex HB1.out) (HU.out.ex HB1.out) (HT.out.ex HB1.out) h1 h2)
    rw [if_pos hz] at HR
    clear hz h1 h2
    go_wp2_with fail
    refine HC.out.mono ?_
    rintro e w2 ⟨rfl, hb2⟩
    go_wp2
    go_ret2
    exact ⟨by rw [HR.out]; rfl, below_next0 HB1.out hb2⟩
  · have hzb : (cd != 0) = true := by simpa using hz
    rw [if_neg hz] at HR
    clear hz
    go_wp2
    go_ret2
    exact ⟨by rw [HR.out]; rfl, HB1.out⟩
end Go.Proofs.Ytlgeddbgbcineaa
