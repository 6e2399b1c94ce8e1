/-
MeanDelay and ShareWithin of the program and of the reference. Condition: the slices read as lists.
-/
import Derived.Test.YthpijecjifmnbaaDoorDelG
namespace Go.Proofs.YthpijecjifmnbaaDoor
open Go.RowKit
set_option linter.unusedVariables false

theorem codeT0 (ts : List Trip) : codeT ts 0 0 0 = codeSome ts := by
  have h : inB 0 0 0 = true := inB_iff.2 ⟨by omega, by omega⟩
  unfold codeT codeSome; rw [h]; simp
theorem codeSome_ok {ts : List Trip} (h : codeSome ts = 0) : tripsOk ts = true ∧ 1 ≤ ts.length := by
  unfold codeSome at h
  split at h
  · rename_i h1
    split at h
    · cases h
    · exact ⟨h1, by omega⟩
  · cases h
theorem box12f {w W : World} {x y : Value} {t : TypeId} (h : Below (w.alloc (.cells #[x, y] t)).heap.size (w.alloc (.cells #[x, y] t)) W) :
    W.cell? ⟨w.heap.size, 0, none⟩ = some x ∧ W.cell? ⟨w.heap.size, 1, none⟩ = some y ∧ W.frozen? ⟨w.heap.size, 0, none⟩ = false ∧ W.frozen? ⟨w.heap.size, 1, none⟩ = false := by
  have hs : ∀ j, (⟨w.heap.size, j, none⟩ : Addr).block < (w.alloc (.cells #[x, y] t)).heap.size := fun j => by simp
  refine ⟨(h.cell (hs 0)).trans (by simp [go_sem]), (h.cell (hs 1)).trans (by simp [go_sem]), (h.frozen (hs 0)).trans (by simp [go_sem]), (h.frozen (hs 1)).trans (by simp [go_sem])⟩

def meanR (ts : List Trip) : Int × Int × Int := if codeSome ts = 0 then ((fracR (lates ts).sum.toNat ts.length).1, (fracR (lates ts).sum.toNat ts.length).2, 0) else (0, 0, codeSome ts)
theorem lates_sum {ts : List Trip} (h : tripsOk ts = true) : 0 ≤ (lates ts).sum ∧ (lates ts).sum ≤ 1000000 := by
  obtain ⟨h1, h2⟩ := tripsOk_at h
  have h3 := sum_bd (lates_bd h2) ts.length (by rw [lates_len]; omega)
  rw [List.take_of_length_le (by rw [lates_len]; omega)] at h3
  omega

theorem implMean_any (v : Value) (ts : List Trip) (w : World) (hv : SlTrip w v ts) :
    Calls Tryd.prog 12 #[v] w fun e w' => e = .returned (.tuple #[.agg #[.int .i64 (meanR ts).1, .int .i64 (meanR ts).2.1], .int .i64 (meanR ts).2.2]) ∧ Below w.heap.size w w' := by
  have HV := Lib.hid hv
  have hcode := fun (W : World) (h : SlTrip W v ts) => tripsCode_any v ts 0 0 0 W h
  rw [codeT0] at hcode
  have HC := Lib.hid hcode
  obtain ⟨A, c, rfl, hla, _⟩ := hv.op
  clear hv hcode
  have HR : Hid (meanR ts = if codeSome ts = 0 then ((fracR (lates ts).sum.toNat ts.length).1, (fracR (lates ts).sum.toNat ts.length).2, 0) else (0, 0, codeSome ts)) := Lib.hid rfl
  have HK : Hid (codeSome ts = 0 → tripsOk ts = true ∧ 1 ≤ ts.length) := Lib.hid codeSome_ok
  go_enter Tryd.func12, Tryd.ntmps12
  go_wp2_with fail
  refine (HC.out _ (HV.out.ex (below_alloc _ _))).mono ?_
  rintro e w1 ⟨rfl, hb1⟩
  clear HC
  generalize codeSome ts = cd at HR HK ⊢
  have HB1 := Lib.hid hb1
  by_cases h0 : cd = 0
  · subst h0
    obtain ⟨hok, hl1⟩ := HK.out rfl
    obtain ⟨hl, hall⟩ := tripsOk_at hok
    obtain ⟨hs1, hs2⟩ := lates_sum hok
    obtain ⟨s, hs⟩ := Int.eq_ofNat_of_zero_le hs1
    rw [hs] at HR hs2
    have HS := Lib.hid hs
    have HALL := Lib.hid hall
    clear hall hb1 hs hs1 hok
    go_wp2_with fail
    refine (delays_any _ ts _ (HV.out.ex (below_next0 (below_alloc _ _) HB1.out)) HALL.out).mono ?_
    rintro e w2 ⟨A2, c2, rfl, hown, hb2⟩
    have HO := Lib.hid hown
    have HB2 := Lib.hid (below_next0 HB1.out hb2)
    clear hown hb2
    go_wp2_with fail
    refine (sumOf_any _ _ _ HO.out.sl (lates_bd HALL.out) (by rw [lates_len]; exact hl)).mono ?_
    rintro e w3 ⟨rfl, rfl⟩
    rw [HS.out]
    go_wp2_with fail
    refine (lowest_any s ts.length _ (by omega) (by omega) hl1).mono ?_
    rintro e w3 ⟨rfl, hb3⟩
    have HB3 := Lib.hid (below_next0 HB2.out hb3)
    obtain ⟨hc0, hc1, hf0, hf1⟩ := box12f HB3.out
    clear hb3
    have HR2 : Hid (meanR ts = ((fracR s ts.length).1, (fracR s ts.length).2, 0)) := Lib.hid (by rw [HR.out]; simp)
    generalize fracR s ts.length = fr at HR2 ⊢
    go_wp2
    refine bodyPost_ret (v := .tuple #[.agg #[.int .i64 fr.1, .int .i64 fr.2], .int .i64 0]) (by simp [results, Tryd.results12, go_sem, hc0, hc1]) rfl ⟨by rw [HR2.out], ?_⟩
    exact ((below_next0 (below_alloc _ _) HB3.out).setCell (p := ⟨w.heap.size, 0, none⟩) (Nat.le_refl _) _).setCell (p := ⟨w.heap.size, 1, none⟩) (Nat.le_refl _) _
  · have h0n : (cd != 0) = true := by simpa using h0
    have HR2 : Hid (meanR ts = (0, 0, cd)) := Lib.hid (by rw [HR.out, if_neg h0])
    obtain ⟨hc0, hc1, hf0, hf1⟩ := box12f HB1.out
    clear h0 hb1
    go_wp2
    refine bodyPost_ret (v := .tuple #[.agg #[.int .i64 0, .int .i64 0], .int .i64 cd]) (by simp [results, Tryd.results12, go_sem, hc0, hc1]) rfl ⟨by rw [HR2.out], ?_⟩
    exact ((below_next0 (below_alloc _ _) HB1.out).setCell (p := ⟨w.heap.size, 0, none⟩) (Nat.le_refl _) _).setCell (p := ⟨w.heap.size, 1, none⟩) (Nat.le_refl _) _
theorem specMean_any (v : Value) (ts : List Trip) (w : World) (hv : SlTrip w v ts) :
    Calls Tryd.prog 13 #[v] w fun e w' => e = .returned (.tuple #[.agg #[.int .i64 (meanR ts).1, .int .i64 (meanR ts).2.1], .int .i64 (meanR ts).2.2]) ∧ Below w.heap.size w w' := by
  have HV := Lib.hid hv
  obtain ⟨A, c, rfl, hla, _⟩ := hv.op
  clear hv
  have HR : Hid (meanR ts = if codeSome ts = 0 then ((fracR (lates ts).sum.toNat ts.length).1, (fracR (lates ts).sum.toNat ts.length).2, 0) else (0, 0, codeSome ts)) := Lib.hid rfl
  have HK : Hid (codeSome ts = 0 → tripsOk ts = true ∧ 1 ≤ ts.length) := Lib.hid codeSome_ok
  go_enter Tryd.func13, Tryd.ntmps13
  go_wp2_with fail
  refine (l13Some_any _ ts _ (HV.out.ex (below_alloc _ _))).mono ?_
  rintro e w1 ⟨rfl, rfl⟩
  generalize codeSome ts = cd at HR HK ⊢
  have HB1 := Lib.hid (Below.refl (w.alloc (.cells #[.int .i64 0, .int .i64 0] 36)).heap.size (w.alloc (.cells #[.int .i64 0, .int .i64 0] 36)))
  by_cases h0 : cd = 0
  · subst h0
    obtain ⟨hok, hl1⟩ := HK.out rfl
    obtain ⟨hl, hall⟩ := tripsOk_at hok
    obtain ⟨hs1, hs2⟩ := lates_sum hok
    obtain ⟨s, hs⟩ := Int.eq_ofNat_of_zero_le hs1
    rw [hs] at HR hs2
    have HS := Lib.hid hs
    have HALL := Lib.hid hall
    clear hall hs hs1 hok
    go_wp2_with fail
    refine (l13Sum_any _ ts _ (HV.out.ex (below_alloc _ _)) HALL.out hl).mono ?_
    rintro e w2 ⟨rfl, hb2⟩
    rw [HS.out]
    have HB2 := Lib.hid hb2
    clear hb2
    go_wp2_with fail
    refine (l02Make_any s ts.length _ (by omega) (by omega) hl1).mono ?_
    rintro e w3 ⟨rfl, hb3⟩
    have HB3 := Lib.hid (below_next0 HB2.out hb3)
    obtain ⟨hc0, hc1, hf0, hf1⟩ := box12f HB3.out
    clear hb3
    have HR2 : Hid (meanR ts = ((fracR s ts.length).1, (fracR s ts.length).2, 0)) := Lib.hid (by rw [HR.out]; simp)
    generalize fracR s ts.length = fr at HR2 ⊢
    go_wp2
    refine bodyPost_ret (v := .tuple #[.agg #[.int .i64 fr.1, .int .i64 fr.2], .int .i64 0]) (by simp [results, Tryd.results13, go_sem, hc0, hc1]) rfl ⟨by rw [HR2.out], ?_⟩
    exact ((below_next0 (below_alloc _ _) HB3.out).setCell (p := ⟨w.heap.size, 0, none⟩) (Nat.le_refl _) _).setCell (p := ⟨w.heap.size, 1, none⟩) (Nat.le_refl _) _
  · have h0n : (cd != 0) = true := by simpa using h0
    have HR2 : Hid (meanR ts = (0, 0, cd)) := Lib.hid (by rw [HR.out, if_neg h0])
    clear h0
    go_wp2
    refine bodyPost_ret (v := .tuple #[.agg #[.int .i64 0, .int .i64 0], .int .i64 cd]) (by simp [results, Tryd.results13, go_sem]) rfl ⟨by rw [HR2.out], ?_⟩
    exact below_alloc _ _

def shareR (ts : List Trip) (n : Int) : Int × Int × Int := if codeT ts n 0 10000 = 0 then ((fracR (cntW (lates ts) n ts.length).toNat ts.length).1, (fracR (cntW (lates ts) n ts.length).toNat ts.length).2, 0) else (0, 0, codeT ts n 0 10000)
theorem codeT_ok {ts : List Trip} {n lo hi : Int} (h : codeT ts n lo hi = 0) : tripsOk ts = true ∧ inB n lo hi = true ∧ 1 ≤ ts.length := by
  unfold codeT at h
  split at h
  · rename_i h1
    split at h
    · rename_i h2
      split at h
      · cases h
      · exact ⟨h1, h2, by omega⟩
    · cases h
  · cases h
theorem codeT_some {ts : List Trip} {n lo hi : Int} : codeT ts n lo hi = if codeSome ts = 1 then 1 else (if inB n lo hi = true then codeSome ts else 2) := by
  unfold codeT codeSome
  cases tripsOk ts <;> cases inB n lo hi <;> simp <;> split <;> simp
theorem codeSome_or (ts : List Trip) : codeSome ts = 0 ∨ codeSome ts = 1 ∨ codeSome ts = 3 := by
  unfold codeSome; split
  · split <;> simp
  · simp

theorem implShare_any (v : Value) (ts : List Trip) (n : Int) (w : World) (hv : SlTrip w v ts) (hn : -9223372036854775808 ≤ n ∧ n ≤ 9223372036854775807) :
    Calls Tryd.prog 15 #[v, .int .i64 n] w fun e w' => e = .returned (.tuple #[.agg #[.int .i64 (shareR ts n).1, .int .i64 (shareR ts n).2.1], .int .i64 (shareR ts n).2.2]) ∧ Below w.heap.size w w' := by
  have HV := Lib.hid hv
  obtain ⟨A, c, rfl, hla, _⟩ := hv.op
  clear hv
  have HR : Hid (shareR ts n = if codeT ts n 0 10000 = 0 then ((fracR (cntW (lates ts) n ts.length).toNat ts.length).1, (fracR (cntW (lates ts) n ts.length).toNat ts.length).2, 0) else (0, 0, codeT ts n 0 10000)) := Lib.hid rfl
  have HK : Hid (codeT ts n 0 10000 = 0 → tripsOk ts = true ∧ inB n 0 10000 = true ∧ 1 ≤ ts.length) := Lib.hid codeT_ok
  go_enter Tryd.func15, Tryd.ntmps15
  go_wp2_with fail
  refine (tripsCode_any _ ts _ _ _ _ (HV.out.ex (below_alloc _ _))).mono ?_
  rintro e w1 ⟨rfl, hb1⟩
  generalize codeT ts n 0 10000 = cd at HR HK ⊢
  have HB1 := Lib.hid hb1
  by_cases h0 : cd = 0
  · subst h0
    obtain ⟨hok, -, hl1⟩ := HK.out rfl
    obtain ⟨hl, hall⟩ := tripsOk_at hok
    obtain ⟨hs1, hs2⟩ := cntW_bd (lates ts) n ts.length (by rw [lates_len]; omega)
    obtain ⟨s, hs⟩ := Int.eq_ofNat_of_zero_le hs1
    rw [hs] at HR hs2
    have HS := Lib.hid hs
    have HALL := Lib.hid hall
    clear hall hb1 hs hs1 hok
    go_wp2_with fail
    refine (tripsWithin_any _ ts _ _ (HV.out.ex (below_next0 (below_alloc _ _) HB1.out)) HALL.out hl).mono ?_
    rintro e w2 ⟨rfl, hb2⟩
    rw [HS.out]
    have HB2 := Lib.hid (below_next0 HB1.out hb2)
    clear hb2
    go_wp2_with fail
    refine (lowest_any s ts.length _ (by omega) (by omega) hl1).mono ?_
    rintro e w3 ⟨rfl, hb3⟩
    have HB3 := Lib.hid (below_next0 HB2.out hb3)
    obtain ⟨hc0, hc1, hf0, hf1⟩ := box12f HB3.out
    clear hb3
    have HR2 : Hid (shareR ts n = ((fracR s ts.length).1, (fracR s ts.length).2, 0)) := Lib.hid (by rw [HR.out]; simp)
    generalize fracR s ts.length = fr at HR2 ⊢
    go_wp2
    refine bodyPost_ret (v := .tuple #[.agg #[.int .i64 fr.1, .int .i64 fr.2], .int .i64 0]) (by simp [results, Tryd.results15, go_sem, hc0, hc1]) rfl ⟨by rw [HR2.out], ?_⟩
    exact ((below_next0 (below_alloc _ _) HB3.out).setCell (p := ⟨w.heap.size, 0, none⟩) (Nat.le_refl _) _).setCell (p := ⟨w.heap.size, 1, none⟩) (Nat.le_refl _) _
  · have h0n : (cd != 0) = true := by simpa using h0
    have HR2 : Hid (shareR ts n = (0, 0, cd)) := Lib.hid (by rw [HR.out, if_neg h0])
    obtain ⟨hc0, hc1, hf0, hf1⟩ := box12f HB1.out
    clear h0 hb1
    go_wp2
    refine bodyPost_ret (v := .tuple #[.agg #[.int .i64 0, .int .i64 0], .int .i64 cd]) (by simp [results, Tryd.results15, go_sem, hc0, hc1]) rfl ⟨by rw [HR2.out], ?_⟩
    exact ((below_next0 (below_alloc _ _) HB1.out).setCell (p := ⟨w.heap.size, 0, none⟩) (Nat.le_refl _) _).setCell (p := ⟨w.heap.size, 1, none⟩) (Nat.le_refl _) _

theorem specShare_any (v : Value) (ts : List Trip) (n : Int) (w : World) (hv : SlTrip w v ts) (hn : -9223372036854775808 ≤ n ∧ n ≤ 9223372036854775807) :
    Calls Tryd.prog 16 #[v, .int .i64 n] w fun e w' => e = .returned (.tuple #[.agg #[.int .i64 (shareR ts n).1, .int .i64 (shareR ts n).2.1], .int .i64 (shareR ts n).2.2]) ∧ Below w.heap.size w w' := by
  have HV := Lib.hid hv
  obtain ⟨A, c, rfl, hla, _⟩ := hv.op
  clear hv
  have HR : Hid (shareR ts n = if codeT ts n 0 10000 = 0 then ((fracR (cntW (lates ts) n ts.length).toNat ts.length).1, (fracR (cntW (lates ts) n ts.length).toNat ts.length).2, 0) else (0, 0, codeT ts n 0 10000)) := Lib.hid rfl
  rw [codeT_some] at HR
  have HK : Hid (codeSome ts = 0 → tripsOk ts = true ∧ 1 ≤ ts.length) := Lib.hid codeSome_ok
  have HOR := Lib.hid (codeSome_or ts)
  go_enter Tryd.func16, Tryd.ntmps16
  go_wp2_with fail
  refine (l13Some_any _ ts _ (HV.out.ex (below_alloc _ _))).mono ?_
  rintro e w1 ⟨rfl, rfl⟩
  generalize codeSome ts = cd at HR HK HOR ⊢
  have HB1 := Lib.hid (Below.refl (w.alloc (.cells #[.int .i64 0, .int .i64 0] 36)).heap.size (w.alloc (.cells #[.int .i64 0, .int .i64 0] 36)))
  by_cases h1 : cd = 1
  · subst h1
    have HR2 : Hid (shareR ts n = (0, 0, 1)) := Lib.hid (by rw [HR.out]; simp)
    go_wp2
    refine bodyPost_ret (v := .tuple #[.agg #[.int .i64 0, .int .i64 0], .int .i64 1]) (by simp [results, Tryd.results16, go_sem]) rfl ⟨by rw [HR2.out], ?_⟩
    exact below_alloc _ _
  · have h1n : (cd == 1) = false := by simpa using h1
    cases hin : inB n 0 10000 with
    | false =>
      have HR2 : Hid (shareR ts n = (0, 0, 2)) := Lib.hid (by rw [HR.out, if_neg h1, hin]; simp)
      clear h1
      go_wp2_with (go_at_call 44; refine (l00In_any _ _ _ _).mono ?_; rintro e w' ⟨rfl, rfl⟩; rw [hin])
      refine bodyPost_ret (v := .tuple #[.agg #[.int .i64 0, .int .i64 0], .int .i64 2]) (by simp [results, Tryd.results16, go_sem]) rfl ⟨by rw [HR2.out], ?_⟩
      exact below_alloc _ _
    | true =>
      by_cases h0 : cd = 0
      · subst h0
        obtain ⟨hok, hl1⟩ := HK.out rfl
        obtain ⟨hl, hall⟩ := tripsOk_at hok
        obtain ⟨hs1, hs2⟩ := cntW_bd (lates ts) n ts.length (by rw [lates_len]; omega)
        obtain ⟨s, hs⟩ := Int.eq_ofNat_of_zero_le hs1
        rw [hs] at HR hs2
        have HR2 : Hid (shareR ts n = ((fracR s ts.length).1, (fracR s ts.length).2, 0)) := Lib.hid (by rw [HR.out, hin]; simp)
        have HS := Lib.hid hs
        have HALL := Lib.hid hall
        clear hall hs hs1 hok h1
        go_wp2_with fail
        refine (l00In_any _ _ _ _).mono ?_
        rintro e w' ⟨rfl, rfl⟩
        rw [hin]
        clear hin
        go_wp2_with fail
        refine (l13Within_any _ ts _ _ (HV.out.ex (below_alloc _ _)) HALL.out hl).mono ?_
        rintro e w2 ⟨rfl, hb2⟩
        rw [HS.out]
        have HB2 := Lib.hid hb2
        clear hb2
        go_wp2_with fail
        refine (l02Make_any s ts.length _ (by omega) (by omega) hl1).mono ?_
        rintro e w3 ⟨rfl, hb3⟩
        have HB3 := Lib.hid (below_next0 HB2.out hb3)
        obtain ⟨hc0, hc1, hf0, hf1⟩ := box12f HB3.out
        clear hb3
        generalize fracR s ts.length = fr at HR2 ⊢
        go_wp2
        refine bodyPost_ret (v := .tuple #[.agg #[.int .i64 fr.1, .int .i64 fr.2], .int .i64 0]) (by simp [results, Tryd.results16, go_sem, hc0, hc1]) rfl ⟨by rw [HR2.out], ?_⟩
        exact ((below_next0 (below_alloc _ _) HB3.out).setCell (p := ⟨w.heap.size, 0, none⟩) (Nat.le_refl _) _).setCell (p := ⟨w.heap.size, 1, none⟩) (Nat.le_refl _) _
      · obtain rfl : cd = 3 := by have := HOR.out; omega
        have HR2 : Hid (shareR ts n = (0, 0, 3)) := Lib.hid (by rw [HR.out, if_neg h1, hin]; simp)
        clear h0 h1
        go_wp2_with (go_at_call 44; refine (l00In_any _ _ _ _).mono ?_; rintro e w' ⟨rfl, rfl⟩; rw [hin])
        refine bodyPost_ret (v := .tuple #[.agg #[.int .i64 0, .int .i64 0], .int .i64 3]) (by simp [results, Tryd.results16, go_sem]) rfl ⟨by rw [HR2.out], ?_⟩
        exact below_alloc _ _
end Go.Proofs.YthpijecjifmnbaaDoor
