/-
SpreadOfDelays of the program and of the reference. Condition: the slices read as lists.
-/
import Derived.Test.YthpijecjifmnbaaDoorDelH
namespace Go.Proofs.YthpijecjifmnbaaDoor
open Go.RowKit
set_option linter.unusedVariables false

def sqs (xs : List Int) : Int := (xs.map (fun x => x * x)).sum
theorem sqs_take {xs : List Int} {k : Nat} (hk : k < xs.length) : sqs (xs.take (k + 1)) = sqs (xs.take k) + xs[k] * xs[k] := by
  unfold sqs; rw [List.take_succ_eq_append_getElem hk, List.map_append, List.sum_append]; simp
theorem sq_nonneg (x : Int) : 0 ≤ x * x := by
  rcases Int.le_total 0 x with h | h
  · exact Int.mul_nonneg h h
  · have := Int.mul_nonneg (show 0 ≤ -x by omega) (show 0 ≤ -x by omega)
    rwa [Int.neg_mul_neg] at this
theorem dev_nonneg (y : Int) : ∀ xs : List Int, 0 ≤ sqs xs - 2 * y * xs.sum + (xs.length : Int) * (y * y)
  | [] => by simp [sqs]
  | x :: xs => by
    have ih := dev_nonneg y xs
    have h := sq_nonneg (x - y)
    have h1 : sqs (x :: xs) = x * x + sqs xs := by simp [sqs]
    have h2 : (x :: xs).sum = x + xs.sum := by simp
    have h3 : ((x :: xs).length : Int) = (xs.length : Int) + 1 := by simp
    rw [h1, h2, h3]
    have e1 : (x - y) * (x - y) = x * x - 2 * y * x + y * y := by
      rw [Int.sub_mul, Int.mul_sub, Int.mul_sub, Int.mul_comm y x, Int.mul_assoc, Int.mul_comm y x]; omega
    have e2 : 2 * y * (x + xs.sum) = 2 * y * x + 2 * y * xs.sum := Int.mul_add _ _ _
    have e3 : ((xs.length : Int) + 1) * (y * y) = (xs.length : Int) * (y * y) + y * y := by rw [Int.add_mul]; omega
    rw [e2, e3]; rw [e1] at h; omega
theorem spread_nonneg : ∀ xs : List Int, 0 ≤ (xs.length : Int) * sqs xs - xs.sum * xs.sum
  | [] => by simp [sqs]
  | x :: xs => by
    have ih := spread_nonneg xs
    have h := dev_nonneg x xs
    have h1 : sqs (x :: xs) = x * x + sqs xs := by simp [sqs]
    have h2 : (x :: xs).sum = x + xs.sum := by simp
    have h3 : ((x :: xs).length : Int) = (xs.length : Int) + 1 := by simp
    rw [h1, h2, h3]
    generalize xs.sum = S at *
    generalize sqs xs = Q at *
    generalize (xs.length : Int) = n at *
    have e1 : (n + 1) * (x * x + Q) = n * (x * x) + n * Q + x * x + Q := by rw [Int.add_mul, Int.mul_add]; omega
    have e2 : (x + S) * (x + S) = x * x + 2 * x * S + S * S := by
      rw [Int.add_mul, Int.mul_add, Int.mul_add, Int.mul_comm S x, Int.mul_assoc]; omega
    rw [e1, e2]; omega
theorem sqs_bd {xs : List Int} (h : ∀ x ∈ xs, 0 ≤ x ∧ x ≤ 10000) : ∀ k : Nat, k ≤ xs.length → 0 ≤ sqs (xs.take k) ∧ sqs (xs.take k) ≤ 100000000 * (k : Int)
  | 0, _ => by simp [sqs]
  | k + 1, hk => by
    have ih := sqs_bd h k (by omega)
    have h1 := h xs[k] (List.getElem_mem (by omega))
    rw [sqs_take (by omega)]
    have h2 := sq_nonneg xs[k]
    have h3 : xs[k] * xs[k] ≤ 10000 * 10000 := Int.mul_le_mul h1.2 h1.2 h1.1 (by omega)
    omega
def spreadN (ts : List Trip) : Int := (ts.length : Int) * sqs (lates ts) - (lates ts).sum * (lates ts).sum
def spreadR (ts : List Trip) : Int × Int × Int := if codeSome ts = 0 then ((fracR (spreadN ts).toNat (ts.length * ts.length)).1, (fracR (spreadN ts).toNat (ts.length * ts.length)).2, 0) else (0, 0, codeSome ts)
theorem spread_facts {ts : List Trip} (h : tripsOk ts = true) : (0 ≤ (lates ts).sum ∧ (lates ts).sum ≤ 1000000) ∧ (0 ≤ sqs (lates ts) ∧ sqs (lates ts) ≤ 10000000000) ∧
    (0 ≤ (ts.length : Int) * sqs (lates ts) ∧ (ts.length : Int) * sqs (lates ts) ≤ 1000000000000) ∧ (0 ≤ (lates ts).sum * (lates ts).sum ∧ (lates ts).sum * (lates ts).sum ≤ 1000000000000) ∧ 0 ≤ spreadN ts ∧ spreadN ts ≤ 1000000000000 := by
  obtain ⟨h1, h2⟩ := tripsOk_at h
  have hs := lates_sum h
  have hq := sqs_bd (lates_bd h2) ts.length (by rw [lates_len]; omega)
  rw [List.take_of_length_le (by rw [lates_len]; omega)] at hq
  have hn := spread_nonneg (lates ts)
  rw [lates_len] at hn
  have hq' : 0 ≤ sqs (lates ts) ∧ sqs (lates ts) ≤ 10000000000 := by omega
  have ha : 0 ≤ (ts.length : Int) * sqs (lates ts) := Int.mul_nonneg (by omega) hq'.1
  have hb : (ts.length : Int) * sqs (lates ts) ≤ 100 * 10000000000 := Int.mul_le_mul (by omega) hq'.2 hq'.1 (by omega)
  have hc : 0 ≤ (lates ts).sum * (lates ts).sum := sq_nonneg _
  have hd : (lates ts).sum * (lates ts).sum ≤ 1000000 * 1000000 := Int.mul_le_mul hs.2 hs.2 hs.1 (by omega)
  unfold spreadN
  exact ⟨hs, hq', ⟨ha, by omega⟩, ⟨hc, by omega⟩, hn, by omega⟩

theorem implSpread_any (v : Value) (ts : List Trip) (w : World) (hv : SlTrip w v ts) :
    Calls Tryd.prog 20 #[v] w fun e w' => e = .returned (.tuple #[.agg #[.int .i64 (spreadR ts).1, .int .i64 (spreadR ts).2.1], .int .i64 (spreadR ts).2.2]) ∧ Below w.heap.size w w' := by
  have HV := Lib.hid hv
  have hcode := fun (W : World) (h : SlTrip W v ts) => tripsCode_any v ts 0 0 0 W h
  rw [codeT0] at hcode
  have HC := Lib.hid hcode
  obtain ⟨A, c, rfl, hla, _⟩ := hv.op
  clear hv hcode
  have HR : Hid (spreadR ts = if codeSome ts = 0 then ((fracR (spreadN ts).toNat (ts.length * ts.length)).1, (fracR (spreadN ts).toNat (ts.length * ts.length)).2, 0) else (0, 0, codeSome ts)) := Lib.hid rfl
  have HK : Hid (codeSome ts = 0 → tripsOk ts = true ∧ 1 ≤ ts.length) := Lib.hid codeSome_ok
  go_enter Tryd.func20, Tryd.ntmps20
  go_wp2_with fail
  refine (HC.out _ (HV.out.ex (below_alloc _ _))).mono ?_
  rintro e w1 ⟨rfl, hb1⟩
  clear HC
  generalize codeSome ts = cd at HR HK ⊢
  have HB1 := Lib.hid hb1
  by_cases h0 : cd = 0
  · subst h0
    obtain ⟨hok, hl1⟩ := HK.out rfl
    obtain ⟨hl, hall⟩ := tripsOk_at hok
    obtain ⟨⟨f1, f2⟩, ⟨f3, f4⟩, ⟨f5, f6⟩, ⟨f7, f8⟩, f9, f10⟩ := spread_facts hok
    have HALL := Lib.hid hall
    have HSB := Lib.hid (sum_bd (lates_bd hall)); have HQB := Lib.hid (sqs_bd (lates_bd hall)); have HXB := Lib.hid (lates_bd hall)
    clear hall hb1 hok
    go_wp2_with fail
    refine (delays_any _ ts _ (HV.out.ex (below_next0 (below_alloc _ _) HB1.out)) HALL.out).mono ?_
    rintro e w2 ⟨A2, c2, rfl, hown, hb2⟩
    obtain ⟨A', c', hAc, hle, hcs⟩ := hown.sl.op
    injection hAc with hA1 hA2 hA3
    subst hA1 hA3
    have HCS := Lib.hid hcs
    have HB2 := Lib.hid (below_next0 HB1.out hb2)
    clear hown hb2 hcs hA2
    go_wp2
    go_loopw [6, 7, 21] (fun s q i wr => ∃ k : Nat, k ≤ ts.length ∧ i = .int .i64 k ∧ s = .int .i64 ((lates ts).take k).sum ∧ q = .int .i64 (sqs ((lates ts).take k)) ∧ w2 = wr) (fun _ _ i _ => ts.length - (intOf i).toNat)
    case atStart => exact ⟨0, Nat.zero_le _, rfl, rfl, rfl, rfl⟩
    case round =>
      obtain ⟨k, hk, rfl, rfl, rfl, rfl⟩ := hrel
      by_cases hlt : k < ts.length
      · have hll : k < (lates ts).length := by rw [lates_len]; exact hlt
        obtain ⟨b, o, rfl, hbs, hc⟩ := HCS.out k hll
        have hcell := hc k hll
        have hlti : (k : Int) < (ts.length : Int) := by omega
        have HT := Lib.hid (sum_take hll); have HT2 := Lib.hid (sqs_take hll)
        obtain ⟨hs1, hs2⟩ := HSB.out k (by omega)
        obtain ⟨hq1, hq2⟩ := HQB.out k (by omega)
        obtain ⟨hx1, hx2⟩ := HXB.out _ (List.getElem_mem hll)
        generalize (lates ts)[k] = x at hcell HT HT2 hx1 hx2
        have hxx1 := sq_nonneg x
        have hxx2 : x * x ≤ 10000 * 10000 := Int.mul_le_mul hx2 hx2 hx1 (by omega)
        generalize ((lates ts).take k).sum = s at HT hs1 hs2 ⊢
        generalize sqs ((lates ts).take k) = q at HT2 hq1 hq2 ⊢
        clear hc f5 f6 f7 f8 f9 f10
        go_wp2
        go_roundw
        case rel => exact ⟨k + 1, by omega, by go_num, by rw [HT.out], by rw [HT2.out], by first | trivial | rfl⟩
        case measure => simp [intOf]; omega
      · have hkn : k = ts.length := by omega
        subst hkn
        rw [List.take_of_length_le (by rw [lates_len]; omega)]
        have HSP : Hid (spreadN ts = (ts.length : Int) * sqs (lates ts) - (lates ts).sum * (lates ts).sum) := Lib.hid rfl
        have hnn1 : 1 ≤ ts.length * ts.length := Nat.mul_le_mul hl1 hl1
        have hnn2 : ts.length * ts.length ≤ 10000 := Nat.mul_le_mul hl hl
        have hnc : (ts.length : Int) * (ts.length : Int) = ((ts.length * ts.length : Nat) : Int) := by simp
        have hnn3 : (ts.length : Int) * (ts.length : Int) ≤ 10000 := by rw [hnc]; omega
        have hnn4 : 1 ≤ (ts.length : Int) * (ts.length : Int) := by rw [hnc]; omega
        obtain ⟨d, hd⟩ := Int.eq_ofNat_of_zero_le f9
        have HD := Lib.hid hd
        rw [hd] at HR f10
        have HNC := Lib.hid hnc
        have hf9 : (ts.length : Int) * sqs (lates ts) - (lates ts).sum * (lates ts).sum = (d : Int) := by rw [← HSP.out]; exact HD.out
        have HF9 := Lib.hid hf9
        clear hnc hd hf9 f9
        go_wp2_with fail
        rw [HF9.out, HNC.out]
        refine (lowest_any d (ts.length * ts.length) _ (by omega) (by omega) hnn1).mono ?_
        rintro e w3 ⟨rfl, hb3⟩
        have HB3 := Lib.hid (below_next0 HB2.out hb3)
        obtain ⟨hc0, hc1, hf0, hf1⟩ := box12f HB3.out
        clear hb3
        have HR2 : Hid (spreadR ts = ((fracR d (ts.length * ts.length)).1, (fracR d (ts.length * ts.length)).2, 0)) := Lib.hid (by rw [HR.out]; simp)
        generalize fracR d (ts.length * ts.length) = fr at HR2 ⊢
        go_wp2
        refine bodyPost_ret (v := .tuple #[.agg #[.int .i64 fr.1, .int .i64 fr.2], .int .i64 0]) (by simp [results, Tryd.results20, go_sem, hc0, hc1]) rfl ⟨by rw [HR2.out], ?_⟩
        exact ((below_next0 (below_alloc _ _) HB3.out).setCell (p := ⟨w.heap.size, 0, none⟩) (Nat.le_refl _) _).setCell (p := ⟨w.heap.size, 1, none⟩) (Nat.le_refl _) _
  · have h0n : (cd != 0) = true := by simpa using h0
    have HR2 : Hid (spreadR ts = (0, 0, cd)) := Lib.hid (by rw [HR.out, if_neg h0])
    obtain ⟨hc0, hc1, hf0, hf1⟩ := box12f HB1.out
    clear h0 hb1
    go_wp2
    refine bodyPost_ret (v := .tuple #[.agg #[.int .i64 0, .int .i64 0], .int .i64 cd]) (by simp [results, Tryd.results20, go_sem, hc0, hc1]) rfl ⟨by rw [HR2.out], ?_⟩
    exact ((below_next0 (below_alloc _ _) HB1.out).setCell (p := ⟨w.heap.size, 0, none⟩) (Nat.le_refl _) _).setCell (p := ⟨w.heap.size, 1, none⟩) (Nat.le_refl _) _
theorem specSpread_any (v : Value) (ts : List Trip) (w : World) (hv : SlTrip w v ts) :
    Calls Tryd.prog 21 #[v] w fun e w' => e = .returned (.tuple #[.agg #[.int .i64 (spreadR ts).1, .int .i64 (spreadR ts).2.1], .int .i64 (spreadR ts).2.2]) ∧ Below w.heap.size w w' := by
  have HV := Lib.hid hv
  obtain ⟨A, c, rfl, hla, ha⟩ := hv.op
  have HA := Lib.hid ha
  clear hv ha
  have HR : Hid (spreadR ts = if codeSome ts = 0 then ((fracR (spreadN ts).toNat (ts.length * ts.length)).1, (fracR (spreadN ts).toNat (ts.length * ts.length)).2, 0) else (0, 0, codeSome ts)) := Lib.hid rfl
  have HK : Hid (codeSome ts = 0 → tripsOk ts = true ∧ 1 ≤ ts.length) := Lib.hid codeSome_ok
  go_enter Tryd.func21, Tryd.ntmps21
  go_wp2_with fail
  refine (l13Some_any _ ts _ (HV.out.ex (below_alloc _ _))).mono ?_
  rintro e w1 ⟨rfl, rfl⟩
  generalize codeSome ts = cd at HR HK ⊢
  by_cases h0 : cd = 0
  · subst h0
    obtain ⟨hok, hl1⟩ := HK.out rfl
    obtain ⟨hl, hall⟩ := tripsOk_at hok
    obtain ⟨⟨f1, f2⟩, ⟨f3, f4⟩, ⟨f5, f6⟩, ⟨f7, f8⟩, f9, f10⟩ := spread_facts hok
    have HALL := Lib.hid hall
    have HQB := Lib.hid (sqs_bd (lates_bd hall))
    clear hall hok
    go_wp2_with fail
    refine (l13Sum_any _ ts _ (HV.out.ex (below_alloc _ _)) HALL.out hl).mono ?_
    rintro e w2 ⟨rfl, hb2⟩
    have HB2 := Lib.hid hb2
    clear hb2
    go_wp2
    go_loopw [7, 8] (fun q i wr => ∃ k : Nat, k ≤ ts.length ∧ i = .int .i64 k ∧ q = .int .i64 (sqs ((lates ts).take k)) ∧ Below (w.alloc (.cells #[.int .i64 0, .int .i64 0] 36)).heap.size (w.alloc (.cells #[.int .i64 0, .int .i64 0] 36)) wr) (fun _ i _ => ts.length - (intOf i).toNat)
    case atStart => exact ⟨0, Nat.zero_le _, rfl, rfl, HB2.out⟩
    case round =>
      obtain ⟨k, hk, rfl, rfl, hb⟩ := hrel
      by_cases hlt : k < ts.length
      · have hll : k < (lates ts).length := by rw [lates_len]; exact hlt
        have hbw := below_next0 (below_alloc w (.cells #[.int .i64 0, .int .i64 0] 36)) hb
        obtain ⟨b, o, rfl, hbs, hc0, hc1, hc2⟩ := HA.out k hlt
        have hx0 := (hbw.cell (p := ⟨b, o + k * 3, none⟩) hbs).trans hc0
        have hx1 := (hbw.cell (p := ⟨b, o + k * 3 + 1, none⟩) hbs).trans hc1
        have hx2 := (hbw.cell (p := ⟨b, o + k * 3 + 2, none⟩) hbs).trans hc2
        have hlti : (k : Int) < (ts.length : Int) := by omega
        have HC := Lib.hid (fun n => l13Late_any ts[k].to ts[k].due ts[k].came b (o + k * 3) (wr.drewN n) hx0 hx1 hx2 (HALL.out k hlt))
        have hk' : Trip.late ⟨ts[k].to, ts[k].due, ts[k].came⟩ = ts[k].late := rfl
        rw [hk'] at HC
        have HT2 : Hid (sqs ((lates ts).take (k + 1)) = sqs ((lates ts).take k) + ts[k].late * ts[k].late) := Lib.hid (by rw [sqs_take hll, lates_get hlt])
        obtain ⟨hq1, hq2⟩ := HQB.out k (by omega)
        obtain ⟨hxb1, hxb2⟩ := Trip.late_bd (HALL.out k hlt)
        generalize ts[k].late = x at HC HT2 hxb1 hxb2
        have hxx1 := sq_nonneg x
        have hxx2 : x * x ≤ 10000 * 10000 := Int.mul_le_mul hxb2 hxb2 hxb1 (by omega)
        generalize sqs ((lates ts).take k) = q at HT2 hq1 hq2 ⊢
        have HB := Lib.hid hb
        clear hc0 hc1 hc2 hx0 hx1 hx2 hk' hb hbw f5 f6 f7 f8 f9 f10
        go_wp2
        go_quiet ((go_at_call 55; exact Calls.quiet_of (HC.out _)))
        go_wp2
        go_roundw
        case rel => exact ⟨k + 1, by omega, by go_num, by rw [HT2.out], below_drewN HB.out nq⟩
        case measure => simp [intOf]; omega
      · have hkn : k = ts.length := by omega
        subst hkn
        rw [List.take_of_length_le (by rw [lates_len]; omega)]
        have HB := Lib.hid hb; clear hb
        have HSP : Hid (spreadN ts = (ts.length : Int) * sqs (lates ts) - (lates ts).sum * (lates ts).sum) := Lib.hid rfl
        have hnn1 : 1 ≤ ts.length * ts.length := Nat.mul_le_mul hl1 hl1
        have hnn2 : ts.length * ts.length ≤ 10000 := Nat.mul_le_mul hl hl
        have hnc : (ts.length : Int) * (ts.length : Int) = ((ts.length * ts.length : Nat) : Int) := by simp
        have hnn3 : (ts.length : Int) * (ts.length : Int) ≤ 10000 := by rw [hnc]; omega
        have hnn4 : 1 ≤ (ts.length : Int) * (ts.length : Int) := by rw [hnc]; omega
        obtain ⟨d, hd⟩ := Int.eq_ofNat_of_zero_le f9
        have HD := Lib.hid hd
        rw [hd] at HR f10
        have HNC := Lib.hid hnc
        have hf9 : (ts.length : Int) * sqs (lates ts) - (lates ts).sum * (lates ts).sum = (d : Int) := by rw [← HSP.out]; exact HD.out
        have HF9 := Lib.hid hf9
        clear hnc hd hf9 f9
        go_wp2_with fail
        rw [HF9.out, HNC.out]
        refine (l02Make_any d (ts.length * ts.length) _ (by omega) (by omega) hnn1).mono ?_
        rintro e w3 ⟨rfl, hb3⟩
        have HB3 := Lib.hid (below_next0 HB.out hb3)
        obtain ⟨hc0, hc1, hf0, hf1⟩ := box12f HB3.out
        clear hb3
        have HR2 : Hid (spreadR ts = ((fracR d (ts.length * ts.length)).1, (fracR d (ts.length * ts.length)).2, 0)) := Lib.hid (by rw [HR.out]; simp)
        generalize fracR d (ts.length * ts.length) = fr at HR2 ⊢
        go_wp2
        refine bodyPost_ret (v := .tuple #[.agg #[.int .i64 fr.1, .int .i64 fr.2], .int .i64 0]) (by simp [results, Tryd.results21, go_sem, hc0, hc1]) rfl ⟨by rw [HR2.out], ?_⟩
        exact ((below_next0 (below_alloc _ _) HB3.out).setCell (p := ⟨w.heap.size, 0, none⟩) (Nat.le_refl _) _).setCell (p := ⟨w.heap.size, 1, none⟩) (Nat.le_refl _) _
  · have h0n : (cd != 0) = true := by simpa using h0
    have HR2 : Hid (spreadR ts = (0, 0, cd)) := Lib.hid (by rw [HR.out, if_neg h0])
    clear h0
    go_wp2
    refine bodyPost_ret (v := .tuple #[.agg #[.int .i64 0, .int .i64 0], .int .i64 cd]) (by simp [results, Tryd.results21, go_sem]) rfl ⟨by rw [HR2.out], ?_⟩
    exact below_alloc _ _
end Go.Proofs.YthpijecjifmnbaaDoor
