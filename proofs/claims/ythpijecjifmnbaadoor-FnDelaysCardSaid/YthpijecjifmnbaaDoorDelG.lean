/-
MeanDelay and ShareWithin of the program and of the reference; the codes of trips; sums and counts of delays. Condition: the slices read as lists.
-/
import Derived.Test.YthpijecjifmnbaaDoorDelB
import Derived.Test.YthpijecjifmnbaaDoorFrac
namespace Go.Proofs.YthpijecjifmnbaaDoor
open Go.RowKit
set_option linter.unusedVariables false

def codeT (ts : List Trip) (n lo hi : Int) : Int := if tripsOk ts = true then (if inB n lo hi = true then (if ts.length = 0 then 3 else 0) else 2) else 1
def codeSome (ts : List Trip) : Int := if tripsOk ts = true then (if ts.length = 0 then 3 else 0) else 1

theorem tripsCode_any (v : Value) (ts : List Trip) (n lo hi : Int) (w : World) (hv : SlTrip w v ts) :
    Calls Tryd.prog 39 #[v, .int .i64 n, .int .i64 lo, .int .i64 hi] w fun e w' => e = .returned (.int .i64 (codeT ts n lo hi)) ∧ Below w.heap.size w w' := by
  have HO := Lib.hid (validTrips_any v ts w hv)
  obtain ⟨A, c, rfl, hla, _⟩ := hv.op
  clear hv
  have HR : Hid (codeT ts n lo hi = if tripsOk ts = true then (if inB n lo hi = true then (if ts.length = 0 then 3 else 0) else 2) else 1) := Lib.hid rfl
  go_enter Tryd.func39, Tryd.ntmps39
  cases hok : tripsOk ts
  all_goals
    rw [hok] at HO HR
  · go_wp2_with (go_at_call 26; refine HO.out.mono ?_; rintro e w1 ⟨rfl, hb1⟩)
    go_ret
    exact ⟨ret_int (by rw [HR.out]; rfl), hb1⟩
  · go_wp2_with fail
    refine HO.out.mono ?_
    rintro e w1 ⟨rfl, hb1⟩
    cases hin : inB n lo hi
    all_goals rw [hin] at HR
    · go_wp2_with (go_at_call 52; refine (within_any _ _ _ _).mono ?_; rintro e w' ⟨rfl, rfl⟩; rw [hin])
      go_ret
      exact ⟨ret_int (by rw [HR.out]; rfl), hb1⟩
    · go_wp2_with fail
      refine (within_any _ _ _ _).mono ?_
      rintro e w' ⟨rfl, rfl⟩
      rw [hin]
      by_cases hz : ts.length = 0
      · have hz' : ((ts.length : Int) == 0) = true := by simp [hz]
        have HZ := Lib.hid hz; clear hz
        go_wp2
        go_ret
        exact ⟨ret_int (by rw [HR.out, if_pos HZ.out]; rfl), hb1⟩
      · have hz' : ((ts.length : Int) == 0) = false := by simpa using hz
        have HZ := Lib.hid hz; clear hz
        go_wp2
        go_ret
        exact ⟨ret_int (by rw [HR.out, if_neg HZ.out]; rfl), hb1⟩

theorem l13Some_any (v : Value) (ts : List Trip) (w : World) (hv : SlTrip w v ts) :
    Calls Tryd.prog 43 #[v] w fun e w' => e = .returned (.int .i64 (codeSome ts)) ∧ w = w' := by
  have HO := Lib.hid (l13List_any v ts w hv)
  obtain ⟨A, c, rfl, hla, _⟩ := hv.op
  clear hv
  have HR : Hid (codeSome ts = if tripsOk ts = true then (if ts.length = 0 then 3 else 0) else 1) := Lib.hid rfl
  go_enter Tryd.func43, Tryd.ntmps43
  cases hok : tripsOk ts
  all_goals
    rw [hok] at HO HR
  · go_wp2_with (go_at_call 53; refine HO.out.mono ?_; rintro e w1 ⟨rfl, rfl⟩)
    go_ret
    exact ⟨ret_int (by rw [HR.out]; rfl), rfl⟩
  · go_wp2_with fail
    refine HO.out.mono ?_
    rintro e w1 ⟨rfl, rfl⟩
    by_cases hz : ts.length = 0
    · have hz' : ((ts.length : Int) == 0) = true := by simp [hz]
      have HZ := Lib.hid hz; clear hz
      go_wp2
      go_ret
      exact ⟨ret_int (by rw [HR.out, if_pos HZ.out]; rfl), rfl⟩
    · have hz' : ((ts.length : Int) == 0) = false := by simpa using hz
      have HZ := Lib.hid hz; clear hz
      go_wp2
      go_ret
      exact ⟨ret_int (by rw [HR.out, if_neg HZ.out]; rfl), rfl⟩

theorem sum_take {xs : List Int} {k : Nat} (hk : k < xs.length) : (xs.take (k + 1)).sum = (xs.take k).sum + xs[k] := by
  rw [List.take_succ_eq_append_getElem hk, List.sum_append]; simp
theorem sum_bd {xs : List Int} {m : Int} (h : ∀ x ∈ xs, 0 ≤ x ∧ x ≤ m) : ∀ k : Nat, k ≤ xs.length → 0 ≤ (xs.take k).sum ∧ (xs.take k).sum ≤ m * (k : Int)
  | 0, _ => by simp
  | k + 1, hk => by
    have ih := sum_bd h k (by omega)
    have h1 := h xs[k] (List.getElem_mem (by omega))
    rw [sum_take (by omega)]
    have : m * ((k + 1 : Nat) : Int) = m * (k : Int) + m := by rw [Int.natCast_add, Int.mul_add]; simp
    omega
theorem lates_bd {ts : List Trip} (h : ∀ (k : Nat) (hk : k < ts.length), Trip.ok ts[k] = true) : ∀ x ∈ lates ts, 0 ≤ x ∧ x ≤ 10000 := by
  intro x hx
  obtain ⟨t, ht, rfl⟩ := List.mem_map.1 hx
  obtain ⟨i, hi, rfl⟩ := List.mem_iff_getElem.1 ht
  exact Trip.late_bd (h i hi)

theorem sumOf_any (v : Value) (xs : List Int) (w : World) (hv : SlI w v xs) (hx : ∀ x ∈ xs, 0 ≤ x ∧ x ≤ 10000) (hl : xs.length ≤ 100) :
    Calls Tryd.prog 47 #[v] w fun e w' => e = .returned (.int .i64 xs.sum) ∧ w = w' := by
  obtain ⟨A, c, rfl, hla, hcs⟩ := hv.op
  have HC := Lib.hid hcs; have HS := Lib.hid (sum_bd hx); have HX := Lib.hid hx
  clear hv hcs hx
  go_enter Tryd.func47, Tryd.ntmps47
  go_wp2
  go_loopw [3, 8] (fun s i wr => ∃ k : Nat, k ≤ xs.length ∧ i = .int .i64 k ∧ s = .int .i64 (xs.take k).sum ∧ w = wr) (fun _ i _ => xs.length - (intOf i).toNat)
  case atStart => exact ⟨0, Nat.zero_le _, rfl, rfl, rfl⟩
  case round =>
    obtain ⟨k, hk, rfl, rfl, rfl⟩ := hrel
    by_cases hlt : k < xs.length
    · obtain ⟨b, o, rfl, hbs, hc⟩ := HC.out k hlt
      have hcell := hc k hlt
      have hlti : (k : Int) < (xs.length : Int) := by omega
      have HT := Lib.hid (sum_take hlt)
      obtain ⟨hs1, hs2⟩ := HS.out k hk
      obtain ⟨hx1, hx2⟩ := HX.out _ (List.getElem_mem hlt)
      generalize xs[k] = x at hcell HT hx1 hx2
      generalize (xs.take k).sum = s at HT hs1 hs2 ⊢
      clear hc
      go_wp2
      go_roundw
      case rel => exact ⟨k + 1, by omega, by go_num, by rw [HT.out], by first | trivial | rfl⟩
      case measure => simp [intOf]; omega
    · have hkn : k = xs.length := by omega
      subst hkn
      go_wp2
      go_ret
      exact ⟨ret_int (by simp), rfl⟩

theorem l13Sum_any (v : Value) (ts : List Trip) (w : World) (hv : SlTrip w v ts) (hok : ∀ (k : Nat) (hk : k < ts.length), Trip.ok ts[k] = true) (hl : ts.length ≤ 100) :
    Calls Tryd.prog 49 #[v] w fun e w' => e = .returned (.int .i64 (lates ts).sum) ∧ Below w.heap.size w w' := by
  obtain ⟨A, c, rfl, hla, ha⟩ := hv.op
  have HA := Lib.hid ha; have HO := Lib.hid hok; have HS := Lib.hid (sum_bd (lates_bd hok))
  clear hv ha hok
  go_enter Tryd.func49, Tryd.ntmps49
  go_wp2
  go_loopw [3, 4] (fun s i wr => ∃ k : Nat, k ≤ ts.length ∧ i = .int .i64 k ∧ s = .int .i64 ((lates ts).take k).sum ∧ Below w.heap.size w wr) (fun _ i _ => ts.length - (intOf i).toNat)
  case atStart => exact ⟨0, Nat.zero_le _, rfl, rfl, Below.refl _ _⟩
  case round =>
    obtain ⟨k, hk, rfl, rfl, hb⟩ := hrel
    by_cases hlt : k < ts.length
    · obtain ⟨b, o, rfl, hbs, hc0, hc1, hc2⟩ := HA.out k hlt
      have hx0 := (hb.cell (p := ⟨b, o + k * 3, none⟩) hbs).trans hc0
      have hx1 := (hb.cell (p := ⟨b, o + k * 3 + 1, none⟩) hbs).trans hc1
      have hx2 := (hb.cell (p := ⟨b, o + k * 3 + 2, none⟩) hbs).trans hc2
      have hlti : (k : Int) < (ts.length : Int) := by omega
      have HC := Lib.hid (l13Late_any ts[k].to ts[k].due ts[k].came b (o + k * 3) wr hx0 hx1 hx2 (HO.out k hlt))
      have hk' : Trip.late ⟨ts[k].to, ts[k].due, ts[k].came⟩ = ts[k].late := rfl
      rw [hk'] at HC
      have hll : k < (lates ts).length := by rw [lates_len]; exact hlt
      have HT : Hid (((lates ts).take (k + 1)).sum = ((lates ts).take k).sum + ts[k].late) := Lib.hid (by rw [sum_take hll, lates_get hlt])
      obtain ⟨hs1, hs2⟩ := HS.out k (by omega)
      obtain ⟨hxb1, hxb2⟩ := Trip.late_bd (HO.out k hlt)
      have HB := Lib.hid hb
      generalize ts[k].late = x at HC HT hxb1 hxb2
      generalize ((lates ts).take k).sum = s at HT hs1 hs2 ⊢
      clear hc0 hc1 hc2 hx0 hx1 hx2 hk' hb
      go_wp2_with (go_at_call 55; refine HC.out.mono ?_; rintro e w2 ⟨rfl, q, rfl⟩)
      go_roundw
      case rel => exact ⟨k + 1, by omega, by go_num, by rw [HT.out], below_drewN HB.out q⟩
      case measure => simp [intOf]; omega
    · have hkn : k = ts.length := by omega
      subst hkn
      go_wp2
      go_ret
      exact ⟨ret_int (by rw [List.take_of_length_le (by rw [lates_len]; omega)]), hb⟩

/-- how many of the first k are small -/
def cntW (xs : List Int) (n : Int) (k : Nat) : Int := ((xs.take k).countP (fun x => decide (x ≤ n)) : Nat)
theorem cntW_succ {xs : List Int} {n : Int} {k : Nat} (hk : k < xs.length) : cntW xs n (k + 1) = cntW xs n k + (if xs[k] ≤ n then 1 else 0) := by
  unfold cntW; rw [List.take_succ_eq_append_getElem hk, List.countP_append]
  by_cases h : xs[k] ≤ n <;> simp [h]
theorem cntW_bd (xs : List Int) (n : Int) (k : Nat) (hk : k ≤ xs.length) : 0 ≤ cntW xs n k ∧ cntW xs n k ≤ (k : Int) := by
  unfold cntW
  have := List.countP_le_length (p := fun x => decide (x ≤ n)) (l := xs.take k)
  rw [List.length_take] at this
  omega

theorem l13Within_any (v : Value) (ts : List Trip) (n : Int) (w : World) (hv : SlTrip w v ts) (hok : ∀ (k : Nat) (hk : k < ts.length), Trip.ok ts[k] = true) (hl : ts.length ≤ 100) :
    Calls Tryd.prog 51 #[v, .int .i64 n] w fun e w' => e = .returned (.int .i64 (cntW (lates ts) n ts.length)) ∧ Below w.heap.size w w' := by
  obtain ⟨A, c, rfl, hla, ha⟩ := hv.op
  have HA := Lib.hid ha; have HO := Lib.hid hok
  clear hv ha hok
  go_enter Tryd.func51, Tryd.ntmps51
  go_wp2
  go_loopw [5, 6] (fun s i wr => ∃ k : Nat, k ≤ ts.length ∧ i = .int .i64 k ∧ s = .int .i64 (cntW (lates ts) n k) ∧ Below w.heap.size w wr) (fun _ i _ => ts.length - (intOf i).toNat)
  case atStart => exact ⟨0, Nat.zero_le _, rfl, rfl, Below.refl _ _⟩
  case round =>
    obtain ⟨k, hk, rfl, rfl, hb⟩ := hrel
    by_cases hlt : k < ts.length
    · obtain ⟨b, o, rfl, hbs, hc0, hc1, hc2⟩ := HA.out k hlt
      have hx0 := (hb.cell (p := ⟨b, o + k * 3, none⟩) hbs).trans hc0
      have hx1 := (hb.cell (p := ⟨b, o + k * 3 + 1, none⟩) hbs).trans hc1
      have hx2 := (hb.cell (p := ⟨b, o + k * 3 + 2, none⟩) hbs).trans hc2
      have hlti : (k : Int) < (ts.length : Int) := by omega
      have HC := Lib.hid (l13Late_any ts[k].to ts[k].due ts[k].came b (o + k * 3) wr hx0 hx1 hx2 (HO.out k hlt))
      have hk' : Trip.late ⟨ts[k].to, ts[k].due, ts[k].came⟩ = ts[k].late := rfl
      rw [hk'] at HC
      have hll : k < (lates ts).length := by rw [lates_len]; exact hlt
      have HT : Hid (cntW (lates ts) n (k + 1) = cntW (lates ts) n k + (if ts[k].late ≤ n then 1 else 0)) := Lib.hid (by rw [cntW_succ hll, lates_get hlt])
      obtain ⟨hs1, hs2⟩ := cntW_bd (lates ts) n k (by omega)
      have HB := Lib.hid hb
      generalize ts[k].late = x at HC HT
      generalize cntW (lates ts) n k = s at HT hs1 hs2 ⊢
      clear hc0 hc1 hc2 hx0 hx1 hx2 hk' hb
      by_cases hx : x ≤ n
      · rw [if_pos hx] at HT
        go_wp2_with (go_at_call 55; refine HC.out.mono ?_; rintro e w2 ⟨rfl, q, rfl⟩)
        go_roundw
        case rel => exact ⟨k + 1, by omega, by go_num, by rw [HT.out], below_drewN HB.out q⟩
        case measure => simp [intOf]; omega
      · rw [if_neg hx] at HT
        have hx' : n < x := by omega
        clear hx
        go_wp2_with (go_at_call 55; refine HC.out.mono ?_; rintro e w2 ⟨rfl, q, rfl⟩)
        go_roundw
        case rel => exact ⟨k + 1, by omega, by go_num, by rw [HT.out]; simp, below_drewN HB.out q⟩
        case measure => simp [intOf]; omega
    · have hkn : k = ts.length := by omega
      subst hkn
      go_wp2
      go_ret
      exact ⟨rfl, hb⟩

theorem tripsWithin_any (v : Value) (ts : List Trip) (n : Int) (w : World) (hv : SlTrip w v ts) (hok : ∀ (k : Nat) (hk : k < ts.length), Trip.ok ts[k] = true) (hl : ts.length ≤ 100) :
    Calls Tryd.prog 42 #[v, .int .i64 n] w fun e w' => e = .returned (.int .i64 (cntW (lates ts) n ts.length)) ∧ Below w.heap.size w w' := by
  have HV := Lib.hid hv; have HO := Lib.hid hok
  clear hv hok
  go_enter Tryd.func42, Tryd.ntmps42
  go_wp2_with fail
  refine (delays_any _ ts _ HV.out HO.out).mono ?_
  rintro e w2 ⟨A, c, rfl, hown, hb2⟩
  obtain ⟨A', c', hAc, hle, hcs⟩ := hown.sl.op
  injection hAc with hA1 hA2 hA3
  subst hA1 hA3
  have HC := Lib.hid hcs
  clear hcs hown hA2
  go_wp2
  go_loopw [5, 11] (fun s i wr => ∃ k : Nat, k ≤ ts.length ∧ i = .int .i64 k ∧ s = .int .i64 (cntW (lates ts) n k) ∧ w2 = wr) (fun _ i _ => ts.length - (intOf i).toNat)
  case atStart => exact ⟨0, Nat.zero_le _, rfl, rfl, rfl⟩
  case round =>
    obtain ⟨k, hk, rfl, rfl, rfl⟩ := hrel
    by_cases hlt : k < ts.length
    · obtain ⟨b, o, rfl, hbs, hc⟩ := HC.out k (by rw [lates_len]; exact hlt)
      have hll : k < (lates ts).length := by rw [lates_len]; exact hlt
      have hcell := hc k hll
      have hlti : (k : Int) < (ts.length : Int) := by omega
      have HT := Lib.hid (cntW_succ (n := n) hll)
      obtain ⟨hs1, hs2⟩ := cntW_bd (lates ts) n k (by omega)
      generalize (lates ts)[k] = x at hcell HT
      generalize cntW (lates ts) n k = s at HT hs1 hs2 ⊢
      clear hc
      by_cases hx : x ≤ n
      · rw [if_pos hx] at HT
        go_wp2
        go_roundw
        case rel => exact ⟨k + 1, by omega, by go_num, by rw [HT.out], by first | trivial | rfl⟩
        case measure => simp [intOf]; omega
      · rw [if_neg hx] at HT
        have hx' : n < x := by omega
        clear hx
        go_wp2
        go_roundw
        case rel => exact ⟨k + 1, by omega, by go_num, by rw [HT.out]; simp, by first | trivial | rfl⟩
        case measure => simp [intOf]; omega
    · have hkn : k = ts.length := by omega
      subst hkn
      go_wp2
      go_ret
      exact ⟨rfl, hb2⟩
end Go.Proofs.YthpijecjifmnbaaDoor
