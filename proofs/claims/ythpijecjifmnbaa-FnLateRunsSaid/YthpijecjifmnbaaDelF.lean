/-
MovingDelays of the program and of the reference. Condition: the slices read as lists.
-/
import Derived.Test.YthpijecjifmnbaaDelG
import Derived.Test.YthpijecjifmnbaaSub
namespace Go.Proofs.Ythpijecjifmnbaa
open Go.RowKit
set_option linter.unusedVariables false

theorem slTrip_sub {w : World} {c c' k m b o n : Nat} {ts : List Trip} (h : SlTrip w (.slice (some ⟨b, o, none⟩) n c) ts) (hn : ts.length = n) (hkm : k + m ≤ n) :
    SlTrip w (.slice (some ⟨b, o + k * 3, none⟩) m c') ((ts.drop k).take m) := by
  subst hn
  have h2 := sl_sub (c' := c') h hkm
  have hl : ((ts.drop k).take m).length = m := by simp; omega
  unfold SlTrip
  rw [hl, ← flat_take _ _ Trip.vals_len, ← flat_drop _ _ Trip.vals_len]
  exact h2
def movK (ds : List Int) (m k : Nat) : List Int := (List.range k).map fun i => ((ds.drop i).take m).sum
theorem movK_succ (ds : List Int) (m k : Nat) : movK ds m (k + 1) = movK ds m k ++ [((ds.drop k).take m).sum] := by simp [movK, List.range_succ]
theorem movK_len (ds : List Int) (m k : Nat) : (movK ds m k).length = k := by simp [movK]
def movN (n m : Nat) : Nat := n + 1 - m
def movingR (ts : List Trip) (many : Int) : List Int × Int :=
  if tripsOk ts = true then (if inB many 1 100 = true then (movK (lates ts) many.toNat (movN ts.length many.toNat), 0) else ([], 2)) else ([], 1)
theorem sub_ok {ts : List Trip} (h : ∀ (k : Nat) (hk : k < ts.length), Trip.ok ts[k] = true) (k m : Nat) : ∀ (j : Nat) (hj : j < ((ts.drop k).take m).length), Trip.ok ((ts.drop k).take m)[j] = true := by
  intro j hj
  simp only [List.length_take, List.length_drop] at hj
  simp only [List.getElem_take, List.getElem_drop]
  exact h _ (by omega)
theorem lates_sub (ts : List Trip) (k m : Nat) : lates ((ts.drop k).take m) = ((lates ts).drop k).take m := by simp [lates, List.map_take, List.map_drop]
theorem owI_nilF (w : World) (lo : Nat) : OwI w lo (.slice none 0 0) [] := ⟨World.ownsRow_nil _ _ _ _, by simp⟩

set_option maxHeartbeats 1000000 in
theorem specMoving_any (v : Value) (ts : List Trip) (many : Int) (w : World) (hv : SlTrip w v ts ∧ capOk v) (hm : -9223372036854775808 ≤ many ∧ many ≤ 9223372036854775807) :
    Calls Try.prog 32 #[v, .int .i64 many] w fun e w' => ∃ A c, e = .returned (.tuple #[.slice A (movingR ts many).1.length c, .int .i64 (movingR ts many).2]) ∧ OwI w' w.heap.size (.slice A (movingR ts many).1.length c) (movingR ts many).1 ∧ Below w.heap.size w w' := by
  obtain ⟨hv, hcap⟩ := hv
  have HO := Lib.hid (l13List_any v ts w hv)
  have HV := Lib.hid hv
  obtain ⟨A, c, rfl, hla, ha⟩ := hv.op
  have HA := Lib.hid ha
  have hcp : ts.length ≤ c := hcap _ _ _ rfl
  clear hv ha hcap
  have HR : Hid (movingR ts many = if tripsOk ts = true then (if inB many 1 100 = true then (movK (lates ts) many.toNat (movN ts.length many.toNat), 0) else ([], 2)) else ([], 1)) := Lib.hid rfl
  have HNIL := Lib.hid (fun w' : World => owI_nilF w' w.heap.size)
  have HEM := Lib.hid (owI_empty w w.heap.size (Nat.le_refl _))
  go_enter Try.func32, Try.ntmps32
  cases hok : tripsOk ts with
  | false =>
    have E : Hid (movingR ts many = ([], 1)) := Lib.hid (by rw [HR.out, hok]; rfl)
    rw [hok] at HO
    go_wp2_with (go_at_call 53; refine HO.out.mono ?_; rintro e w' ⟨rfl, rfl⟩)
    go_ret2
    exact ⟨none, 0, by rw [E.out]; rfl, by rw [E.out]; exact HNIL.out _, Below.refl _ _⟩
  | true =>
    obtain ⟨hl, hall⟩ := tripsOk_at hok
    have HALL := Lib.hid hall; clear hall
    rw [hok] at HO HR
    cases hin : inB many 1 100 with
    | false =>
      have E : Hid (movingR ts many = ([], 2)) := Lib.hid (by rw [HR.out, hin]; rfl)
      go_wp2_with (first | (go_at_call 53; refine HO.out.mono ?_; rintro e w' ⟨rfl, rfl⟩) | (go_at_call 57; refine (l00In_any _ _ _ _).mono ?_; rintro e w' ⟨rfl, rfl⟩; rw [hin]))
      go_ret2
      exact ⟨none, 0, by rw [E.out]; rfl, by rw [E.out]; exact HNIL.out _, Below.refl _ _⟩
    | true =>
      have hw1 := inB_iff.1 hin
      obtain ⟨m, rfl⟩ := Int.eq_ofNat_of_zero_le (show 0 ≤ many by omega)
      have E : Hid (movingR ts m = (movK (lates ts) m (movN ts.length m), 0)) := Lib.hid (by rw [HR.out, hin]; simp)
      have hm1 : 1 ≤ m := by omega
      have hm2 : m ≤ 100 := by omega
      go_wp2_with fail
      refine HO.out.mono ?_
      rintro e w' ⟨rfl, rfl⟩
      go_wp2_with fail
      refine (l00In_any _ _ _ _).mono ?_
      rintro e w' ⟨rfl, rfl⟩
      rw [hin]
      clear hok hin hw1 hm
      go_wp2
      go_loopw [6, 7] (fun out i wr => ∃ (k : Nat) (A2 : Option Addr) (c2 : Nat), k ≤ movN ts.length m ∧ i = .int .i64 k ∧ out = .slice A2 k c2 ∧ OwI wr w.heap.size (.slice A2 k c2) (movK (lates ts) m k) ∧ Below w.heap.size w wr) (fun _ i _ => movN ts.length m - (intOf i).toNat)
      case atStart => exact ⟨0, _, _, Nat.zero_le _, rfl, rfl, HEM.out, below_alloc _ _⟩
      case round =>
        obtain ⟨k, A2, c2, hk, rfl, rfl, hown, hb⟩ := hrel
        have hmn : movN ts.length m = ts.length + 1 - m := rfl
        by_cases hlt : k + m ≤ ts.length
        · obtain ⟨b, o, rfl, hbs, -⟩ := HA.out k (by omega)
          have hlti : (k : Int) + (m : Int) ≤ (ts.length : Int) := by omega
          have HOW := Lib.hid hown; have HB := Lib.hid hb
          have HS := Lib.hid (movK_succ (lates ts) m k)
          have HL := Lib.hid (movK_len (lates ts) m k)
          clear hown hb
          go_wp2_with fail
          refine (l13Sum_any _ ((ts.drop k).take m) _ (slTrip_sub (HV.out.ex HB.out) rfl hlt) (sub_ok HALL.out k m) (by simp; omega)).mono ?_
          rintro e w2 ⟨rfl, hb2⟩
          have HB2 := Lib.hid (below_next0 HB.out hb2)
          have HOW2 := Lib.hid (HOW.out.ex hb2)
          rw [lates_sub]
          clear hb2
          go_wp2_with (first | (at_builtin; refine wpList_appI w2 rfl (.tmp 23) (.tmp 31) rfl w.heap.size w.heap.size w A2 k c2 _ _ _ _ rfl HOW2.out HL.out rfl HB2.out (Nat.le_refl _) HB2.out.size (by omega) ?_; intro A3 c3 w3 hown3 hg3 hsz3 hb3) | fail)
          rw [← HS.out] at hown3
          have HO3 := Lib.hid hown3; have HB3 := Lib.hid hb3
          clear hown3 hb3 hg3 hsz3
          go_wp2
          go_roundw
          case rel => exact ⟨k + 1, A3, c3, by omega, by go_num, rfl, HO3.out, HB3.out⟩
          case measure => simp [intOf]; omega
        · have hkn : k = movN ts.length m ∨ (k = 0 ∧ movN ts.length m = 0) := by omega
          have hkk : k = movN ts.length m := by omega
          have hgt : (ts.length : Int) < (k : Int) + (m : Int) := by omega
          have HO2 := Lib.hid hown
          clear hown hlt hkn
          go_wp2
          go_ret2
          have hln := movK_len (lates ts) m (movN ts.length m)
          rw [E.out]
          exact ⟨A2, c2, by rw [hln, ← hkk]; rfl, by rw [hln, ← hkk]; exact HO2.out, hb⟩

set_option maxHeartbeats 1000000 in
theorem implMoving_any (v : Value) (ts : List Trip) (many : Int) (w : World) (hv : SlTrip w v ts ∧ capOk v) (hm : -9223372036854775808 ≤ many ∧ many ≤ 9223372036854775807) :
    Calls Try.prog 33 #[v, .int .i64 many] w fun e w' => ∃ A c, e = .returned (.tuple #[.slice A (movingR ts many).1.length c, .int .i64 (movingR ts many).2]) ∧ OwI w' w.heap.size (.slice A (movingR ts many).1.length c) (movingR ts many).1 ∧ Below w.heap.size w w' := by
  obtain ⟨hv, hcap⟩ := hv
  have HO := Lib.hid (validTrips_any v ts w hv)
  have HV := Lib.hid hv
  clear hv hcap
  have HR : Hid (movingR ts many = if tripsOk ts = true then (if inB many 1 100 = true then (movK (lates ts) many.toNat (movN ts.length many.toNat), 0) else ([], 2)) else ([], 1)) := Lib.hid rfl
  have HNIL := Lib.hid (fun w' : World => owI_nilF w' w.heap.size)
  go_enter Try.func33, Try.ntmps33
  cases hok : tripsOk ts with
  | false =>
    have E : Hid (movingR ts many = ([], 1)) := Lib.hid (by rw [HR.out, hok]; rfl)
    rw [hok] at HO
    go_wp2_with (go_at_call 20; refine HO.out.mono ?_; rintro e w1 ⟨rfl, hb1⟩)
    go_ret2
    exact ⟨none, 0, by rw [E.out]; rfl, by rw [E.out]; exact HNIL.out _, hb1⟩
  | true =>
    obtain ⟨hl, hall⟩ := tripsOk_at hok
    have HALL := Lib.hid hall; clear hall
    rw [hok] at HO HR
    cases hin : inB many 1 100 with
    | false =>
      have E : Hid (movingR ts many = ([], 2)) := Lib.hid (by rw [HR.out, hin]; rfl)
      go_wp2_with (first | (go_at_call 20; refine HO.out.mono ?_; rintro e w1 ⟨rfl, hb1⟩) | (go_at_call 58; refine (within_any _ _ _ _).mono ?_; rintro e w' ⟨rfl, rfl⟩; rw [hin]))
      go_ret2
      exact ⟨none, 0, by rw [E.out]; rfl, by rw [E.out]; exact HNIL.out _, hb1⟩
    | true =>
      have hw1 := inB_iff.1 hin
      obtain ⟨m, rfl⟩ := Int.eq_ofNat_of_zero_le (show 0 ≤ many by omega)
      have E : Hid (movingR ts m = (movK (lates ts) m (movN ts.length m), 0)) := Lib.hid (by rw [HR.out, hin]; simp)
      have hm1 : 1 ≤ m := by omega
      have hm2 : m ≤ 100 := by omega
      go_wp2_with fail
      refine HO.out.mono ?_
      rintro e w1 ⟨rfl, hb1⟩
      go_wp2_with fail
      refine (within_any _ _ _ _).mono ?_
      rintro e w' ⟨rfl, rfl⟩
      rw [hin]
      have HB1 := Lib.hid hb1
      have HEM := Lib.hid (owI_empty w1 w.heap.size hb1.size)
      have HBA := Lib.hid (hb1.alloc hb1.size (.cells #[] 2))
      clear hok hin hw1 hm hb1
      go_wp2_with fail
      refine (delays_any _ ts _ (HV.out.ex HBA.out) HALL.out).mono ?_
      rintro e w3 ⟨A, c, rfl, hown, hb3⟩
      have hcp : ts.length ≤ c := Ow.cap hown _ _ _ rfl
      have HD := Lib.hid hown
      have HSP := Lib.hid (Ow.sep_new' HEM.out hown (Nat.le_refl _))
      have HOW3 := Lib.hid (HEM.out.ex hb3)
      have HB3 := Lib.hid (below_next0 HBA.out hb3)
      clear hown hb3
      go_wp2
      go_loopw [6, 8] (fun out i wr => ∃ (k : Nat) (A2 : Option Addr) (c2 : Nat), k ≤ movN ts.length m ∧ i = .int .i64 k ∧ out = .slice A2 k c2 ∧ OwI wr w.heap.size (.slice A2 k c2) (movK (lates ts) m k) ∧ Below w.heap.size w wr ∧ OwI wr (w1.alloc (.cells #[] 2)).heap.size (.slice A ts.length c) (lates ts) ∧ Sep (.slice A ts.length c) (.slice A2 k c2)) (fun _ i _ => movN ts.length m - (intOf i).toNat)
      case atStart => exact ⟨0, _, _, Nat.zero_le _, rfl, rfl, HOW3.out, HB3.out, HD.out, HSP.out⟩
      case round =>
        obtain ⟨k, A2, c2, hk, rfl, rfl, hown, hb, hds, hsep⟩ := hrel
        have hmn : movN ts.length m = ts.length + 1 - m := rfl
        by_cases hlt : k + m ≤ ts.length
        · obtain ⟨A', c', hAc, hle, hcs⟩ := hds.sl.op
          injection hAc with hA1 hA2 hA3
          subst hA1 hA3
          obtain ⟨b, o, rfl, hbs, -⟩ := hcs k (by rw [lates_len]; omega)
          have hlti : (k : Int) + (m : Int) ≤ (ts.length : Int) := by omega
          have HOW := Lib.hid hown; have HB := Lib.hid hb; have HDS := Lib.hid hds; have HSEP := Lib.hid hsep
          have HS := Lib.hid (movK_succ (lates ts) m k)
          have HL := Lib.hid (movK_len (lates ts) m k)
          have HXB := Lib.hid (lates_bd HALL.out)
          clear hown hb hds hsep hcs hA2 hle
          go_wp2_with fail
          refine (sumOf_any _ (((lates ts).drop k).take m) _ (slI_sub HDS.out.sl (lates_len ts) hlt) (fun x hx => HXB.out x (List.mem_of_mem_drop (List.mem_of_mem_take hx))) (by simp [lates_len]; omega)).mono ?_
          rintro e w4 ⟨rfl, rfl⟩
          go_wp2_with (first | (at_builtin; refine wpList_appI2 wr rfl (.tmp 28) (.tmp 36) rfl w.heap.size w.heap.size w A2 k c2 _ _ _ _ rfl HOW.out HL.out rfl HB.out (Nat.le_refl _) HB.out.size (by omega) HDS.out HSEP.out ?_; intro A3 c3 w3 hown3 hsz3 hb3 hds3 hsep3) | fail)
          rw [← HS.out] at hown3
          have HO3 := Lib.hid hown3; have HB3 := Lib.hid hb3; have HD3 := Lib.hid hds3; have HSEP3 := Lib.hid hsep3
          clear hown3 hb3 hsz3 hds3 hsep3
          go_wp2
          go_roundw
          case rel => exact ⟨k + 1, A3, c3, by omega, by go_num, rfl, HO3.out, HB3.out, HD3.out, HSEP3.out⟩
          case measure => simp [intOf]; omega
        · have hkk : k = movN ts.length m := by omega
          have hgt : (ts.length : Int) < (k : Int) + (m : Int) := by omega
          have HO2 := Lib.hid hown
          clear hown hlt
          go_wp2
          go_ret2
          have hln := movK_len (lates ts) m (movN ts.length m)
          rw [E.out]
          exact ⟨A2, c2, by rw [hln, ← hkk]; rfl, by rw [hln, ← hkk]; exact HO2.out, hb⟩
end Go.Proofs.Ythpijecjifmnbaa
