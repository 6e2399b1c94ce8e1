/-
Sets of blowers as bits, their power, what an hour costs: by their contracts. Conditions: sets from 0 to 15, at most four blowers.
-/
import Derived.Test.YtjleabgoajoegaaBlowA
namespace Go.Proofs.Ytjleabgoajoegaa
open Go.RowKit
set_option linter.unusedVariables false

/-- whether a set has a number -/
def hasB (s k : Int) : Bool := s.toNat.testBit k.toNat
theorem hasB_bits : ∀ s : Nat, s < 16 → ∀ k : Nat, k < 4 → (bits .and .i64 ((s : Int) / 2 ^ k) 1 == 1) = Nat.testBit s k := by decide +kernel

theorem has_any (s k : Int) (w : World) (hs : 0 ≤ s ∧ s ≤ 15) (hk : 0 ≤ k ∧ k ≤ 3) : Calls Try.prog 85 #[.int .i64 s, .int .i64 k] w fun e w' => e = .returned (.bool (hasB s k)) ∧ w = w' := by
  have E : Hid ((bits .and .i64 (s / 2 ^ k.toNat) 1 == 1) = hasB s k) := Lib.hid <| by
    obtain ⟨a, rfl⟩ := Int.eq_ofNat_of_zero_le hs.1
    obtain ⟨b, rfl⟩ := Int.eq_ofNat_of_zero_le hk.1
    exact hasB_bits a (by omega) b (by omega)
  obtain ⟨hs1, hs2⟩ := hs
  obtain ⟨hk1, hk2⟩ := hk
  go_enter Try.func85, Try.ntmps85
  go_wp2
  go_ret
  exact ⟨ret_bool E.out, rfl⟩

theorem l11Has_any (s k : Int) (w : World) (hs : 0 ≤ s ∧ s ≤ 15) (hk : 0 ≤ k ∧ k ≤ 3) : Calls Try.prog 70 #[.int .i64 s, .int .i64 k] w fun e w' => e = .returned (.bool (hasB s k)) ∧ w = w' := by
  have E : Hid ((bits .and .i64 (s / 2 ^ k.toNat) 1 == 1) = hasB s k) := Lib.hid <| by
    obtain ⟨a, rfl⟩ := Int.eq_ofNat_of_zero_le hs.1
    obtain ⟨b, rfl⟩ := Int.eq_ofNat_of_zero_le hk.1
    exact hasB_bits a (by omega) b (by omega)
  obtain ⟨hs1, hs2⟩ := hs
  obtain ⟨hk1, hk2⟩ := hk
  go_enter Try.func70, Try.ntmps70
  go_wp2
  go_ret
  exact ⟨ret_bool E.out, rfl⟩

/-- the greatest set of n blowers -/
def lastB (n : Nat) : Int := (2 ^ n : Nat) - 1
theorem lastB_le {n : Nat} (h : n ≤ 4) : 0 ≤ lastB n ∧ lastB n ≤ 15 := by
  have : n = 0 ∨ n = 1 ∨ n = 2 ∨ n = 3 ∨ n = 4 := by omega
  rcases this with rfl | rfl | rfl | rfl | rfl <;> decide
theorem lastB_wrap {n : Nat} (h : n ≤ 4) : wrap64 (wrap64 (2 ^ n) - 1) = lastB n := by
  have : n = 0 ∨ n = 1 ∨ n = 2 ∨ n = 3 ∨ n = 4 := by omega
  rcases this with rfl | rfl | rfl | rfl | rfl <;> decide +kernel

theorem lastSet_any (A : Option Addr) (n c : Nat) (w : World) (hn : n ≤ 4) : Calls Try.prog 67 #[.slice A n c] w fun e w' => e = .returned (.int .i64 (lastB n)) ∧ w = w' := by
  have E := Lib.hid (lastB_wrap hn)
  go_enter Try.func67, Try.ntmps67
  go_wp2
  go_ret
  exact ⟨ret_int E.out, rfl⟩

theorem l11Set_any (A : Option Addr) (n c : Nat) (s : Int) (w : World) (hn : n ≤ 4) : Calls Try.prog 61 #[.slice A n c, .int .i64 s] w fun e w' => e = .returned (.bool (inB s 0 (lastB n))) ∧ w = w' := by
  have E := Lib.hid (lastB_wrap hn)
  go_enter Try.func61, Try.ntmps61
  go_wp2_with fail
  rw [E.out]
  refine (l00In_any _ _ _ _).mono ?_
  rintro e w' ⟨rfl, rfl⟩
  go_wp2
  go_ret
  exact ⟨rfl, rfl⟩

/-- the power of a set's first k blowers; what they cost in an hour behind another set -/
def powS (ts : List Blower) (s : Int) : Nat → Int
  | 0 => 0
  | k + 1 => powS ts s k + (if hasB s k then ((ts[k]?).map Blower.power).getD 0 else 0)
def stepS (ts : List Blower) (b s : Int) : Nat → Int
  | 0 => 0
  | k + 1 => stepS ts b s k + (if hasB s k then ((ts[k]?).map Blower.hour).getD 0 + (if hasB b k then 0 else ((ts[k]?).map Blower.start).getD 0) else 0)
theorem powS_yes {ts : List Blower} {s : Int} {k : Nat} (hk : k < ts.length) (h : hasB s k = true) : powS ts s (k + 1) = powS ts s k + ts[k].power := by simp [powS, h, hk]
theorem powS_no {ts : List Blower} {s : Int} {k : Nat} (h : hasB s k = false) : powS ts s (k + 1) = powS ts s k := by simp [powS, h]
theorem stepS_no {ts : List Blower} {b s : Int} {k : Nat} (h : hasB s k = false) : stepS ts b s (k + 1) = stepS ts b s k := by simp [stepS, h]
theorem stepS_on {ts : List Blower} {b s : Int} {k : Nat} (hk : k < ts.length) (h : hasB s k = true) (h' : hasB b k = true) : stepS ts b s (k + 1) = stepS ts b s k + ts[k].hour := by simp [stepS, h, h', hk]
theorem stepS_up {ts : List Blower} {b s : Int} {k : Nat} (hk : k < ts.length) (h : hasB s k = true) (h' : hasB b k = false) : stepS ts b s (k + 1) = stepS ts b s k + ts[k].hour + ts[k].start := by simp [stepS, h, h', hk, Int.add_assoc]
theorem blowersOk_at {ts : List Blower} (h : blowersOk ts = true) : ts.length ≤ 4 ∧ ∀ (k : Nat) (hk : k < ts.length), (1 ≤ ts[k].power ∧ ts[k].power ≤ 1000) ∧ (0 ≤ ts[k].hour ∧ ts[k].hour ≤ 10000) ∧ (0 ≤ ts[k].start ∧ ts[k].start ≤ 10000) := by
  simp only [blowersOk, Bool.and_eq_true, List.all_eq_true, decide_eq_true_eq] at h
  refine ⟨h.2, fun k hk => ?_⟩
  have := h.1 ts[k] (List.getElem_mem hk)
  simp only [Blower.ok, Bool.and_eq_true, inB_iff] at this
  exact ⟨this.1.1, this.1.2, this.2⟩
theorem powS_bd {ts : List Blower} (h : blowersOk ts = true) (s : Int) : ∀ k : Nat, k ≤ ts.length → 0 ≤ powS ts s k ∧ powS ts s k ≤ 1000 * (k : Int)
  | 0, _ => by simp [powS]
  | k + 1, hk => by
    have ih := powS_bd h s k (by omega)
    have hb := (blowersOk_at h).2 k (by omega)
    cases hh : hasB s k with
    | true => rw [powS_yes (by omega) hh]; omega
    | false => rw [powS_no hh]; omega
theorem stepS_bd {ts : List Blower} (h : blowersOk ts = true) (b s : Int) : ∀ k : Nat, k ≤ ts.length → 0 ≤ stepS ts b s k ∧ stepS ts b s k ≤ 20000 * (k : Int)
  | 0, _ => by simp [stepS]
  | k + 1, hk => by
    have ih := stepS_bd h b s k (by omega)
    have hb := (blowersOk_at h).2 k (by omega)
    cases hh : hasB s k with
    | true =>
      cases hb2 : hasB b k with
      | true => rw [stepS_on (by omega) hh hb2]; omega
      | false => rw [stepS_up (by omega) hh hb2]; omega
    | false => rw [stepS_no hh]; omega
def powT (ts : List Blower) (s : Int) : Int := powS ts s ts.length
def stepT (ts : List Blower) (b s : Int) : Int := stepS ts b s ts.length
theorem powT_bd {ts : List Blower} (h : blowersOk ts = true) (s : Int) : 0 ≤ powT ts s ∧ powT ts s ≤ 4000 := by
  have h1 := powS_bd h s ts.length (Nat.le_refl _); have h2 := (blowersOk_at h).1; unfold powT; omega
theorem stepT_bd {ts : List Blower} (h : blowersOk ts = true) (b s : Int) : 0 ≤ stepT ts b s ∧ stepT ts b s ≤ 80000 := by
  have h1 := stepS_bd h b s ts.length (Nat.le_refl _); have h2 := (blowersOk_at h).1; unfold stepT; omega

theorem powerOf_any (v : Value) (ts : List Blower) (s : Int) (w : World) (hv : SlBlower w v ts) (hok : blowersOk ts = true) (hs : 0 ≤ s ∧ s ≤ 15) :
    Calls Try.prog 64 #[v, .int .i64 s] w fun e w' => e = .returned (.int .i64 (powT ts s)) ∧ Below w.heap.size w w' := by
  obtain ⟨A, c, rfl, hla, ha⟩ := hv.op
  clear hv
  have hl4 := (blowersOk_at hok).1
  have HS := Lib.hid hs; have HO := Lib.hid hok
  clear hs hok
  go_enter Try.func64, Try.ntmps64
  go_wp2
  go_loopw [5, 10] (fun sm i wr => ∃ k : Nat, k ≤ ts.length ∧ i = .int .i64 k ∧ sm = .int .i64 (powS ts s k) ∧ Below w.heap.size w wr) (fun _ i _ => ts.length - (intOf i).toNat)
  case atStart => exact ⟨0, Nat.zero_le _, rfl, rfl, Below.refl _ _⟩
  case round =>
    obtain ⟨k, hk, rfl, rfl, hb⟩ := hrel
    by_cases hlt : k < ts.length
    · obtain ⟨b, o, rfl, hbs, hc0, hc1, hc2⟩ := ha k hlt
      have hx0 := (hb.cell (p := ⟨b, o + k * 3, none⟩) hbs).trans hc0
      have hx1 := (hb.cell (p := ⟨b, o + k * 3 + 1, none⟩) hbs).trans hc1
      have hx2 := (hb.cell (p := ⟨b, o + k * 3 + 2, none⟩) hbs).trans hc2
      have hlti : (k : Int) < (ts.length : Int) := by omega
      have hbd := powS_bd HO.out s k hk
      have hbp := ((blowersOk_at HO.out).2 k hlt).1
      obtain ⟨hbd1, hbd2⟩ := hbd
      obtain ⟨hbp1, hbp2⟩ := hbp
      have HY := Lib.hid (powS_yes (ts := ts) (s := s) hlt)
      have hq : Below w.heap.size w (wr.alloc (.cells #[.int .i64 ts[k].power, .int .i64 ts[k].hour, .int .i64 ts[k].start] 62)) := hb.alloc hb.size _
      have HQ := Lib.hid hq; clear hq
      generalize ts[k] = x at hx0 hx1 hx2 hbp1 hbp2 HY HQ
      clear hc0 hc1 hc2 ha hb
      cases hh : hasB s k with
      | true =>
        have HE := Lib.hid (HY.out hh)
        go_wp2_with (go_at_call 85; refine (has_any _ _ _ HS.out (by omega)).mono ?_; rintro e w' ⟨rfl, rfl⟩)
        go_roundw
        case rel => exact ⟨k + 1, by omega, by go_num, by rw [HE.out], HQ.out⟩
        case measure => simp [intOf]; omega
      | false =>
        have HE := Lib.hid (powS_no (ts := ts) hh)
        go_wp2_with (go_at_call 85; refine (has_any _ _ _ HS.out (by omega)).mono ?_; rintro e w' ⟨rfl, rfl⟩)
        go_roundw
        case rel => exact ⟨k + 1, by omega, by go_num, by rw [HE.out], HQ.out⟩
        case measure => simp [intOf]; omega
    · obtain rfl : k = ts.length := by omega
      go_wp2
      go_ret
      exact ⟨rfl, hb⟩

theorem l11Power_any (v : Value) (ts : List Blower) (s : Int) (w : World) (hv : SlBlower w v ts) (hok : blowersOk ts = true) (hs : 0 ≤ s ∧ s ≤ 15) :
    Calls Try.prog 62 #[v, .int .i64 s] w fun e w' => e = .returned (.int .i64 (powT ts s)) ∧ w = w' := by
  obtain ⟨A, c, rfl, hla, ha⟩ := hv.op
  clear hv
  have hl4 := (blowersOk_at hok).1
  have HS := Lib.hid hs; have HO := Lib.hid hok
  clear hs hok
  go_enter Try.func62, Try.ntmps62
  go_wp2
  go_loop [5, 6] (fun sm i => ∃ k : Nat, k ≤ ts.length ∧ i = .int .i64 k ∧ sm = .int .i64 (powS ts s k)) (fun _ i => ts.length - (intOf i).toNat)
  case atStart => exact ⟨0, Nat.zero_le _, rfl, rfl⟩
  case round =>
    obtain ⟨k, hk, rfl, rfl⟩ := hrel
    by_cases hlt : k < ts.length
    · obtain ⟨b, o, rfl, hbs, hc0, hc1, hc2⟩ := ha k hlt
      have hlti : (k : Int) < (ts.length : Int) := by omega
      have hbd := powS_bd HO.out s k hk
      have hbp := ((blowersOk_at HO.out).2 k hlt).1
      obtain ⟨hbd1, hbd2⟩ := hbd
      obtain ⟨hbp1, hbp2⟩ := hbp
      have HY := Lib.hid (powS_yes (ts := ts) (s := s) hlt)
      generalize ts[k] = x at hc0 hc1 hc2 hbp1 hbp2 HY
      clear ha
      cases hh : hasB s k with
      | true =>
        have HE := Lib.hid (HY.out hh)
        go_wp2_with (go_at_call 70; refine (l11Has_any _ _ _ HS.out (by omega)).mono ?_; rintro e w' ⟨rfl, rfl⟩)
        go_round
        case rel => exact ⟨k + 1, by omega, by go_num, by rw [HE.out]⟩
        case measure => simp [intOf]; omega
      | false =>
        have HE := Lib.hid (powS_no (ts := ts) hh)
        go_wp2_with (go_at_call 70; refine (l11Has_any _ _ _ HS.out (by omega)).mono ?_; rintro e w' ⟨rfl, rfl⟩)
        go_round
        case rel => exact ⟨k + 1, by omega, by go_num, by rw [HE.out]⟩
        case measure => simp [intOf]; omega
    · obtain rfl : k = ts.length := by omega
      go_wp2
      go_ret
      exact ⟨rfl, rfl⟩

set_option maxHeartbeats 1000000 in
theorem hourCost_any (v : Value) (ts : List Blower) (b s : Int) (w : World) (hv : SlBlower w v ts) (hok : blowersOk ts = true) (hs : 0 ≤ s ∧ s ≤ 15) (hbb : 0 ≤ b ∧ b ≤ 15) :
    Calls Try.prog 68 #[v, .int .i64 b, .int .i64 s] w fun e w' => e = .returned (.int .i64 (stepT ts b s)) ∧ Below w.heap.size w w' := by
  obtain ⟨A, c, rfl, hla, ha⟩ := hv.op
  clear hv
  have hl4 := (blowersOk_at hok).1
  have HS := Lib.hid hs; have HO := Lib.hid hok; have HBB := Lib.hid hbb
  clear hs hok hbb
  go_enter Try.func68, Try.ntmps68
  go_wp2
  go_loopw [7, 12] (fun sm i wr => ∃ k : Nat, k ≤ ts.length ∧ i = .int .i64 k ∧ sm = .int .i64 (stepS ts b s k) ∧ Below w.heap.size w wr) (fun _ i _ => ts.length - (intOf i).toNat)
  case atStart => exact ⟨0, Nat.zero_le _, rfl, rfl, Below.refl _ _⟩
  case round =>
    obtain ⟨k, hk, rfl, rfl, hb⟩ := hrel
    by_cases hlt : k < ts.length
    · obtain ⟨bk, o, rfl, hbs, hc0, hc1, hc2⟩ := ha k hlt
      have hx0 := (hb.cell (p := ⟨bk, o + k * 3, none⟩) hbs).trans hc0
      have hx1 := (hb.cell (p := ⟨bk, o + k * 3 + 1, none⟩) hbs).trans hc1
      have hx2 := (hb.cell (p := ⟨bk, o + k * 3 + 2, none⟩) hbs).trans hc2
      have hlti : (k : Int) < (ts.length : Int) := by omega
      have hbd := stepS_bd HO.out b s k hk
      have hbp := ((blowersOk_at HO.out).2 k hlt).2
      obtain ⟨hbd1, hbd2⟩ := hbd
      obtain ⟨⟨hbp1, hbp2⟩, hbp3, hbp4⟩ := hbp
      have HY := Lib.hid (stepS_on (ts := ts) (b := b) (s := s) hlt)
      have HU := Lib.hid (stepS_up (ts := ts) (b := b) (s := s) hlt)
      have hq : Below w.heap.size w (wr.alloc (.cells #[.int .i64 ts[k].power, .int .i64 ts[k].hour, .int .i64 ts[k].start] 62)) := hb.alloc hb.size _
      have HQ := Lib.hid hq; clear hq
      generalize ts[k] = x at hx0 hx1 hx2 hbp1 hbp2 hbp3 hbp4 HY HU HQ
      clear hc0 hc1 hc2 ha hb
      have hk4 : (k : Int) ≤ 3 := by omega
      cases hh : hasB s k with
      | true =>
        cases hh2 : hasB b k with
        | true =>
          have HE := Lib.hid (HY.out hh hh2)
          go_wp2_with fail
          refine (has_any _ _ _ HS.out (by omega)).mono ?_
          rintro e w' ⟨rfl, rfl⟩
          rw [hh]
          go_wp2_with fail
          refine (has_any _ _ _ HBB.out (by omega)).mono ?_
          rintro e w' ⟨rfl, rfl⟩
          rw [hh2]
          go_wp2
          go_roundw
          case rel => exact ⟨k + 1, by omega, by go_num, by rw [HE.out], HQ.out⟩
          case measure => simp [intOf]; omega
        | false =>
          have HE := Lib.hid (HU.out hh hh2)
          go_wp2_with fail
          refine (has_any _ _ _ HS.out (by omega)).mono ?_
          rintro e w' ⟨rfl, rfl⟩
          rw [hh]
          go_wp2_with fail
          refine (has_any _ _ _ HBB.out (by omega)).mono ?_
          rintro e w' ⟨rfl, rfl⟩
          rw [hh2]
          go_wp2
          go_roundw
          case rel => exact ⟨k + 1, by omega, by go_num, by rw [HE.out], HQ.out⟩
          case measure => simp [intOf]; omega
      | false =>
        have HE := Lib.hid (stepS_no (ts := ts) (b := b) hh)
        go_wp2_with fail
        refine (has_any _ _ _ HS.out (by omega)).mono ?_
        rintro e w' ⟨rfl, rfl⟩
        rw [hh]
        go_wp2
        go_roundw
        case rel => exact ⟨k + 1, by omega, by go_num, by rw [HE.out], HQ.out⟩
        case measure => simp [intOf]; omega
    · obtain rfl : k = ts.length := by omega
      go_wp2
      go_ret
      exact ⟨rfl, hb⟩

set_option maxHeartbeats 1000000 in
theorem l11Step_any (v : Value) (ts : List Blower) (b s : Int) (w : World) (hv : SlBlower w v ts) (hok : blowersOk ts = true) (hs : 0 ≤ s ∧ s ≤ 15) (hbb : 0 ≤ b ∧ b ≤ 15) :
    Calls Try.prog 66 #[v, .int .i64 b, .int .i64 s] w fun e w' => e = .returned (.int .i64 (stepT ts b s)) ∧ w = w' := by
  obtain ⟨A, c, rfl, hla, ha⟩ := hv.op
  clear hv
  have hl4 := (blowersOk_at hok).1
  have HS := Lib.hid hs; have HO := Lib.hid hok; have HBB := Lib.hid hbb
  clear hs hok hbb
  go_enter Try.func66, Try.ntmps66
  go_wp2
  go_loop [7, 8] (fun sm i => ∃ k : Nat, k ≤ ts.length ∧ i = .int .i64 k ∧ sm = .int .i64 (stepS ts b s k)) (fun _ i => ts.length - (intOf i).toNat)
  case atStart => exact ⟨0, Nat.zero_le _, rfl, rfl⟩
  case round =>
    obtain ⟨k, hk, rfl, rfl⟩ := hrel
    by_cases hlt : k < ts.length
    · obtain ⟨bk, o, rfl, hbs, hc0, hc1, hc2⟩ := ha k hlt
      have hlti : (k : Int) < (ts.length : Int) := by omega
      have hbd := stepS_bd HO.out b s k hk
      have hbp := ((blowersOk_at HO.out).2 k hlt).2
      obtain ⟨hbd1, hbd2⟩ := hbd
      obtain ⟨⟨hbp1, hbp2⟩, hbp3, hbp4⟩ := hbp
      have HY := Lib.hid (stepS_on (ts := ts) (b := b) (s := s) hlt)
      have HU := Lib.hid (stepS_up (ts := ts) (b := b) (s := s) hlt)
      generalize ts[k] = x at hc0 hc1 hc2 hbp1 hbp2 hbp3 hbp4 HY HU
      clear ha
      have hk4 : (k : Int) ≤ 3 := by omega
      cases hh : hasB s k with
      | true =>
        cases hh2 : hasB b k with
        | true =>
          have HE := Lib.hid (HY.out hh hh2)
          go_wp2_with fail
          refine (l11Has_any _ _ _ HS.out (by omega)).mono ?_
          rintro e w' ⟨rfl, rfl⟩
          rw [hh]
          go_wp2_with fail
          refine (l11Has_any _ _ _ HBB.out (by omega)).mono ?_
          rintro e w' ⟨rfl, rfl⟩
          rw [hh2]
          go_wp2
          go_round
          case rel => exact ⟨k + 1, by omega, by go_num, by rw [HE.out]⟩
          case measure => simp [intOf]; omega
        | false =>
          have HE := Lib.hid (HU.out hh hh2)
          go_wp2_with fail
          refine (l11Has_any _ _ _ HS.out (by omega)).mono ?_
          rintro e w' ⟨rfl, rfl⟩
          rw [hh]
          go_wp2_with fail
          refine (l11Has_any _ _ _ HBB.out (by omega)).mono ?_
          rintro e w' ⟨rfl, rfl⟩
          rw [hh2]
          go_wp2
          go_round
          case rel => exact ⟨k + 1, by omega, by go_num, by rw [HE.out]⟩
          case measure => simp [intOf]; omega
      | false =>
        have HE := Lib.hid (stepS_no (ts := ts) (b := b) hh)
        go_wp2_with fail
        refine (l11Has_any _ _ _ HS.out (by omega)).mono ?_
        rintro e w' ⟨rfl, rfl⟩
        rw [hh]
        go_wp2
        go_round
        case rel => exact ⟨k + 1, by omega, by go_num, by rw [HE.out]⟩
        case measure => simp [intOf]; omega
    · obtain rfl : k = ts.length := by omega
      go_wp2
      go_ret
      exact ⟨rfl, rfl⟩

end Go.Proofs.Ytjleabgoajoegaa
