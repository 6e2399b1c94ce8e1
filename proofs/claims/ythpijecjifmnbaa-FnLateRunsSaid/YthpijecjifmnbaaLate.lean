/-
What the law of late runs asks: the late run is late throughout, moving sums, the worst station's mean; the law's own helpers by contract. Condition: valid trips.
-/
import Derived.Test.YthpijecjifmnbaaDelC
import Derived.Test.YthpijecjifmnbaaDelF
import Derived.Test.YthpijecjifmnbaaDelJ
namespace Go.Proofs.Ythpijecjifmnbaa
open Go.RowKit
set_option linter.unusedVariables false
set_option linter.unusedSimpArgs false

theorem nowL_all (p : Nat → Bool) : ∀ k i : Nat, (k : Int) - nowL p k ≤ (i : Int) → i < k → p i = true
  | 0, i, _, h => absurd h (by omega)
  | k + 1, i, h1, h2 => by
    cases hp : p k with
    | false => rw [nowL_no hp] at h1; omega
    | true =>
      rw [nowL_yes hp] at h1
      by_cases hi : i = k
      · subst hi; exact hp
      · exact nowL_all p k i (by omega) (by omega)
theorem bestL_all (p : Nat → Bool) : ∀ k : Nat, (bestL p k).1 + (bestL p k).2 ≤ (k : Int) ∧ ∀ i : Nat, (bestL p k).1 ≤ (i : Int) → (i : Int) < (bestL p k).1 + (bestL p k).2 → p i = true
  | 0 => ⟨by simp [bestL], fun i h1 h2 => by simp only [bestL] at h1 h2; omega⟩
  | k + 1 => by
    have ih := bestL_all p k
    by_cases h : p k = true ∧ (bestL p k).2 < nowL p k + 1
    · rw [bestL_up h.1 h.2]
      refine ⟨by dsimp only; omega, fun i h1 h2 => ?_⟩
      dsimp only at h1 h2
      by_cases hi : i = k
      · subst hi; exact h.1
      · exact nowL_all p k i (by omega) (by omega)
    · have : bestL p (k + 1) = bestL p k := by simp only [bestL]; rw [if_neg h]
      rw [this]
      exact ⟨by omega, ih.2⟩
/-- what the longest late run tells -/
theorem longest_tells {ts : List Trip} {n : Int} (h : (longestR ts n).2.2 = 0) : (0 ≤ (longestR ts n).1 ∧ 0 ≤ (longestR ts n).2.1 ∧ (longestR ts n).1 + (longestR ts n).2.1 ≤ (ts.length : Int)) ∧ ts.length ≤ 100 ∧ (∀ (k : Nat) (hk : k < ts.length), Trip.ok ts[k] = true) ∧
    ∀ (i : Nat) (hi : i < ts.length), (longestR ts n).1 ≤ (i : Int) → (i : Int) < (longestR ts n).1 + (longestR ts n).2.1 → n < ts[i].late := by
  unfold longestR at h ⊢
  by_cases h1 : tripsOk ts = true
  · by_cases h2 : inB n 0 10000 = true
    · by_cases h3 : (bestL (lateP ts n) ts.length).2 = 0
      · rw [if_pos h1, if_pos h2, if_pos h3] at h; simp at h
      · rw [if_pos h1, if_pos h2, if_neg h3]
        obtain ⟨q1, q2⟩ := tripsOk_at h1
        have b1 := bestL_bd (lateP ts n) ts.length
        have b2 := bestL_all (lateP ts n) ts.length
        refine ⟨⟨b1.2.2.1, b1.1, b2.1⟩, q1, q2, fun i hi h4 h5 => ?_⟩
        have h6 := b2.2 i h4 h5
        rw [lateP_at hi] at h6
        exact of_decide_eq_true h6
    · rw [if_pos h1, if_neg h2] at h; simp at h
  · rw [if_neg h1] at h; simp at h
/-- what moving sums tell -/
theorem moving_tells (ts : List Trip) (m : Int) : (movingR ts m).1 = [] ∨
    (ts.length ≤ 100 ∧ (∀ (k : Nat) (hk : k < ts.length), Trip.ok ts[k] = true) ∧ ∃ q : Nat, m = (q : Int) ∧ 1 ≤ q ∧ q ≤ 100 ∧ ∀ (i : Nat) (hi : i < (movingR ts m).1.length), i + q ≤ ts.length ∧ (movingR ts m).1[i] = (((lates ts).drop i).take q).sum) := by
  unfold movingR
  by_cases h1 : tripsOk ts = true
  · by_cases h2 : inB m 1 100 = true
    · rw [if_pos h1, if_pos h2]
      obtain ⟨q1, q2⟩ := tripsOk_at h1
      rw [inB_iff] at h2
      refine .inr ⟨q1, q2, m.toNat, by omega, by omega, by omega, fun i hi => ?_⟩
      have hi2 := hi
      rw [movK_len] at hi2
      refine ⟨by unfold movN at hi2; omega, by simp [movK]⟩
    · rw [if_pos h1, if_neg h2]; exact .inl rfl
  · rw [if_neg h1]; exact .inl rfl
theorem accF_pos {ts : List Trip} {h : Nat} : ∀ (n : Nat), (∀ m, 0 ≤ accF (fun _ => 1) ts m h) → ∀ k, k < n → (trA ts k).to = (h : Int) → 1 ≤ accF (fun _ => 1) ts n h
  | 0, _, k, hk, _ => absurd hk (by omega)
  | n + 1, h0, k, hk, ht => by
    have e : accF (fun _ => 1) ts (n + 1) h = accF (fun _ => 1) ts n h + (if (trA ts n).to = (h : Int) then 1 else 0) := rfl
    rw [e]
    by_cases hn : k = n
    · subst hn; rw [if_pos ht]; have := h0 k; omega
    · have := accF_pos n h0 k (by omega) ht
      split <;> omega
theorem accF_nn (ts : List Trip) (h : Nat) : ∀ m, 0 ≤ accF (fun _ => 1) ts m h
  | 0 => Int.le_refl _
  | n + 1 => by
    have ih := accF_nn ts h n
    have e : accF (fun _ => 1) ts (n + 1) h = accF (fun _ => 1) ts n h + (if (trA ts n).to = (h : Int) then 1 else 0) := rfl
    rw [e]
    split <;> omega
theorem cross {a b c d e f : Int} (hb : 0 < b) (hd : 0 ≤ d) (hf : 0 ≤ f) (h1 : e * b ≤ a * f) (h2 : a * d < c * b) : e * d ≤ c * f := by
  -- e/f ≤ a/b < c/d
  have k1 : e * b * d ≤ a * f * d := Int.mul_le_mul_of_nonneg_right h1 hd
  have k2 : a * d * f ≤ c * b * f := Int.mul_le_mul_of_nonneg_right (Int.le_of_lt h2) hf
  have e1 : e * b * d = b * (e * d) := by rw [Int.mul_comm e b, Int.mul_assoc]
  have e2 : a * f * d = a * d * f := by rw [Int.mul_assoc, Int.mul_comm f d, ← Int.mul_assoc]
  have e3 : c * b * f = b * (c * f) := by rw [Int.mul_comm c b, Int.mul_assoc]
  rw [e1, e2] at k1
  rw [e3] at k2
  exact Int.le_of_mul_le_mul_left (Int.le_trans k1 k2) hb
theorem worstK_best (S C : Nat → Int) (hC : ∀ h, 0 ≤ C h) : ∀ n : Nat, (worstK S C n = -1 ∧ ∀ h, h < n → C h = 0) ∨
    ∃ b : Nat, worstK S C n = (b : Int) ∧ b < n ∧ 0 < C b ∧ ∀ h, h < n → 0 < C h → S h * C b ≤ S b * C h
  | 0 => .inl ⟨rfl, fun h hh => absurd hh (by omega)⟩
  | n + 1 => by
    have e : worstK S C (n + 1) = if better S C n (worstK S C n) = true then (n : Int) else worstK S C n := rfl
    rcases worstK_best S C hC n with ⟨h1, h2⟩ | ⟨b, h1, h2, h3, h4⟩
    · rw [e, h1]
      by_cases hc : 0 < C n
      · rw [if_pos (by simp [better, hc])]
        refine .inr ⟨n, rfl, by omega, hc, fun h hh hp => ?_⟩
        by_cases hn : h = n
        · subst hn; exact Int.le_refl _
        · have := h2 h (by omega); omega
      · rw [if_neg (by simp [better, hc])]
        refine .inl ⟨rfl, fun h hh => ?_⟩
        by_cases hn : h = n
        · subst hn; have := hC h; omega
        · exact h2 h (by omega)
    · rw [e, h1]
      have hb0 : ¬ ((b : Int) < 0) := by omega
      by_cases hb : better S C n (b : Int) = true
      · rw [if_pos hb]
        simp only [better, Bool.and_eq_true, Bool.or_eq_true, decide_eq_true_eq, Int.toNat_natCast] at hb
        obtain ⟨hc, hx⟩ := hb
        have hx := hx.resolve_left hb0
        refine .inr ⟨n, rfl, by omega, hc, fun h hh hp => ?_⟩
        by_cases hn : h = n
        · subst hn; exact Int.le_refl _
        · exact cross h3 (Int.le_of_lt hc) (hC h) (h4 h (by omega) hp) hx
      · rw [if_neg hb]
        refine .inr ⟨b, rfl, by omega, h3, fun h hh hp => ?_⟩
        by_cases hn : h = n
        · subst hn
          simp only [better, Bool.and_eq_true, Bool.or_eq_true, decide_eq_true_eq, Int.toNat_natCast] at hb
          exact Int.not_lt.1 fun hq => hb ⟨hp, .inr hq⟩
        · exact h4 h (by omega) hp
/-- what the worst station tells -/
theorem worst_tells {ts : List Trip} (h : (worstR ts).2 = 0) : ts.length ≤ 100 ∧ (∀ (k : Nat) (hk : k < ts.length), Trip.ok ts[k] = true) ∧
    ∃ b : Nat, (worstR ts).1 = (b : Int) ∧ b < 10 ∧ 0 < accF (fun _ => 1) ts ts.length b ∧
      ∀ (i : Nat) (hi : i < ts.length), ∃ q : Nat, ts[i].to = (q : Int) ∧ accF Trip.late ts ts.length q * accF (fun _ => 1) ts ts.length b ≤ accF Trip.late ts ts.length b * accF (fun _ => 1) ts ts.length q := by
  unfold worstR at h ⊢
  by_cases h1 : tripsOk ts = true
  · by_cases h2 : ts.length = 0
    · rw [if_pos h1, if_pos h2] at h; simp at h
    · rw [if_pos h1, if_neg h2]
      obtain ⟨q1, q2⟩ := tripsOk_at h1
      refine ⟨q1, q2, ?_⟩
      have hpos : ∀ (i : Nat) (hi : i < ts.length) (q : Nat), ts[i].to = (q : Int) → 0 < accF (fun _ => 1) ts ts.length q := fun i hi q hq => by
        have := accF_pos ts.length (accF_nn ts q) i hi (by rw [trA_at hi]; exact hq)
        omega
      rcases worstK_best (accF Trip.late ts ts.length) (accF (fun _ => 1) ts ts.length) (fun h => accF_nn ts h _) 10 with ⟨_, h4⟩ | ⟨b, h3, h4, h5, h6⟩
      · obtain ⟨q, hq1, hq2⟩ := to_bd h1 (show 0 < ts.length by omega)
        have := hpos 0 (by omega) q hq2
        have := h4 q hq1
        omega
      · refine ⟨b, h3, h4, h5, fun i hi => ?_⟩
        obtain ⟨q, hq1, hq2⟩ := to_bd h1 hi
        exact ⟨q, hq2, h6 q hq1 (hpos i hi q hq2)⟩
  · rw [if_neg h1] at h; simp at h

theorem f6late_any (x y z : Int) (w : World) (h : Trip.ok ⟨x, y, z⟩ = true) : Calls Try.prog 45 #[.agg #[.int .i64 x, .int .i64 y, .int .i64 z]] w fun e w' => e = .returned (.int .i64 (Trip.late ⟨x, y, z⟩)) ∧ Below w.heap.size w w' := by
  obtain ⟨_, hy, hz⟩ := Trip.okd h
  clear h
  go_enter Try.func45, Try.ntmps45
  go_wp2
  all_goals go_ret
  all_goals exact ⟨ret_int (by simp only [Trip.late]; omega), below_alloc _ _⟩

theorem f6mean_any (v : Value) (ts : List Trip) (h : Nat) (w : World) (hv : SlTrip w v ts) (hok : ∀ (k : Nat) (hk : k < ts.length), Trip.ok ts[k] = true) (hl : ts.length ≤ 100) :
    Calls Try.prog 46 #[v, .int .i64 h] w fun e w' => e = .returned (.tuple #[.int .i64 (accF Trip.late ts ts.length h), .int .i64 (accF (fun _ => 1) ts ts.length h)]) ∧ Below w.heap.size w w' := by
  obtain ⟨A, c, rfl, hla, ha⟩ := hv.op
  have HA := Lib.hid ha; have HO := Lib.hid hok
  have HLB : Hid (∀ n, n ≤ ts.length → 0 ≤ accF Trip.late ts n h ∧ accF Trip.late ts n h ≤ 10000 * (n : Int)) := Lib.hid fun n hn => accF_bd (by omega) (fun k hk => by rw [trA_at hk]; exact Trip.late_bd (hok k hk)) h n hn
  have HCB : Hid (∀ n, n ≤ ts.length → 0 ≤ accF (fun _ => 1) ts n h ∧ accF (fun _ => 1) ts n h ≤ 1 * (n : Int)) := Lib.hid fun n hn => accF_bd (by omega) (fun k hk => by omega) h n hn
  clear hv ha hok
  go_enter Try.func46, Try.ntmps46
  go_wp2
  go_loopw [6, 7, 8] (fun s m i wr => ∃ k : Nat, k ≤ ts.length ∧ i = .int .i64 k ∧ s = .int .i64 (accF Trip.late ts k h) ∧ m = .int .i64 (accF (fun _ => 1) ts k h) ∧ Below w.heap.size w wr) (fun _ _ i _ => ts.length - (intOf i).toNat)
  case atStart => exact ⟨0, Nat.zero_le _, rfl, rfl, rfl, Below.refl _ _⟩
  case round =>
    obtain ⟨k, hk, rfl, rfl, rfl, hb⟩ := hrel
    by_cases hlt : k < ts.length
    · obtain ⟨b, o, rfl, hbs, hc0, hc1, hc2⟩ := HA.out k hlt
      have hx0 := (hb.cell (p := ⟨b, o + k * 3, none⟩) hbs).trans hc0
      have hx1 := (hb.cell (p := ⟨b, o + k * 3 + 1, none⟩) hbs).trans hc1
      have hx2 := (hb.cell (p := ⟨b, o + k * 3 + 2, none⟩) hbs).trans hc2
      have hlti : (k : Int) < (ts.length : Int) := by omega
      have HC := Lib.hid (fun W => f6late_any ts[k].to ts[k].due ts[k].came W (HO.out k hlt))
      have hk' : Trip.late ⟨ts[k].to, ts[k].due, ts[k].came⟩ = ts[k].late := rfl
      rw [hk'] at HC
      have HT1 : Hid (accF Trip.late ts (k + 1) h = accF Trip.late ts k h + (if ts[k].to = (h : Int) then ts[k].late else 0)) := Lib.hid (by show accF Trip.late ts k h + _ = _; rw [trA_at hlt])
      have HT2 : Hid (accF (fun _ => 1) ts (k + 1) h = accF (fun _ => 1) ts k h + (if ts[k].to = (h : Int) then 1 else 0)) := Lib.hid (by show accF (fun _ => 1) ts k h + _ = _; rw [trA_at hlt])
      obtain ⟨a1, a2⟩ := HLB.out k hk
      obtain ⟨b1, b2⟩ := HCB.out k hk
      obtain ⟨d1, d2⟩ := Trip.late_bd (HO.out k hlt)
      have HB := Lib.hid hb
      generalize ts[k].late = x at HC HT1 d1 d2
      generalize ts[k].to = x0 at HC HT1 HT2 hx0
      generalize ts[k].due = x1 at HC hx1
      generalize ts[k].came = x2 at HC hx2
      generalize accF Trip.late ts k h = s at HT1 a1 a2 ⊢
      generalize accF (fun _ => 1) ts k h = q at HT2 b1 b2 ⊢
      clear hc0 hc1 hc2 hk' hb
      by_cases hx : x0 = (h : Int)
      · rw [if_pos hx] at HT1 HT2
        have hxb : (x0 == (h : Int)) = true := by simpa using hx
        clear hx
        go_wp2_with (go_at_call 45; refine (HC.out _).mono ?_; rintro e w2 ⟨rfl, hb2⟩)
        go_roundw
        case rel => exact ⟨k + 1, by omega, by go_num, by rw [HT1.out], by rw [HT2.out], below_next0 HB.out hb2⟩
        case measure => simp [intOf]; omega
      · rw [if_neg hx] at HT1 HT2
        have hxb : (x0 == (h : Int)) = false := by simpa using hx
        clear hx
        go_wp2
        go_roundw
        case rel => exact ⟨k + 1, by omega, by go_num, by rw [HT1.out]; simp, by rw [HT2.out]; simp, HB.out⟩
        case measure => simp [intOf]; omega
    · have hkn : k = ts.length := by omega
      subst hkn
      go_wp2
      go_ret2
      exact ⟨rfl, hb⟩

theorem f6ints_any (v u : Value) (xs : List Int) (w : World) (hv : SlI w v xs) (hu : SlI w u xs) :
    Calls Try.prog 44 #[v, u] w fun e w' => e = .returned (.bool true) ∧ Below w.heap.size w w' := by
  obtain ⟨A, c, rfl, hla, ha⟩ := hv.op
  obtain ⟨B, d, rfl, hlb, hb⟩ := hu.op
  have HA := Lib.hid ha; have HBB := Lib.hid hb
  clear hv ha hu hb
  go_enter Try.func44, Try.ntmps44
  go_wp2
  go_loopw [5] (fun i wr => ∃ k : Nat, k ≤ xs.length ∧ i = .int .i64 k ∧ Below w.heap.size w wr) (fun i _ => xs.length - (intOf i).toNat)
  case atStart => exact ⟨0, Nat.zero_le _, rfl, Below.refl _ _⟩
  case round =>
    obtain ⟨k, hk, rfl, hb⟩ := hrel
    by_cases hlt : k < xs.length
    · obtain ⟨b1, o1, rfl, hbs, hcc⟩ := HA.out k hlt
      obtain ⟨b2, o2, rfl, hbs2, hcc2⟩ := HBB.out k hlt
      have hx := (hb.cell (p := ⟨b1, o1 + k, none⟩) hbs).trans (hcc k hlt)
      have hy := (hb.cell (p := ⟨b2, o2 + k, none⟩) hbs2).trans (hcc2 k hlt)
      have hlti : (k : Int) < (xs.length : Int) := by omega
      have HB := Lib.hid hb
      generalize xs[k] = x at hx hy
      clear hcc hcc2 hb
      go_wp2
      go_region
      go_wp2
      go_roundw
      case rel => exact ⟨k + 1, by omega, by go_num, below_drewN HB.out _⟩
      case measure => simp [intOf]; omega
    · have hkn : k = xs.length := by omega
      subst hkn
      go_wp2
      go_ret
      exact ⟨rfl, hb⟩
theorem f6big_any (n : Nat) (A : Option Addr) (c : Nat) (w : World) (hl : n ≤ 140737488355328) : Calls Try.prog 41 #[.slice A n c] w fun e w' => e = .returned (.bool (decide (4096 < n))) ∧ w = w' := by
  go_enter Try.func41, Try.ntmps41
  go_wp2
  go_ret
  exact ⟨ret_bool (by rw [Bool.eq_iff_iff]; simp; omega), rfl⟩
end Go.Proofs.Ythpijecjifmnbaa
