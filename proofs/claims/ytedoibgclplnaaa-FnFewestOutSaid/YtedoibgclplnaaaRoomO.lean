/-
firstOrder of the program; GoOrder of both. Condition: the slices read as lists.
-/
import Derived.Test.YtedoibgclplnaaaRoomN
import Derived.Test.YtedoibgclplnaaaConcat
namespace Go.Proofs.Ytedoibgclplnaaa
open Go.RowKit
set_option linter.unusedVariables false

theorem bitsI0 : ∀ s : Nat, s < 256 → ∀ k : Nat, k < 8 → (bits .and .i64 ((s : Int) / 2 ^ k) 1 == 0) = !Nat.testBit s k := by decide +kernel
theorem bitsAN : ∀ s : Nat, s < 256 → ∀ k : Nat, k < 8 → bits .andNot .i64 (s : Int) (2 ^ k) = ((s &&& (255 ^^^ 2 ^ k) : Nat) : Int) := by decide +kernel
theorem xor_zero {a b : Nat} : a ^^^ b = 0 ↔ a = b := by
  constructor
  · intro h
    apply Nat.eq_of_testBit_eq
    intro i
    have h2 := Nat.testBit_xor a b i
    rw [h, Nat.zero_testBit] at h2
    cases ha : a.testBit i <;> cases hb : b.testBit i <;> simp [ha, hb] at h2 ⊢
  · rintro rfl; exact Nat.xor_self a
theorem xor_off {M S k : Nat} (hM : M < 256) (hS : S < 256) (hk : k < 8) (h1 : S.testBit k = false) : M ^^^ (S ||| 2 ^ k) = ((M ^^^ S) &&& (255 ^^^ 2 ^ k)) ∨ M.testBit k = false := by
  cases hm : M.testBit k with
  | false => exact .inr rfl
  | true =>
    refine .inl ?_
    apply Nat.eq_of_testBit_eq
    intro i
    have e255 : (255 : Nat).testBit i = decide (i < 8) := Nat.testBit_two_pow_sub_one 8 i
    rw [Nat.testBit_xor, testBit_or_pow, Nat.testBit_and, Nat.testBit_xor, Nat.testBit_xor, e255, Nat.testBit_two_pow]
    by_cases hi : i < 8
    · by_cases e : k = i
      · subst e; simp [h1, hm, hi]
      · simp [hi, e]
    · have h2 : M.testBit i = false := Nat.testBit_lt_two_pow (Nat.lt_of_lt_of_le (show M < 2 ^ 8 from hM) (Nat.pow_le_pow_right (by omega) (by omega)))
      have h3 : S.testBit i = false := Nat.testBit_lt_two_pow (Nat.lt_of_lt_of_le (show S < 2 ^ 8 from hS) (Nat.pow_le_pow_right (by omega) (by omega)))
      have e : k ≠ i := by omega
      simp [h2, h3, hi, e]
theorem canS_mov {rooms : List Int} {ts : List Guest} {S k : Nat} (h : canS rooms ts S k = true) : (movL ts ts.length).testBit k = true := by
  have hk := canS_lt h
  have hb := canS_bit h
  rw [canS_at (by rw [gn_len]; exact hk), gn_at hk, hb] at h
  rw [mov_bit (Nat.le_refl _)]
  simp [canP] at h
  simp [hk, h.1]

set_option maxRecDepth 100000 in
set_option maxHeartbeats 2000000 in
theorem firstOrder_any (v : Value) (rooms : List Int) (ts : List Guest) (A : Option Addr) (c2 : Nat) (w0 : World) (hv : SlI w0 v rooms) (hu : SlGuest w0 (.slice A ts.length c2) ts) (hok : roomsOk rooms ts = true) : ∀ (m S : Nat), Rch ts.length (canS rooms ts) 0 S → 256 ≤ m + S →
    ∀ (w : World), Below w0.heap.size w0 w →
    Calls Try.prog 74 #[v, .slice A ts.length c2, .int .i64 (S : Int), .int .i64 ((movL ts ts.length ^^^ S : Nat) : Int)] w fun e w' => ∃ (A' : Option Addr) (n' c' : Nat), e = .returned (.tuple #[.slice A' n' c', .bool (ordV (fosS rooms ts S)).2]) ∧
      (ordV (fosS rooms ts S)).1.length = n' ∧ OwI w' w.heap.size (.slice A' n' c') (ordV (fosS rooms ts S)).1 ∧ Below w.heap.size w w'
  | 0, S, hr, hm, _, _ => by
    have h1 := hr.lt (Nat.two_pow_pos _)
    obtain ⟨-, -, h4, -, -⟩ := roomsOk_at hok
    have := pow_le8 h4
    omega
  | m + 1, S, hr, hm, w, hb0 => by
    obtain ⟨-, -, h4, -, -⟩ := roomsOk_at hok
    have hSn := hr.lt (Nat.two_pow_pos _)
    have hS : S < 256 := Nat.lt_of_lt_of_le hSn (pow_le8 h4)
    have hM : movL ts ts.length < 256 := Nat.lt_of_lt_of_le (mov_lt h4 (Nat.le_refl _)) (pow_le8 h4)
    have IH := Lib.hid (firstOrder_any v rooms ts A c2 w0 hv hu hok m)
    have HV := Lib.hid hv; have HU := Lib.hid hu
    have HR := Lib.hid hr; have HB0 := Lib.hid hb0
    have HGOK := Lib.hid (gn_ok hok hr)
    have HGL := Lib.hid (gn_len ts S)
    have HBIT : Hid (∀ S k, canS rooms ts S k = true → S.testBit k = false) := Lib.hid fun S k h => canS_bit h
    have HLB : Hid (∀ k, (movL ts ts.length ^^^ S).testBit k = ((movL ts ts.length).testBit k ^^ S.testBit k)) := Lib.hid fun k => Nat.testBit_xor ..
    have HSUB := Lib.hid (rch_sub hr)
    have hL : movL ts ts.length ^^^ S < 256 := Nat.xor_lt_two_pow (n := 8) hM hS
    have HL0 : Hid (movL ts ts.length ^^^ S = 0 ↔ dnS ts S = true) := Lib.hid (by
      rw [dn_eq hr]
      constructor
      · intro h; exact (xor_zero.1 h).symm
      · intro h; exact xor_zero.2 h.symm)
    have HOFF : Hid (∀ k, k < 8 → S.testBit k = false → (movL ts ts.length).testBit k = true → movL ts ts.length ^^^ (S ||| 2 ^ k) = ((movL ts ts.length ^^^ S) &&& (255 ^^^ 2 ^ k))) := Lib.hid fun k hk h1 h2 => by
      rcases xor_off hM hS hk h1 with h | h
      · exact h
      · rw [h] at h2; cases h2
    have HMV : Hid (∀ k, canS rooms ts S k = true → (movL ts ts.length).testBit k = true) := Lib.hid fun k h => canS_mov h
    have HNIL := Lib.hid (fun w' : World => owI_nilR w' w.heap.size)
    have hla : ts.length ≤ 17592186044416 := by omega
    generalize hLL : movL ts ts.length ^^^ S = L at HLB hL HL0 HOFF ⊢
    clear hLL hv hok hr hu hb0
    by_cases hz : L = 0
    · have HD : Hid (fosS rooms ts S = some []) := Lib.hid (fos_done (HL0.out.1 hz))
      subst hz
      have HEM := Lib.hid (owI_empty w w.heap.size (Nat.le_refl _))
      go_enter Try.func74, Try.ntmps74
      go_wp2
      go_ret2
      exact ⟨_, 0, 0, by rw [HD.out]; rfl, by rw [HD.out]; rfl, by rw [HD.out]; exact HEM.out, below_alloc _ _⟩
    · have hLb : ((L : Int) == 0) = false := by simp; exact hz
      have HD : Hid (dnS ts S = false) := Lib.hid (by
        cases hd : dnS ts S with
        | false => rfl
        | true => exact absurd (HL0.out.2 hd) hz)
      have HF : Hid (fosS rooms ts S = fokS rooms ts S 0) := Lib.hid (fos_go HBIT.out hSn HD.out)
      have HGONE := Lib.hid (gone_any _ ts S w (HU.out.ex HB0.out) h4 hS)
      clear hz
      go_enter Try.func74, Try.ntmps74
      go_wp2_with fail
      refine HGONE.out.mono ?_
      rintro e w1 ⟨A2, c3, rfl, hown, hb1⟩
      have HNOW : Hid (SlGuest w1 (.slice A2 ts.length c3) (gn ts S)) := Lib.hid (by have := hown.sl; unfold SlGuest at this; rw [goneK_len] at this; unfold SlGuest; rw [gn_len]; exact this)
      have HB1 := Lib.hid hb1
      clear hown hb1
      go_wp2
      go_loopw [11, 12, 13, 23] (fun _ _ _ i wr => ∃ k : Nat, k ≤ ts.length ∧ i = .int .i64 k ∧ Hid (fosS rooms ts S = fokS rooms ts S k) ∧ Hid (SlGuest wr (.slice A2 ts.length c3) (gn ts S)) ∧ Below w.heap.size w wr) (fun _ _ _ i _ => ts.length - (intOf i).toNat)
      case atStart => exact ⟨0, Nat.zero_le _, rfl, HF, HNOW, HB1.out⟩
      case round =>
        obtain ⟨k, hk, rfl, hF, hnow, hb⟩ := hrel
        have HB := Lib.hid hb
        clear hb
        by_cases hlt : k < ts.length
        · have hki : (k : Int) < (ts.length : Int) := by omega
          have hkg : k < (gn ts S).length := by rw [HGL.out]; exact hlt
          have HBR : Hid (Below w0.heap.size w0 wr) := Lib.hid (HB0.out.trans (HB.out.mono HB0.out.size))
          have HBK := Lib.hid (bitsI0 L hL k (by omega))
          have HNO : Hid (canS rooms ts S k = false → fosS rooms ts S = fokS rooms ts S (k + 1)) := Lib.hid fun h => hF.out.trans (fok_no hlt h)
          cases hlb : L.testBit k with
          | false =>
            have hbe : (bits .and .i64 ((L : Int) / 2 ^ k) 1 == 0) = true := by rw [HBK.out, hlb]; rfl
            have HE := Lib.hid (HNO.out (by
              cases hcan : canS rooms ts S k with
              | false => rfl
              | true =>
                have h1 := HBIT.out S k hcan; have h2 := HMV.out k hcan; have h3 := HLB.out k
                rw [hlb, h1, h2] at h3; cases h3))
            clear hlb
            go_wp2
            go_roundw
            case rel => exact ⟨k + 1, by omega, by go_num, HE, hnow, HB.out⟩
            case measure => simp [intOf]; omega
          | true =>
            have hbe : (bits .and .i64 ((L : Int) / 2 ^ k) 1 == 0) = false := by rw [HBK.out, hlb]; rfl
            have HC := Lib.hid (canGo_any _ _ rooms (gn ts S) k wr (HV.out.ex HBR.out) hnow.out HGOK.out hkg)
            rw [← canS_at hkg] at HC
            have HY := Lib.hid (fun (h : canS rooms ts S k = true) => And.intro (HBIT.out S k h) (HR.out.step hlt h))
            have HYM := Lib.hid (fun (h : canS rooms ts S k = true) => HMV.out k h)
            have HNN : Hid (fosS rooms ts (S ||| 2 ^ k) = none → fosS rooms ts S = fokS rooms ts S (k + 1)) := Lib.hid fun h => hF.out.trans (fok_none hlt h)
            have HSO : Hid (canS rooms ts S k = true → ∀ l, fosS rooms ts (S ||| 2 ^ k) = some l → fosS rooms ts S = some ((k : Int) :: l)) := Lib.hid fun h l hl => hF.out.trans (fok_some hlt h hl)
            generalize canS rooms ts S k = p at HC HY HNO HSO HYM
            clear hlb
            go_wp2_with fail
            refine HC.out.mono ?_
            rintro e w2 ⟨rfl, hb2⟩
            have HB2 := Lib.hid (below_next0 HB.out hb2)
            have HNOW2 : Hid (SlGuest w2 (.slice A2 ts.length c3) (gn ts S)) := Lib.hid (hnow.out.ex hb2)
            clear hb2
            cases p with
            | false =>
              have HE := Lib.hid (HNO.out rfl)
              go_wp2
              go_roundw
              case rel => exact ⟨k + 1, by omega, by go_num, HE, HNOW2, HB2.out⟩
              case measure => simp [intOf]; omega
            | true =>
              obtain ⟨hbit, hr2⟩ := HY.out rfl
              have hgt := or_gt hbit
              have HR2 := Lib.hid hr2
              have HOR := Lib.hid (bitsOr S hS k (by omega))
              have HAN := Lib.hid (bitsAN L hL k (by omega))
              have HLX := Lib.hid (HOFF.out k (by omega) hbit (HYM.out rfl))
              rw [← HLX.out] at HAN
              have hSK := Lib.hid (shlI8 k (by omega))
              have HBR2 : Hid (Below w0.heap.size w0 w2) := Lib.hid (HB0.out.trans (HB2.out.mono HB0.out.size))
              have HLEN := Lib.hid (fun l (h : fosS rooms ts (S ||| 2 ^ k) = some l) => fosS_len (2 ^ ts.length) (S ||| 2 ^ k) l (or_lt hSn hlt) (by omega) h)
              have HCALL := Lib.hid (IH.out (S ||| 2 ^ k) HR2.out (by omega) w2 HBR2.out)
              clear hbit hr2
              go_wp2_with fail
              first | rw [hSK.out] | skip
              first | (rw [HOR.out, HAN.out]; refine HCALL.out.mono ?_) | (have h1 := HOR.out; have h2 := HAN.out; push_cast at h1 h2 ⊢; rw [h1, h2]; refine HCALL.out.mono ?_)
              cases hfr : fosS rooms ts (S ||| 2 ^ k) with
              | none =>
                rintro e w4 ⟨A4, n4, c4, rfl, hn4, hown4, hb4⟩
                have HE := Lib.hid (HNN.out hfr)
                have HB4 := Lib.hid (below_next0 HB2.out hb4)
                have HNOW4 : Hid (SlGuest w4 (.slice A2 ts.length c3) (gn ts S)) := Lib.hid (HNOW2.out.ex hb4)
                clear hb4 hown4 hfr
                simp only [ordV] at hn4 ⊢
                clear hn4
                go_wp2
                go_roundw
                case rel => exact ⟨k + 1, by omega, by go_num, HE, HNOW4, HB4.out⟩
                case measure => simp [intOf]; omega
              | some l =>
                rintro e w4 ⟨A4, n4, c4, rfl, hn4, hown4, hb4⟩
                have hl8 := HLEN.out l hfr
                have HE := Lib.hid (HSO.out (by first | rfl | trivial) l hfr)
                have HB4 := Lib.hid (below_next0 HB2.out hb4)
                simp only [ordV] at hn4 hown4 ⊢
                have hn8 : n4 ≤ 8 := by omega
                have hw5 := below_alloc2 w4 (.cells #[.int .i64 (k : Int)] 2) (.cells #[.slice (some ⟨w4.heap.size, 0, none⟩) 1 1, .slice A4 n4 c4] 24)
                have HB5 := Lib.hid (below_next0 HB4.out hw5)
                have HCC := Lib.hid (concatI_any (w4.heap.size + 1) 1 n4 1 c4 (some ⟨w4.heap.size, 0, none⟩) A4 [(k : Int)] l ((w4.alloc (.cells #[.int .i64 (k : Int)] 2)).alloc (.cells #[.slice (some ⟨w4.heap.size, 0, none⟩) 1 1, .slice A4 n4 c4] 24))
                  (by simp [go_sem]) (by simp [go_sem]) ((owI_one (Nat.le_refl _) (k : Int)).sl.ex (below_alloc _ _)) (hown4.sl.ex hw5) rfl hn4 (by omega) (by omega) (by omega))
                have HN4 := Lib.hid hn4
                clear hb4 hown4 hfr hn4 hl8 hw5
                go_wp2_with fail
                refine HCC.out.mono ?_
                rintro e w6 ⟨A6, c6, rfl, hown6, hb6⟩
                have hs6 := HB5.out.size
                have HO6 := Lib.hid (hown6.mono hs6)
                have HB6 := Lib.hid (below_next0 HB5.out hb6)
                clear hown6 hb6 hs6
                go_wp2
                go_ret2
                exact ⟨A6, 1 + n4, c6, by rw [HE.out]; rfl, by rw [HE.out]; simp only [ordV, List.length_cons, HN4.out]; omega, by rw [HE.out]; exact HO6.out, HB6.out⟩
        · have hkn : k = ts.length := by omega
          have HN : Hid (fosS rooms ts S = none) := Lib.hid (by rw [hF.out, hkn]; exact fok_end)
          subst hkn
          go_wp2
          go_ret2
          exact ⟨none, 0, 0, by rw [HN.out]; rfl, by rw [HN.out]; rfl, by rw [HN.out]; exact HNIL.out _, HB.out⟩
end Go.Proofs.Ytedoibgclplnaaa
