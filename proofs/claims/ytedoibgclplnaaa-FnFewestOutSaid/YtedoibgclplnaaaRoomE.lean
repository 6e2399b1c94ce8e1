/-
CanGo of the reference; IsStuck of both. Condition: the slices read as lists.
-/
import Derived.Test.YtedoibgclplnaaaRoomD
namespace Go.Proofs.Ytedoibgclplnaaa
open Go.RowKit
set_option linter.unusedVariables false

set_option maxHeartbeats 1000000 in
theorem specCan_any (v u : Value) (rooms : List Int) (ts : List Guest) (w : World) (hv : SlI w v rooms ∧ rooms.length ≤ 1048576) (hu : SlGuest w u ts ∧ ts.length ≤ 1048576) :
    Calls Try.prog 20 #[v, u] w fun e w' => ∃ A c, e = .returned (.tuple #[.slice A (canR rooms ts).1.length c, .int .i64 (canR rooms ts).2]) ∧ OwI w' w.heap.size (.slice A (canR rooms ts).1.length c) (canR rooms ts).1 ∧ Below w.heap.size w w' := by
  obtain ⟨hv, hl⟩ := hv
  obtain ⟨hu, hts⟩ := hu
  have HV := Lib.hid hv; have HU := Lib.hid hu
  obtain ⟨B, d, rfl, hlb, _⟩ := hu.op
  clear hv hu
  have HNIL := Lib.hid (fun w' : World => owI_nilR w' w.heap.size)
  go_enter Try.func20, Try.ntmps20
  go_wp2_with fail
  refine (l10Ok_any _ _ rooms ts _ HV.out HU.out hl hts).mono ?_
  rintro e w1 ⟨rfl, hb1⟩
  cases hok : roomsOk rooms ts with
  | false =>
    have E : Hid (canR rooms ts = ([], 1)) := Lib.hid (by unfold canR; rw [hok]; rfl)
    go_wp2
    go_ret2
    exact ⟨none, 0, by rw [E.out]; rfl, by rw [E.out]; exact HNIL.out _, hb1⟩
  | true =>
    have E : Hid (canR rooms ts = (canK rooms ts ts.length, 0)) := Lib.hid (by unfold canR; rw [hok]; rfl)
    have HOK := Lib.hid hok
    obtain ⟨-, -, h4, -, -⟩ := roomsOk_at hok
    have HB1 := Lib.hid hb1
    have HEM := Lib.hid (owI_empty w1 w.heap.size hb1.size)
    have HBA := Lib.hid (hb1.alloc hb1.size (.cells #[] 2))
    clear hok hb1
    go_wp2
    go_loopw [6, 7] (fun out i wr => ∃ (k : Nat) (A2 : Option Addr) (n c2 : Nat), k ≤ ts.length ∧ i = .int .i64 k ∧ out = .slice A2 n c2 ∧ Hid ((canK rooms ts k).length = n) ∧ OwI wr w.heap.size (.slice A2 n c2) (canK rooms ts k) ∧ Below w.heap.size w wr) (fun _ i _ => ts.length - (intOf i).toNat)
    case atStart => exact ⟨0, _, _, _, Nat.zero_le _, rfl, rfl, Lib.hid rfl, HEM.out, HBA.out⟩
    case round =>
      obtain ⟨k, A2, n, c2, hk, rfl, rfl, hn, hown, hb⟩ := hrel
      have hnl := canK_len rooms ts k
      by_cases hlt : k < ts.length
      · have hlti : (k : Int) < (ts.length : Int) := by omega
        have HC := Lib.hid (fun W (hW : Below w.heap.size w W) => l10Can_any _ _ rooms ts k W (HV.out.ex hW) (HU.out.ex hW) HOK.out hlt)
        have HY := Lib.hid (canK_yes (rooms := rooms) hlt); have HNO := Lib.hid (canK_no (rooms := rooms) hlt)
        have HOW := Lib.hid hown; have HB := Lib.hid hb
        have hn8 : n ≤ 8 := by have := hn.out; omega
        generalize canP rooms ts ts[k] = p at HC HY HNO
        clear hown hb hnl
        cases p with
        | true =>
          have HE := Lib.hid (HY.out rfl)
          go_wp2_with fail
          refine (HC.out _ HB.out).mono ?_
          rintro e w2 ⟨rfl, hb2⟩
          have HB2 := Lib.hid (below_next0 HB.out hb2)
          have HOW2 := Lib.hid (HOW.out.ex hb2)
          clear hb2
          go_wp2_with (first | (at_builtin; refine wpList_appI w2 rfl (.tmp 23) (.tmp 25) rfl w.heap.size w.heap.size w A2 n c2 _ _ _ _ rfl HOW2.out hn.out rfl HB2.out (Nat.le_refl _) HB2.out.size (by omega) ?_; intro A3 c3 w3 hown3 hg3 hsz3 hb3) | fail)
          rw [← HE.out] at hown3
          have HO3 := Lib.hid hown3; have HB3 := Lib.hid hb3
          clear hown3 hb3 hg3 hsz3
          go_wp2
          go_roundw
          case rel => exact ⟨k + 1, A3, n + 1, c3, by omega, by go_num, rfl, Lib.hid (by rw [HE.out, List.length_append, hn.out]; rfl), HO3.out, HB3.out⟩
          case measure => simp [intOf]; omega
        | false =>
          have HE := Lib.hid (HNO.out rfl)
          go_wp2_with fail
          refine (HC.out _ HB.out).mono ?_
          rintro e w2 ⟨rfl, hb2⟩
          have HB2 := Lib.hid (below_next0 HB.out hb2)
          have HOW2 := Lib.hid (HOW.out.ex hb2)
          clear hb2
          go_wp2
          go_roundw
          case rel => exact ⟨k + 1, A2, n, c2, by omega, by go_num, rfl, Lib.hid (by rw [HE.out, hn.out]), by rw [HE.out]; exact HOW2.out, HB2.out⟩
          case measure => simp [intOf]; omega
      · have hkn : k = ts.length := by omega
        subst hkn
        have HO2 := Lib.hid hown; clear hown
        go_wp2
        go_ret2
        exact ⟨A2, c2, by rw [E.out]; simp only [hn.out]; rfl, by rw [E.out]; simp only [hn.out]; exact HO2.out, hb⟩

def cntL (ts : List Guest) (k : Nat) : Int := ((ts.take k).countP (fun g => !restB g) : Nat)
theorem cntL_succ {ts : List Guest} {k : Nat} (hk : k < ts.length) : cntL ts (k + 1) = cntL ts k + (if restB ts[k] = true then 0 else 1) := by
  unfold cntL; rw [List.take_succ_eq_append_getElem hk, List.countP_append]
  cases h : restB ts[k] <;> simp [h]
theorem cntL_bd (ts : List Guest) (k : Nat) (hk : k ≤ ts.length) : 0 ≤ cntL ts k ∧ cntL ts k ≤ (k : Int) := by
  unfold cntL
  have := List.countP_le_length (p := fun g => !restB g) (l := ts.take k)
  rw [List.length_take] at this
  omega
theorem cntL_any (ts : List Guest) : decide (0 < cntL ts ts.length) = ts.any (fun g => !restB g) := by
  unfold cntL
  rw [List.take_of_length_le (Nat.le_refl _), Bool.eq_iff_iff, decide_eq_true_iff, List.any_eq_true]
  rw [show ((0 : Int) < ((ts.countP fun g => !restB g : Nat) : Int)) ↔ 0 < ts.countP (fun g => !restB g) from by omega, List.countP_pos_iff]
def stuckR (rooms : List Int) (ts : List Guest) : Bool × Int := if roomsOk rooms ts = true then (decide ((canK rooms ts ts.length).length = 0) && ts.any (fun g => !restB g), 0) else (false, 1)

theorem l10Left_any (u : Value) (ts : List Guest) (w : World) (hu : SlGuest w u ts) (hl : ts.length ≤ 8) :
    Calls Try.prog 59 #[u] w fun e w' => e = .returned (.int .i64 (cntL ts ts.length)) ∧ Below w.heap.size w w' := by
  obtain ⟨A, c, rfl, hla, ha⟩ := hu.op
  have HA := Lib.hid ha
  clear hu ha
  go_enter Try.func59, Try.ntmps59
  go_wp2
  go_loopw [3, 4] (fun n i wr => ∃ k : Nat, k ≤ ts.length ∧ i = .int .i64 k ∧ n = .int .i64 (cntL ts k) ∧ Below w.heap.size w wr) (fun _ i _ => ts.length - (intOf i).toNat)
  case atStart => exact ⟨0, Nat.zero_le _, rfl, rfl, Below.refl _ _⟩
  case round =>
    obtain ⟨k, hk, rfl, rfl, hb⟩ := hrel
    obtain ⟨hn1, hn2⟩ := cntL_bd ts k hk
    by_cases hlt : k < ts.length
    · obtain ⟨b, o, rfl, hbs, hc0, hc1⟩ := HA.out k hlt
      have hx0 := (hb.cell (p := ⟨b, o + k * 2, none⟩) hbs).trans hc0
      have hx1 := (hb.cell (p := ⟨b, o + k * 2 + 1, none⟩) hbs).trans hc1
      have hlti : (k : Int) < (ts.length : Int) := by omega
      have HT := Lib.hid (cntL_succ hlt)
      have HB := Lib.hid hb
      generalize ts[k] = x at hx0 hx1 HT
      obtain ⟨x0, x1⟩ := x
      dsimp only at hx0 hx1
      generalize cntL ts k = n at HT hn1 hn2 ⊢
      clear hc0 hc1 hb
      by_cases hx : x0 = x1
      · have hxb : (x0 != x1) = false := by simpa using hx
        have HE : Hid (cntL ts (k + 1) = n) := Lib.hid (by rw [HT.out]; simp [restB, hx])
        clear hx
        go_wp2
        go_quiet (fail)
        go_wp2
        go_roundw
        case rel => exact ⟨k + 1, by omega, by go_num, by rw [HE.out], below_drewN HB.out nq⟩
        case measure => simp [intOf]; omega
      · have hxb : (x0 != x1) = true := by simpa using hx
        have HE : Hid (cntL ts (k + 1) = n + 1) := Lib.hid (by rw [HT.out]; simp [restB, hx])
        clear hx
        go_wp2
        go_quiet (fail)
        go_wp2
        go_roundw
        case rel => exact ⟨k + 1, by omega, by go_num, by rw [HE.out], below_drewN HB.out nq⟩
        case measure => simp [intOf]; omega
    · have hkn : k = ts.length := by omega
      subst hkn
      go_wp2
      go_ret
      exact ⟨rfl, hb⟩

theorem specStuck_any (v u : Value) (rooms : List Int) (ts : List Guest) (w : World) (hv : SlI w v rooms ∧ rooms.length ≤ 1048576) (hu : SlGuest w u ts ∧ ts.length ≤ 1048576) :
    Calls Try.prog 32 #[v, u] w fun e w' => e = .returned (.tuple #[.bool (stuckR rooms ts).1, .int .i64 (stuckR rooms ts).2]) ∧ Below w.heap.size w w' := by
  have HC := Lib.hid (specCan_any v u rooms ts w hv hu)
  obtain ⟨hu, hts⟩ := hu
  have HU := Lib.hid hu
  clear hv hu
  have HR : Hid (canR rooms ts = if roomsOk rooms ts = true then (canK rooms ts ts.length, 0) else ([], 1)) := Lib.hid rfl
  have HS : Hid (stuckR rooms ts = if roomsOk rooms ts = true then (decide ((canK rooms ts ts.length).length = 0) && ts.any (fun g => !restB g), 0) else (false, 1)) := Lib.hid rfl
  rw [← cntL_any] at HS
  go_enter Try.func32, Try.ntmps32
  go_wp2_with fail
  refine HC.out.mono ?_
  rintro e w1 ⟨A, c, rfl, -, hb1⟩
  rw [HR.out]
  have HB1 := Lib.hid hb1
  cases hok : roomsOk rooms ts with
  | false =>
    rw [hok] at HS
    simp only [Bool.false_eq_true, if_false, List.length_nil]
    go_wp2
    go_ret2
    exact ⟨by rw [HS.out]; rfl, hb1⟩
  | true =>
    rw [hok] at HS
    obtain ⟨-, -, h4, -, -⟩ := roomsOk_at hok
    simp only [if_true]
    clear hb1 hok HR HC
    generalize (canK rooms ts ts.length).length = n at HS ⊢
    by_cases hz : n = 0
    · have hz' : ((n : Int) == 0) = true := by simp [hz]
      have HS2 : Hid (stuckR rooms ts = (decide (0 < cntL ts ts.length), 0)) := Lib.hid (by rw [HS.out]; simp [hz])
      clear hz
      go_wp2_with fail
      refine (l10Left_any _ ts _ (HU.out.ex HB1.out) h4).mono ?_
      rintro e w2 ⟨rfl, hb2⟩
      go_wp2
      go_ret2
      exact ⟨by rw [HS2.out]; rfl, below_next0 HB1.out hb2⟩
    · have hz' : ((n : Int) == 0) = false := by simpa using hz
      have HS2 : Hid (stuckR rooms ts = (false, 0)) := Lib.hid (by rw [HS.out]; simp [hz])
      clear hz
      go_wp2
      go_ret2
      exact ⟨by rw [HS2.out]; rfl, HB1.out⟩

theorem stuckC_any (x y : Int) (w : World) : Calls Try.prog 61 #[.agg #[.int .i64 x, .int .i64 y]] w fun e w' => e = .returned (.bool (!restB ⟨x, y⟩)) ∧ Below w.heap.size w w' := by
  go_enter Try.func61, Try.ntmps61
  go_wp2_with fail
  refine (rests_any _ _ _).mono ?_
  rintro e w1 ⟨rfl, hb1⟩
  go_wp2
  go_ret
  exact ⟨rfl, below_next0 (below_alloc _ _) hb1⟩

theorem implStuck_any (v u : Value) (rooms : List Int) (ts : List Guest) (w : World) (hv : SlI w v rooms) (hu : SlGuest w u ts) :
    Calls Try.prog 33 #[v, u] w fun e w' => e = .returned (.tuple #[.bool (stuckR rooms ts).1, .int .i64 (stuckR rooms ts).2]) ∧ Below w.heap.size w w' := by
  have HC := Lib.hid (implCan_any v u rooms ts w hv hu)
  have HU := Lib.hid hu
  clear hv hu
  have HR : Hid (canR rooms ts = if roomsOk rooms ts = true then (canK rooms ts ts.length, 0) else ([], 1)) := Lib.hid rfl
  have HS : Hid (stuckR rooms ts = if roomsOk rooms ts = true then (decide ((canK rooms ts ts.length).length = 0) && ts.any (fun g => !restB g), 0) else (false, 1)) := Lib.hid rfl
  have EA : Hid (anyN (fun k => match ts[k]? with | some t => !restB t | none => false) ts.length = ts.any (fun g => !restB g)) := Lib.hid (anyN_list ts (fun g => !restB g) _ (fun k hk => by simp [hk]))
  go_enter Try.func33, Try.ntmps33
  go_wp2_with fail
  refine HC.out.mono ?_
  rintro e w1 ⟨A, c, rfl, -, hb1⟩
  rw [HR.out]
  have HB1 := Lib.hid hb1
  cases hok : roomsOk rooms ts with
  | false =>
    rw [hok] at HS
    simp only [Bool.false_eq_true, if_false, List.length_nil]
    go_wp2
    go_ret2
    exact ⟨by rw [HS.out]; rfl, hb1⟩
  | true =>
    rw [hok] at HS
    simp only [if_true]
    clear hb1 hok HR HC
    generalize (canK rooms ts ts.length).length = n at HS ⊢
    by_cases hz : n = 0
    · have hz' : ((n : Int) == 0) = true := by simp [hz]
      have HS2 : Hid (stuckR rooms ts = (ts.any (fun g => !restB g), 0)) := Lib.hid (by rw [HS.out]; simp [hz])
      clear hz
      go_wp2_with fail
      refine (conGuest_any 61 #[] (enters_of Try.func61 (by kernel_rfl) rfl) (fun k => match ts[k]? with | some t => !restB t | none => false) _ ts _ (HU.out.ex HB1.out) ?_).mono ?_
      · intro k hk W hW
        have hx : (match ts[k]? with | some t => !restB t | none => false) = !restB ts[k] := by simp [hk]
        rw [hx]
        exact stuckC_any _ _ W
      · rintro e w2 ⟨rfl, hb2⟩
        rw [EA.out]
        go_wp2
        go_ret2
        exact ⟨by rw [HS2.out]; rfl, below_next0 HB1.out hb2⟩
    · have hz' : ((n : Int) == 0) = false := by simpa using hz
      have HS2 : Hid (stuckR rooms ts = (false, 0)) := Lib.hid (by rw [HS.out]; simp [hz])
      clear hz
      go_wp2
      go_ret2
      exact ⟨by rw [HS2.out]; rfl, HB1.out⟩
end Go.Proofs.Ytedoibgclplnaaa
