/-
The law's draw of rooms and guests, by its contract: valid rooms; whether a number is among some. Condition: the slices read as lists.
-/
import Derived.Test.YtedoibgclplnaaaDrR2
namespace Go.Proofs.Ytedoibgclplnaaa
open Go.RowKit
set_option linter.unusedVariables false
set_option linter.unusedSimpArgs false

theorem roomsOk_dr {rooms : List Int} {ts : List Guest} (h1 : 1 ≤ rooms.length) (h4 : rooms.length ≤ 4) (hr : ∀ x ∈ rooms, 1 ≤ x ∧ x ≤ 2) (ht : ts.length ≤ 6) (hg : GOk rooms ts = true) : roomsOk rooms ts = true := by
  unfold GOk at hg
  rw [Bool.and_eq_true] at hg
  have e1 : inB (lastR rooms) 0 7 = true := inB_iff.2 ⟨by unfold lastR; omega, by unfold lastR; omega⟩
  have e2 : outB rooms 1 4 = false := outB_false.2 fun x hx => by have := hr x hx; omega
  have e3 : decide (ts.length ≤ 8) = true := decide_eq_true (by omega)
  unfold roomsOk
  rw [e1, e2, e3, hg.1, hg.2]; rfl
/-- rooms and guests were drawn -/
def RoomsPost (w : World) (e : Ending) (w' : World) : Prop :=
  ∃ (A B : Option Addr) (c d : Nat) (rooms : List Int) (ts : List Guest), roomsOk rooms ts = true ∧ rooms.length ≤ 4 ∧ ts.length ≤ 6 ∧ e = .returned (.tuple #[.slice A rooms.length c, .slice B ts.length d]) ∧ SlI w' (.slice A rooms.length c) rooms ∧ SlGuest w' (.slice B ts.length d) ts ∧ Below w.heap.size w w'
theorem a2Rooms_any (v : Value) (bs : List Int) (w : World) (hv : SlB w v bs) (hl : bs.length ≤ 1048576) : Calls Try.prog 14 #[v] w (RoomsPost w) := by
  have HV := Lib.hid hv
  clear hv
  go_enter Try.func14, Try.ntmps14
  go_wp2_with fail
  refine (from_any v bs _ HV.out hl).mono ?_
  rintro e w1 ⟨rfl, hs1, hb1⟩
  have HS1 := Lib.hid hs1; have HB1 := Lib.hid hb1
  have hgl : w.heap.size < w1.heap.size := Nat.lt_of_lt_of_le hs1.gh hs1.hw
  clear hs1 hb1
  go_wp2_with fail
  refine (drawRooms_any _ _ _ _ HS1.out (by omega)).mono ?_
  rintro e w2 ⟨A, c, rooms, ⟨h1, h4, hr⟩, rfl, ho2, hs2, hg2⟩
  have HS2 := Lib.hid hs2; have HG2 := Lib.hid hg2; have HO2 := Lib.hid ho2; have HR := Lib.hid hr
  clear hs2 hg2 ho2 hr
  go_wp2_with fail
  refine (drawG_any _ _ _ w1.heap.size rooms.length c A rooms _ HS2.out (by omega) HO2.out rfl hgl HR.out ⟨h1, h4⟩).mono ?_
  rintro e w3 ⟨B, m, d, ts, ⟨hm, hok⟩, rfl, htl, ho3, hs3, hg3⟩
  have HSG : Hid (SlI w3 (.slice A rooms.length c) rooms) := Lib.hid (Ow.sl (Ow.gr1 HO2.out hg3 hgl))
  have HST : Hid (SlGuest w3 (.slice B m d) ts) := Lib.hid (by have := ho3.sl; rw [← htl] at this ⊢; exact this)
  have HB3 : Hid (Below w.heap.size w w3) := Lib.hid (GrS.belowNew (HG2.out.trans hg3) (Nat.le_refl _) HB1.out)
  have HF := Lib.hid hok
  clear ho3 hs3 hg3 hok
  go_wp2
  go_ret2
  subst htl
  exact ⟨A, B, c, d, rooms, ts, roomsOk_dr h1 h4 HR.out hm HF.out, h4, hm, rfl, HSG.out, HST.out, HB3.out⟩

theorem a2Long_any (v u : Value) (bs ms : List Int) (w : World) (hv : SlB w v bs) (hu : SlB w u ms) :
    Calls Try.prog 13 #[v, u] w fun e w' => e = .returned (.bool (decide (3000 < bs.length) || decide (3000 < ms.length))) ∧ w = w' := by
  obtain ⟨A, c, rfl, hl⟩ := hv.op
  obtain ⟨B, d, rfl, hl2⟩ := hu.op
  clear hv hu
  by_cases h : 3000 < bs.length
  · go_enter Try.func13, Try.ntmps13
    go_wp2
    go_ret
    exact ⟨ret_bool (by first | (rw [Bool.eq_iff_iff]; done) | (rw [Bool.eq_iff_iff]; simp; done) | (rw [Bool.eq_iff_iff]; simp; omega)), rfl⟩
  · go_enter Try.func13, Try.ntmps13
    go_wp2
    go_ret
    exact ⟨ret_bool (by first | (rw [Bool.eq_iff_iff]; done) | (rw [Bool.eq_iff_iff]; simp; done) | (rw [Bool.eq_iff_iff]; simp; omega)), rfl⟩
theorem slB_nil (w : World) : SlB w (.slice none 0 0) [] := ⟨⟨none, 0, rfl, by simp, fun h => absurd h (by simp)⟩, by simp⟩

/-- whether a number is among the first k -/
def hasK (xs : List Int) (n : Int) (k : Nat) : Bool := (xs.take k).any (fun x => x == n)
theorem hasK_succ {xs : List Int} {n : Int} {k : Nat} (hk : k < xs.length) : hasK xs n (k + 1) = (hasK xs n k || (xs[k] == n)) := by
  unfold hasK; rw [List.take_succ_eq_append_getElem hk, List.any_append]; simp
theorem a2Has_any (v : Value) (xs : List Int) (n : Int) (w : World) (hv : SlI w v xs) :
    Calls Try.prog 21 #[v, .int .i64 n] w fun e w' => e = .returned (.bool (xs.contains n)) ∧ Below w.heap.size w w' := by
  obtain ⟨A, c, rfl, hla, ha⟩ := hv.op
  have HA := Lib.hid ha
  have HE : Hid (hasK xs n xs.length = xs.contains n) := Lib.hid (by
    unfold hasK; rw [List.take_length, Bool.eq_iff_iff, List.any_eq_true, List.contains_iff_mem]
    constructor
    · rintro ⟨x, hx, he⟩; rw [← (by simpa using he : x = n)]; exact hx
    · intro h; exact ⟨n, h, by simp⟩)
  have HSU := Lib.hid (fun k (hk : k < xs.length) => hasK_succ (n := n) hk)
  have HM := Lib.hid (fun k (hk : k < xs.length) (h : xs[k] = n) => (show xs.contains n = true by rw [List.contains_iff_mem, ← h]; exact List.getElem_mem hk))
  clear hv ha
  go_enter Try.func21, Try.ntmps21
  go_wp2
  go_loopw [5] (fun i wr => ∃ k : Nat, k ≤ xs.length ∧ i = .int .i64 k ∧ Hid (hasK xs n k = false) ∧ w = wr) (fun i _ => xs.length - (intOf i).toNat)
  case atStart => exact ⟨0, Nat.zero_le _, rfl, Lib.hid rfl, rfl⟩
  case round =>
    obtain ⟨k, hk, rfl, HF, rfl⟩ := hrel
    by_cases hlt : k < xs.length
    · obtain ⟨b1, o1, rfl, hbs, hcc⟩ := HA.out k hlt
      have hx := hcc k hlt
      have hlti : (k : Int) < (xs.length : Int) := by omega
      have HS1 := Lib.hid (HSU.out k hlt); have HM1 := Lib.hid (HM.out k hlt)
      generalize xs[k] = x at hx HS1 HM1
      clear hcc
      by_cases he : x = n
      · have hxb : (x == n) = true := by simpa using he
        have HC := Lib.hid (HM1.out he)
        clear he
        go_wp2
        go_ret
        exact ⟨by rw [HC.out]; rfl, Below.refl _ _⟩
      · have hxb : (x == n) = false := by simpa using he
        have HF1 : Hid (hasK xs n (k + 1) = false) := Lib.hid (by rw [HS1.out, HF.out, hxb]; rfl)
        clear he
        go_wp2
        go_roundw
        case rel => exact ⟨k + 1, by omega, by go_num, HF1, by first | rfl | trivial⟩
        case measure => simp [intOf]; omega
    · have hkn : k = xs.length := by omega
      subst hkn
      go_wp2
      go_ret
      exact ⟨by rw [← HE.out, HF.out]; rfl, Below.refl _ _⟩
end Go.Proofs.Ytedoibgclplnaaa
