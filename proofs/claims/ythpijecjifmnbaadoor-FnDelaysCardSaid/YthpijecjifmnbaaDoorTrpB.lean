/-
TripText of the program and of the reference, by their contracts: the same text. Condition: the table of powers of ten reads as its initialiser lays it.
-/
import Derived.Test.YthpijecjifmnbaaDoorTrpA
import Derived.Lib.ItoaLen
namespace Go.Proofs.YthpijecjifmnbaaDoor
open Go.RowKit
set_option linter.unusedVariables false
set_option linter.unusedSimpArgs false

/-- the table of powers of ten, whatever new memory is made -/
def Tab10 (w : World) : Prop := Lib.TabBelow Tryd.prog w.heap.size w "internal/strconv.uint64pow10" .u64 Lib.pow10Tab
theorem Tab10.ex {w w' : World} (h : Tab10 w) (hb : Below w.heap.size w w') : Tab10 w' := fun W hW => h W (below_next0 hb hW)
theorem below_sgrow (w : World) (k : Nat) (os : Array Obj) : Below w.heap.size w (Sort.grow (w.drewN k) os) := below_plus w ⟨os, (w.drewN k).drawn⟩
theorem decimal_any (n : Nat) (hn : n ≤ 1000000) (w : World) (ht : Tab10 w) : Calls Tryd.prog 32 #[.int .i64 (n : Int)] w fun e w' => e = .returned (.string (decT n)) ∧ Below w.heap.size w w' := by
  have HF : Hid (Calls Tryd.prog 60 #[.int .i64 (n : Int), .int .i64 10] w fun e w' => e = .returned (.string (decT n)) ∧ Below w.heap.size w w') := Lib.hid ((Any.strconv_FormatInt_10 Tryd.lays173 (n : Int) (by omega) (by omega) w (ht w (Below.refl _ _))).mono (by
    rintro e w' ⟨rfl, k, os, rfl⟩
    exact ⟨by rw [Lib.itoa_nonneg]; rfl, below_sgrow w k os⟩))
  go_enter Tryd.func32, Tryd.ntmps32
  go_wp2_with fail
  refine HF.out.mono ?_
  rintro e w1 ⟨rfl, hb1⟩
  go_wp2
  go_ret
  exact ⟨rfl, hb1⟩
theorem decT_size {n : Nat} (hn : n ≤ 1000000) : (decT n).size ≤ 21 := by
  have h := Lib.itoa_length_le (n : Int) (by omega) (by omega)
  rw [Lib.itoa_nonneg] at h
  simpa [decT, ByteArray.size] using h
/-- a trip as text -/
def txtS (t : TripS) : ByteArray :=
  if TripS.ok t = true then
    (if 0 < TripS.late t then
      ⟨#[116, 111, 32]⟩ ++ decT t.to.toNat ++ ⟨#[32, 100, 117, 101, 32]⟩ ++ decT t.due.toNat ++ ⟨#[32, 99, 97, 109, 101, 32]⟩ ++ decT t.came.toNat ++ (⟨#[32, 108, 97, 116, 101, 32]⟩ ++ decT (TripS.late t).toNat)
    else ⟨#[116, 111, 32]⟩ ++ decT t.to.toNat ++ ⟨#[32, 100, 117, 101, 32]⟩ ++ decT t.due.toNat ++ ⟨#[32, 99, 97, 109, 101, 32]⟩ ++ decT t.came.toNat)
  else ⟨#[]⟩

set_option maxRecDepth 100000 in
set_option maxHeartbeats 2000000 in
theorem specText_any (x y z : Int) (w : World) : Calls Tryd.prog 5 #[.agg #[.int .i64 x, .int .i64 y, .int .i64 z]] w fun e w' => e = .returned (.string (txtS ⟨x, y, z⟩)) ∧ Below w.heap.size w w' := by
  obtain ⟨c0, c1, c2⟩ := box3 (Below.refl (w.alloc (.cells #[.int .i64 x, .int .i64 y, .int .i64 z] 25)).heap.size (w.alloc (.cells #[.int .i64 x, .int .i64 y, .int .i64 z] 25)))
  have HC : Hid (∀ W, Below (w.alloc (.cells #[.int .i64 x, .int .i64 y, .int .i64 z] 25)).heap.size (w.alloc (.cells #[.int .i64 x, .int .i64 y, .int .i64 z] 25)) W → W.cell? ⟨w.heap.size, 0, none⟩ = some (.int .i64 x) ∧ W.cell? ⟨w.heap.size, 1, none⟩ = some (.int .i64 y) ∧ W.cell? ⟨w.heap.size, 2, none⟩ = some (.int .i64 z)) := Lib.hid fun W hW => by
    obtain ⟨h0, h1, h2⟩ := box3 hW
    exact ⟨h0, h1, h2⟩
  have HBA := Lib.hid (below_alloc w (.cells #[.int .i64 x, .int .i64 y, .int .i64 z] 25))
  have HOK := Lib.hid (l13OkS_any x y z w.heap.size 0 _ c0 c1 c2)
  cases hok : TripS.ok ⟨x, y, z⟩ with
  | false =>
    have E : Hid (txtS ⟨x, y, z⟩ = ⟨#[]⟩) := Lib.hid (by unfold txtS; rw [hok]; rfl)
    rw [hok] at HOK
    clear hok c0 c1 c2 HC
    go_enter Tryd.func5, Tryd.ntmps5
    go_wp2_with fail
    refine HOK.out.mono ?_
    rintro e w1 ⟨rfl, rfl⟩
    go_wp2
    go_ret
    exact ⟨by rw [E.out]; rfl, HBA.out⟩
  | true =>
    rw [hok] at HOK
    obtain ⟨⟨hx0, hx9⟩, ⟨hy0, hy9⟩, ⟨hz0, hz9⟩⟩ := TripS.okd hok
    obtain ⟨a, rfl⟩ := Int.eq_ofNat_of_zero_le hx0
    obtain ⟨b, rfl⟩ := Int.eq_ofNat_of_zero_le hy0
    obtain ⟨c, rfl⟩ := Int.eq_ofNat_of_zero_le hz0
    have E : Hid (txtS ⟨(a : Int), (b : Int), (c : Int)⟩ = if b < c then ⟨#[116, 111, 32]⟩ ++ decT a ++ ⟨#[32, 100, 117, 101, 32]⟩ ++ decT b ++ ⟨#[32, 99, 97, 109, 101, 32]⟩ ++ decT c ++ (⟨#[32, 108, 97, 116, 101, 32]⟩ ++ decT (c - b)) else ⟨#[116, 111, 32]⟩ ++ decT a ++ ⟨#[32, 100, 117, 101, 32]⟩ ++ decT b ++ ⟨#[32, 99, 97, 109, 101, 32]⟩ ++ decT c) := Lib.hid (by
      unfold txtS
      rw [hok, if_pos rfl]
      unfold TripS.late
      by_cases h : b < c
      · rw [if_pos h, if_pos (by dsimp only; omega)]
        simp only [Int.toNat_natCast]
        rw [show (max 0 ((c : Int) - (b : Int))).toNat = c - b by omega]
      · rw [if_neg h, if_neg (by dsimp only; omega)]
        simp only [Int.toNat_natCast])
    have HDC := Lib.hid (fun (x : Int) (n : Nat) (hx : x = (n : Int)) (hn : n ≤ 1000000) W => (by rw [hx]; exact l01Dec_any n hn W : Calls Tryd.prog 30 #[.int .i64 x] W fun e w' => e = .returned (.string (decT n)) ∧ Below W.heap.size W w'))
    have z1 := decT_size (n := a) (by omega); have z2 := decT_size (n := b) (by omega); have z3 := decT_size (n := c) (by omega)
    have q1 : ¬ (9223372036854775807 < 3 + (decT (a)).size) := by omega
    have q2 : ¬ (9223372036854775807 < 3 + (decT (a)).size + 5) := by omega
    have q3 : ¬ (9223372036854775807 < 3 + (decT (a)).size + 5 + (decT (b)).size) := by omega
    have q4 : ¬ (9223372036854775807 < 3 + (decT (a)).size + 5 + (decT (b)).size + 6) := by omega
    have q5 : ¬ (9223372036854775807 < 3 + (decT (a)).size + 5 + (decT (b)).size + 6 + (decT (c)).size) := by omega
    have hy0' := cell_plus c0; have hy1' := cell_plus c1; have hy2' := cell_plus c2
    clear hok c0 c1 c2
    go_enter Tryd.func5, Tryd.ntmps5
    go_wp2_with fail
    refine HOK.out.mono ?_
    rintro e w1 ⟨rfl, rfl⟩
    go_wp2
    refine wp_region_plus (by kernel_rfl) (by kernel_rfl) ?_
    repeat (go_big_quiet_step (((go_at_call 30; exact plus_below (HDC.out _ _ rfl (by omega) _)))))
    refine wpQuiet_nil ?_
    intro wq hwq
    replace hwq := below_of_plus hwq
    obtain ⟨d0, d1, d2⟩ := HC.out wq hwq
    have HBQ := Lib.hid (below_next0 HBA.out hwq)
    clear hy0' hy1' hy2' hwq HOK HC
    by_cases hbc : b < c
    · have hbi : (b : Int) < (c : Int) := by omega
      have z4 := decT_size (n := c - b) (by omega)
      have q6 : ¬ (9223372036854775807 < 6 + (decT (c - b)).size) := by omega
      have q7 : ¬ (9223372036854775807 < 3 + (decT (a)).size + 5 + (decT (b)).size + 6 + (decT (c)).size + (6 + (decT (c - b)).size)) := by omega
      go_wp2_with fail
      refine (HDC.out _ (c - b) (by omega) (by omega) _).mono ?_
      rintro e w2 ⟨rfl, hb2⟩
      go_wp2
      go_ret
      exact ⟨by rw [E.out, if_pos hbc]; rfl, below_next0 HBQ.out hb2⟩
    · have hbi : ¬ ((b : Int) < (c : Int)) := by omega
      go_wp2
      go_ret
      exact ⟨by rw [E.out, if_neg hbc]; rfl, HBQ.out⟩

set_option maxRecDepth 100000 in
set_option maxHeartbeats 2000000 in
theorem implText_any (x y z : Int) (w : World) (ht : Tab10 w) : Calls Tryd.prog 7 #[.agg #[.int .i64 x, .int .i64 y, .int .i64 z]] w fun e w' => e = .returned (.string (txtS ⟨x, y, z⟩)) ∧ Below w.heap.size w w' := by
  have HBA := Lib.hid (below_alloc w (.cells #[.int .i64 x, .int .i64 y, .int .i64 z] 25))
  have HTB := Lib.hid ht
  clear ht
  cases hok : TripS.ok ⟨x, y, z⟩ with
  | false =>
    have E : Hid (txtS ⟨x, y, z⟩ = ⟨#[]⟩) := Lib.hid (by unfold txtS; rw [hok]; rfl)
    have HV := Lib.hid (fun W => validTripS_any x y z W)
    rw [hok] at HV
    clear hok
    go_enter Tryd.func7, Tryd.ntmps7
    go_wp2_with fail
    refine (HV.out _).mono ?_
    rintro e w1 ⟨rfl, hb1⟩
    have HB1 := Lib.hid (below_next0 HBA.out hb1)
    clear hb1
    go_wp2
    go_ret
    exact ⟨by rw [E.out]; rfl, HB1.out⟩
  | true =>
    have HV := Lib.hid (fun W => validTripS_any x y z W)
    rw [hok] at HV
    have HDL := Lib.hid (fun W => delayS_any x y z W hok)
    obtain ⟨⟨hx0, hx9⟩, ⟨hy0, hy9⟩, ⟨hz0, hz9⟩⟩ := TripS.okd hok
    have E : Hid (txtS ⟨x, y, z⟩ = if 0 < TripS.late ⟨x, y, z⟩ then ⟨#[116, 111, 32]⟩ ++ decT x.toNat ++ ⟨#[32, 100, 117, 101, 32]⟩ ++ decT y.toNat ++ ⟨#[32, 99, 97, 109, 101, 32]⟩ ++ decT z.toNat ++ (⟨#[32, 108, 97, 116, 101, 32]⟩ ++ decT (TripS.late ⟨x, y, z⟩).toNat) else ⟨#[116, 111, 32]⟩ ++ decT x.toNat ++ ⟨#[32, 100, 117, 101, 32]⟩ ++ decT y.toNat ++ ⟨#[32, 99, 97, 109, 101, 32]⟩ ++ decT z.toNat) := Lib.hid (by unfold txtS; rw [hok, if_pos rfl])
    have hl0 : 0 ≤ TripS.late ⟨x, y, z⟩ ∧ TripS.late ⟨x, y, z⟩ ≤ 10000 := by unfold TripS.late; dsimp only; omega
    generalize TripS.late ⟨x, y, z⟩ = l at HDL E hl0
    obtain ⟨hl0, hl1⟩ := hl0
    have HDC := Lib.hid (fun (x : Int) (n : Nat) (hx : x = (n : Int)) (hn : n ≤ 1000000) W (hW : Below w.heap.size w W) => (by rw [hx]; exact decimal_any n hn W (HTB.out.ex hW) : Calls Tryd.prog 32 #[.int .i64 x] W fun e w' => e = .returned (.string (decT n)) ∧ Below W.heap.size W w'))
    clear hok
    have z1 := decT_size (n := x.toNat) (by omega); have z2 := decT_size (n := y.toNat) (by omega); have z3 := decT_size (n := z.toNat) (by omega)
    have q1 : ¬ (9223372036854775807 < 3 + (decT (x.toNat)).size) := by omega
    have q2 : ¬ (9223372036854775807 < 3 + (decT (x.toNat)).size + 5) := by omega
    have q3 : ¬ (9223372036854775807 < 3 + (decT (x.toNat)).size + 5 + (decT (y.toNat)).size) := by omega
    have q4 : ¬ (9223372036854775807 < 3 + (decT (x.toNat)).size + 5 + (decT (y.toNat)).size + 6) := by omega
    have q5 : ¬ (9223372036854775807 < 3 + (decT (x.toNat)).size + 5 + (decT (y.toNat)).size + 6 + (decT (z.toNat)).size) := by omega
    go_enter Tryd.func7, Tryd.ntmps7
    go_wp2_with fail
    refine (HV.out _).mono ?_
    rintro e w1 ⟨rfl, hb1⟩
    obtain ⟨c0, c1, c2⟩ := box3 hb1
    have HB1 := Lib.hid (below_next0 HBA.out hb1)
    have hbl1 : w.heap.size < w1.heap.size := by have := hb1.size; simp at this; omega
    have hy0' := cell_plus c0; have hy1' := cell_plus c1; have hy2' := cell_plus c2
    have HC : Hid (∀ W, Below w1.heap.size w1 W → W.cell? ⟨w.heap.size, 0, none⟩ = some (.int .i64 x) ∧ W.cell? ⟨w.heap.size, 1, none⟩ = some (.int .i64 y) ∧ W.cell? ⟨w.heap.size, 2, none⟩ = some (.int .i64 z)) := Lib.hid fun W hW =>
      ⟨(hW.cell (p := ⟨w.heap.size, 0, none⟩) hbl1).trans c0, (hW.cell (p := ⟨w.heap.size, 1, none⟩) hbl1).trans c1, (hW.cell (p := ⟨w.heap.size, 2, none⟩) hbl1).trans c2⟩
    clear hb1 c0 c1 c2
    go_wp2
    refine wp_region_plus (by kernel_rfl) (by kernel_rfl) ?_
    repeat (go_big_quiet_step (((go_at_call 32; exact plus_below (HDC.out _ (Int.toNat _) (Int.toNat_of_nonneg (by assumption)).symm (by omega) _ (below_next0 HB1.out (below_plus _ _)))))))
    refine wpQuiet_nil ?_
    intro wq hwq
    replace hwq := below_of_plus hwq
    obtain ⟨d0, d1, d2⟩ := HC.out wq hwq
    obtain ⟨w2, hw2⟩ : ∃ x : World, x = wq := ⟨wq, rfl⟩
    subst hw2
    have HB2 := Lib.hid (below_next0 HB1.out hwq)
    have HQ2 := Lib.hid hwq
    clear hy0' hy1' hy2' hwq
    go_wp2_with fail
    refine (HDL.out _).mono ?_
    rintro e w3 ⟨rfl, hb3⟩
    have HB3 := Lib.hid (below_next0 HB2.out hb3)
    obtain ⟨f0, f1, f2⟩ := HC.out w3 (below_next0 HQ2.out hb3)
    clear hb3 d0 d1 d2 HQ2 HC
    by_cases hl : 0 < l
    · have hlz : ¬ (l ≤ 0) := by omega
      have z4 := decT_size (n := l.toNat) (by omega)
      have q6 : ¬ (9223372036854775807 < 6 + (decT (l.toNat)).size) := by omega
      have q7 : ¬ (9223372036854775807 < 3 + (decT (x.toNat)).size + 5 + (decT (y.toNat)).size + 6 + (decT (z.toNat)).size + (6 + (decT (l.toNat)).size)) := by omega
      go_wp2_with fail
      refine (HDL.out _).mono ?_
      rintro e w4 ⟨rfl, hb4⟩
      have HB4 := Lib.hid (below_next0 HB3.out hb4)
      clear hb4
      go_wp2_with fail
      refine (HDC.out l l.toNat (by omega) (by omega) _ HB4.out).mono ?_
      rintro e w5 ⟨rfl, hb5⟩
      go_wp2
      go_ret
      exact ⟨by rw [E.out, if_pos hl]; rfl, below_next0 HB4.out hb5⟩
    · go_wp2
      go_ret
      exact ⟨by rw [E.out, if_neg (by omega)]; rfl, HB3.out⟩
end Go.Proofs.YthpijecjifmnbaaDoor
