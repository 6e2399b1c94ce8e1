/-
Readings that may follow: mayFollow and l14May; MayFollow and NextSeen of both. Condition: the slices read as lists.
-/
import Derived.Test.YtlgeddbgbcineaaSensB
import Derived.Test.YtlgeddbgbcineaaBox
namespace Go.Proofs.Ytlgeddbgbcineaa
open Go.RowKit
set_option linter.unusedVariables false

theorem Reading.fitsd {m : Int} {r : Reading} (h : Reading.fits m r = true) : (0 ≤ r.sensor ∧ r.sensor ≤ m) ∧ 0 ≤ r.tick ∧ r.tick ≤ 100000 := by
  simp only [Reading.fits, Bool.and_eq_true, inB_iff] at h; exact h
theorem gapsOk_at {gs : List (List Int)} (h : gapsOk gs = true) (i : Nat) (hi : i < gs.length) : gapOk gs[i] = true := by
  simp only [gapsOk, Bool.and_eq_true, List.all_eq_true] at h; exact h.1 _ (List.getElem_mem hi)
theorem gapOk_len {g : List Int} (h : gapOk g = true) : g.length = 2 := by
  simp only [gapOk, Bool.and_eq_true, decide_eq_true_eq] at h; exact h.1.1
theorem gapOk_bd {g : List Int} (h : gapOk g = true) : 0 ≤ g[0]'(by rw [gapOk_len h]; omega) ∧ g[0]'(by rw [gapOk_len h]; omega) ≤ g[1]'(by rw [gapOk_len h]; omega) ∧ g[1]'(by rw [gapOk_len h]; omega) ≤ 1000 := by
  have hl := gapOk_len h
  match g, hl with
  | [p, q], _ =>
    simp only [gapOk, Bool.and_eq_true, inB_iff] at h
    simp at h ⊢
    omega
theorem readsOk_ok {gs : List (List Int)} {ts : List Reading} (h : readsOk gs ts = true) : gapsOk gs = true ∧ ts.length ≤ 14 ∧ ∀ r ∈ ts, Reading.fits (gs.length : Int) r = true := by
  simp only [readsOk, Bool.and_eq_true, decide_eq_true_eq, List.all_eq_true] at h
  exact ⟨h.1.1, h.1.2, h.2⟩
def mayP (gs : List (List Int)) (a b : Reading) : Bool := (b.sensor == a.sensor + 1) && (match gs[a.sensor.toNat]? with | some g => inB (b.tick - a.tick) (g.getD 0 0) (g.getD 1 0) | none => false)
def mfR (gs : List (List Int)) (a b : Reading) : Bool × Int := if readsOk gs [a, b] = true then (mayP gs a b, 0) else (false, 1)
def nsR (gs : List (List Int)) (r : Reading) : Int × Int × Int := if readsOk gs [r] = true then (if r.sensor = (gs.length : Int) then (0, 0, 3) else (match gs[r.sensor.toNat]? with | some g => (r.tick + g.getD 0 0, r.tick + g.getD 1 0, 0) | none => (0, 0, 0))) else (0, 0, 1)
theorem boxes2B (w : World) (x0 x1 y0 y1 : Int) (t : TypeId) : ∀ W, Below ((w.alloc (.cells #[.int .i64 x0, .int .i64 x1] t)).alloc (.cells #[.int .i64 y0, .int .i64 y1] t)).heap.size ((w.alloc (.cells #[.int .i64 x0, .int .i64 x1] t)).alloc (.cells #[.int .i64 y0, .int .i64 y1] t)) W →
    W.cell? ⟨w.heap.size, 0, none⟩ = some (.int .i64 x0) ∧ W.cell? ⟨w.heap.size, 1, none⟩ = some (.int .i64 x1) ∧ W.cell? ⟨w.heap.size + 1, 0, none⟩ = some (.int .i64 y0) ∧ W.cell? ⟨w.heap.size + 1, 1, none⟩ = some (.int .i64 y1) := fun W hW => by
  have h1 := ((Box2.new w (.int .i64 x0) (.int .i64 x1) t).ex (below_alloc _ (.cells #[.int .i64 y0, .int .i64 y1] t))).ex hW
  have h2 := (Box2.new (w.alloc (.cells #[.int .i64 x0, .int .i64 x1] t)) (.int .i64 y0) (.int .i64 y1) t).ex hW
  have hs : (w.alloc (.cells #[.int .i64 x0, .int .i64 x1] t)).heap.size = w.heap.size + 1 := by simp
  rw [hs] at h2
  exact ⟨h1.c0, h1.c1, h2.c0, h2.c1⟩
theorem boxes2 (w : World) (x0 x1 y0 y1 : Int) (t : TypeId) : ∀ e, (plus ((w.alloc (.cells #[.int .i64 x0, .int .i64 x1] t)).alloc (.cells #[.int .i64 y0, .int .i64 y1] t)) e).cell? ⟨w.heap.size, 0, none⟩ = some (.int .i64 x0) ∧ (plus ((w.alloc (.cells #[.int .i64 x0, .int .i64 x1] t)).alloc (.cells #[.int .i64 y0, .int .i64 y1] t)) e).cell? ⟨w.heap.size, 1, none⟩ = some (.int .i64 x1) ∧
    (plus ((w.alloc (.cells #[.int .i64 x0, .int .i64 x1] t)).alloc (.cells #[.int .i64 y0, .int .i64 y1] t)) e).cell? ⟨w.heap.size + 1, 0, none⟩ = some (.int .i64 y0) ∧ (plus ((w.alloc (.cells #[.int .i64 x0, .int .i64 x1] t)).alloc (.cells #[.int .i64 y0, .int .i64 y1] t)) e).cell? ⟨w.heap.size + 1, 1, none⟩ = some (.int .i64 y1) :=
  fun e => boxes2B w x0 x1 y0 y1 t _ (below_plus _ e)
theorem lit2R (W : World) (x0 x1 y0 y1 : Int) : SlReading (W.alloc (.cells #[.int .i64 x0, .int .i64 x1, .int .i64 y0, .int .i64 y1] 35)) (.slice (some ⟨W.heap.size, 0, none⟩) 2 2) [⟨x0, x1⟩, ⟨y0, y1⟩] :=
  Ow.sl (lo := W.heap.size) (e := 35) ⟨World.ownsRow_lit W #[.int .i64 x0, .int .i64 x1, .int .i64 y0, .int .i64 y1] 2 (Nat.le_refl _) (by unfold maxLen; omega) (by simp), by simp⟩
theorem lit1R (W : World) (x0 x1 : Int) : SlReading (W.alloc (.cells #[.int .i64 x0, .int .i64 x1] 35)) (.slice (some ⟨W.heap.size, 0, none⟩) 1 1) [⟨x0, x1⟩] :=
  Ow.sl (lo := W.heap.size) (e := 35) ⟨World.ownsRow_lit W #[.int .i64 x0, .int .i64 x1] 1 (Nat.le_refl _) (by unfold maxLen; omega) (by simp), by simp⟩

set_option maxHeartbeats 1000000 in
theorem mayFollow_any (v : Value) (gs : List (List Int)) (x0 x1 y0 y1 : Int) (w : World) (hv : SlII w v gs) (hg : gapsOk gs = true) (hx : Reading.fits (gs.length : Int) ⟨x0, x1⟩ = true) (hy : Reading.fits (gs.length : Int) ⟨y0, y1⟩ = true) :
    Calls Try.prog 58 #[v, .agg #[.int .i64 x0, .int .i64 x1], .agg #[.int .i64 y0, .int .i64 y1]] w fun e w' => e = .returned (.bool (mayP gs ⟨x0, x1⟩ ⟨y0, y1⟩)) ∧ Below w.heap.size w w' := by
  obtain ⟨A, c, rfl, hla, hrows⟩ := hv.op
  obtain ⟨⟨hx1, hx2⟩, hx3, hx4⟩ := Reading.fitsd hx
  obtain ⟨⟨hy1, hy2⟩, hy3, hy4⟩ := Reading.fitsd hy
  dsimp only at hx1 hx2 hx3 hx4 hy1 hy2 hy3 hy4
  have hq := boxes2 w x0 x1 y0 y1 35
  have hq0 := fun e => (hq e).1; have hq1 := fun e => (hq e).2.1; have hq2 := fun e => (hq e).2.2.1; have hq3 := fun e => (hq e).2.2.2
  have HBW := Lib.hid (below_alloc2 w (.cells #[.int .i64 x0, .int .i64 x1] 35) (.cells #[.int .i64 y0, .int .i64 y1] 35))
  clear hq hv hx hy
  cases hs : (y0 == x0 + 1) with
  | false =>
    have E : Hid (mayP gs ⟨x0, x1⟩ ⟨y0, y1⟩ = false) := Lib.hid (by unfold mayP; rw [hs]; rfl)
    clear hrows
    go_enter Try.func58, Try.ntmps58
    go_wp2
    refine wp_region_plus (by kernel_rfl) (by kernel_rfl) ?_
    repeat (go_big_quiet_step ((fail)))
    refine wpQuiet_nil ?_
    intro wq hwq
    replace hwq := below_of_plus hwq
    go_wp2
    go_ret
    exact ⟨ret_bool E.out.symm, below_next0 HBW.out hwq⟩
  | true =>
    have hs2 : y0 = x0 + 1 := by simpa using hs
    obtain ⟨i, rfl⟩ := Int.eq_ofNat_of_zero_le hx1
    have hi : i < gs.length := by omega
    have hii : (i : Int) < (gs.length : Int) := by omega
    obtain ⟨b, o, A', c', rfl, hbs, hcell, hrow⟩ := hrows i hi
    have hgk := gapsOk_at hg i hi
    have hl2 := gapOk_len hgk
    obtain ⟨A2, c2, hveq, hla2, ha2⟩ := hrow.op
    injection hveq with hA2 _ hc2
    subst hA2 hc2
    obtain ⟨b2, o2, rfl, hbs2, hcc⟩ := ha2 0 (by omega)
    have h0 := hcc 0 (by omega); have h1 := hcc 1 (by omega)
    simp only [Nat.add_zero] at h0
    have hp := cell_plus ((HBW.out.cell (p := ⟨b, o + i, none⟩) hbs).trans hcell)
    have hp0 := cell_plus ((HBW.out.cell (p := ⟨b2, o2, none⟩) hbs2).trans h0)
    have hp1 := cell_plus ((HBW.out.cell (p := ⟨b2, o2 + 1, none⟩) hbs2).trans h1)
    have hl0 : (0 : Int) < (gs[i].length : Int) := by omega
    have hl1 : (1 : Int) < (gs[i].length : Int) := by omega
    have E : Hid (mayP gs ⟨(i : Int), x1⟩ ⟨y0, y1⟩ = inB (y1 - x1) (gs[i][0]'(by omega)) (gs[i][1]'(by omega))) := Lib.hid (by
      unfold mayP; rw [hs]; simp [hi, List.getD_eq_getElem?_getD, hl2])
    generalize gs[i][0]'(by omega) = g0 at hp0 E
    generalize gs[i][1]'(by omega) = g1 at hp1 E
    generalize gs[i].length = L at hp hl0 hl1
    clear hrows hrow hcell h0 h1 hcc ha2 hgk hl2 hg hs2
    go_enter Try.func58, Try.ntmps58
    go_wp2
    refine wp_region_plus (by kernel_rfl) (by kernel_rfl) ?_
    repeat (go_big_quiet_step (((go_at_call 63; exact plus_same (within_any _ _ _ _)))))
    refine wpQuiet_nil ?_
    intro wq hwq
    replace hwq := below_of_plus hwq
    go_wp2
    go_ret
    exact ⟨ret_bool E.out.symm, below_next0 HBW.out hwq⟩

set_option maxHeartbeats 1000000 in
theorem l14May_any (v : Value) (gs : List (List Int)) (x0 x1 y0 y1 : Int) (w : World) (hv : SlII w v gs) (hg : gapsOk gs = true) (hx : Reading.fits (gs.length : Int) ⟨x0, x1⟩ = true) (hy : Reading.fits (gs.length : Int) ⟨y0, y1⟩ = true) :
    Calls Try.prog 60 #[v, .agg #[.int .i64 x0, .int .i64 x1], .agg #[.int .i64 y0, .int .i64 y1]] w fun e w' => e = .returned (.bool (mayP gs ⟨x0, x1⟩ ⟨y0, y1⟩)) ∧ Below w.heap.size w w' := by
  obtain ⟨A, c, rfl, hla, hrows⟩ := hv.op
  obtain ⟨⟨hx1, hx2⟩, hx3, hx4⟩ := Reading.fitsd hx
  obtain ⟨⟨hy1, hy2⟩, hy3, hy4⟩ := Reading.fitsd hy
  dsimp only at hx1 hx2 hx3 hx4 hy1 hy2 hy3 hy4
  have hq := boxes2 w x0 x1 y0 y1 35
  have hq0 := fun e => (hq e).1; have hq1 := fun e => (hq e).2.1; have hq2 := fun e => (hq e).2.2.1; have hq3 := fun e => (hq e).2.2.2
  have HBW := Lib.hid (below_alloc2 w (.cells #[.int .i64 x0, .int .i64 x1] 35) (.cells #[.int .i64 y0, .int .i64 y1] 35))
  clear hq hv hx hy
  cases hs : (y0 == x0 + 1) with
  | false =>
    have E : Hid (mayP gs ⟨x0, x1⟩ ⟨y0, y1⟩ = false) := Lib.hid (by unfold mayP; rw [hs]; rfl)
    clear hrows
    go_enter Try.func60, Try.ntmps60
    go_wp2
    refine wp_region_plus (by kernel_rfl) (by kernel_rfl) ?_
    repeat (go_big_quiet_step ((fail)))
    refine wpQuiet_nil ?_
    intro wq hwq
    replace hwq := below_of_plus hwq
    go_wp2
    go_ret
    exact ⟨ret_bool E.out.symm, below_next0 HBW.out hwq⟩
  | true =>
    have hs2 : y0 = x0 + 1 := by simpa using hs
    obtain ⟨i, rfl⟩ := Int.eq_ofNat_of_zero_le hx1
    have hi : i < gs.length := by omega
    have hii : (i : Int) < (gs.length : Int) := by omega
    obtain ⟨b, o, A', c', rfl, hbs, hcell, hrow⟩ := hrows i hi
    have hgk := gapsOk_at hg i hi
    have hl2 := gapOk_len hgk
    obtain ⟨A2, c2, hveq, hla2, ha2⟩ := hrow.op
    injection hveq with hA2 _ hc2
    subst hA2 hc2
    obtain ⟨b2, o2, rfl, hbs2, hcc⟩ := ha2 0 (by omega)
    have h0 := hcc 0 (by omega); have h1 := hcc 1 (by omega)
    simp only [Nat.add_zero] at h0
    have hp := cell_plus ((HBW.out.cell (p := ⟨b, o + i, none⟩) hbs).trans hcell)
    have hp0 := cell_plus ((HBW.out.cell (p := ⟨b2, o2, none⟩) hbs2).trans h0)
    have hp1 := cell_plus ((HBW.out.cell (p := ⟨b2, o2 + 1, none⟩) hbs2).trans h1)
    have hl0 : (0 : Int) < (gs[i].length : Int) := by omega
    have hl1 : (1 : Int) < (gs[i].length : Int) := by omega
    have E : Hid (mayP gs ⟨(i : Int), x1⟩ ⟨y0, y1⟩ = inB (y1 - x1) (gs[i][0]'(by omega)) (gs[i][1]'(by omega))) := Lib.hid (by
      unfold mayP; rw [hs]; simp [hi, List.getD_eq_getElem?_getD, hl2])
    generalize gs[i][0]'(by omega) = g0 at hp0 E
    generalize gs[i][1]'(by omega) = g1 at hp1 E
    generalize gs[i].length = L at hp hl0 hl1
    clear hrows hrow hcell h0 h1 hcc ha2 hgk hl2 hg hs2
    go_enter Try.func60, Try.ntmps60
    go_wp2
    refine wp_region_plus (by kernel_rfl) (by kernel_rfl) ?_
    repeat (go_big_quiet_step (((go_at_call 75; exact plus_same (l00In_any _ _ _ _)))))
    refine wpQuiet_nil ?_
    intro wq hwq
    replace hwq := below_of_plus hwq
    go_wp2
    go_ret
    exact ⟨ret_bool E.out.symm, below_next0 HBW.out hwq⟩

set_option maxHeartbeats 1000000 in
theorem implMay_any (v : Value) (gs : List (List Int)) (x0 x1 y0 y1 : Int) (w : World) (hv : SlII w v gs) :
    Calls Try.prog 23 #[v, .agg #[.int .i64 x0, .int .i64 x1], .agg #[.int .i64 y0, .int .i64 y1]] w fun e w' => e = .returned (.tuple #[.bool (mfR gs ⟨x0, x1⟩ ⟨y0, y1⟩).1, .int .i64 (mfR gs ⟨x0, x1⟩ ⟨y0, y1⟩).2]) ∧ Below w.heap.size w w' := by
  have HV := Lib.hid hv
  obtain ⟨A, c, rfl, hla, _⟩ := hv.op
  have hq := boxes2 w x0 x1 y0 y1 35
  have HBW := Lib.hid (below_alloc2 w (.cells #[.int .i64 x0, .int .i64 x1] 35) (.cells #[.int .i64 y0, .int .i64 y1] 35))
  have HBX := Lib.hid (boxes2B w x0 x1 y0 y1 35)
  obtain ⟨hq0, hq1, hq2, hq3⟩ := HBX.out _ (Below.refl _ _)
  have HLIT : Hid (SlReading (((w.alloc (.cells #[.int .i64 x0, .int .i64 x1] 35)).alloc (.cells #[.int .i64 y0, .int .i64 y1] 35)).alloc (.cells #[.int .i64 x0, .int .i64 x1, .int .i64 y0, .int .i64 y1] 35)) (.slice (some ⟨w.heap.size + 1 + 1, 0, none⟩) 2 2) [⟨x0, x1⟩, ⟨y0, y1⟩]) := Lib.hid (by
    have h := lit2R ((w.alloc (.cells #[.int .i64 x0, .int .i64 x1] 35)).alloc (.cells #[.int .i64 y0, .int .i64 y1] 35)) x0 x1 y0 y1
    have hs : ((w.alloc (.cells #[.int .i64 x0, .int .i64 x1] 35)).alloc (.cells #[.int .i64 y0, .int .i64 y1] 35)).heap.size = w.heap.size + 1 + 1 := by simp
    rw [hs] at h; exact h)
  clear hv hq
  go_enter Try.func23, Try.ntmps23
  go_wp2_with fail
  refine (validReadings_any _ _ gs [⟨x0, x1⟩, ⟨y0, y1⟩] _ (HV.out.ex (below_next0 HBW.out (below_alloc _ _))) HLIT.out).mono ?_
  rintro e w1 ⟨rfl, hb1⟩
  have HB1 := Lib.hid (below_next0 (below_alloc _ _) hb1)
  have HB2 := Lib.hid (below_next0 HBW.out HB1.out)
  clear hb1 hq0 hq1 hq2 hq3
  obtain ⟨hq0, hq1, hq2, hq3⟩ := HBX.out _ HB1.out
  cases hok : readsOk gs [⟨x0, x1⟩, ⟨y0, y1⟩] with
  | false =>
    have E : Hid (mfR gs ⟨x0, x1⟩ ⟨y0, y1⟩ = (false, 1)) := Lib.hid (by unfold mfR; rw [hok]; rfl)
    go_wp2
    go_ret2
    exact ⟨by rw [E.out]; rfl, HB2.out⟩
  | true =>
    have E : Hid (mfR gs ⟨x0, x1⟩ ⟨y0, y1⟩ = (mayP gs ⟨x0, x1⟩ ⟨y0, y1⟩, 0)) := Lib.hid (by unfold mfR; rw [hok]; rfl)
    obtain ⟨hgk, -, hall⟩ := readsOk_ok hok
    have HC := Lib.hid (mayFollow_any _ gs x0 x1 y0 y1 w1 (HV.out.ex HB2.out) hgk (hall ⟨x0, x1⟩ (by simp)) (hall ⟨y0, y1⟩ (by simp)))
    generalize mayP gs ⟨x0, x1⟩ ⟨y0, y1⟩ = p at E HC
    clear hok hgk hall
    go_wp2_with fail
    refine HC.out.mono ?_
    rintro e w2 ⟨rfl, hb2⟩
    go_wp2
    go_ret2
    exact ⟨by rw [E.out]; rfl, below_next0 HB2.out hb2⟩

set_option maxHeartbeats 1000000 in
theorem specMay_any (v : Value) (gs : List (List Int)) (x0 x1 y0 y1 : Int) (w : World) (hv : SlII w v gs) :
    Calls Try.prog 26 #[v, .agg #[.int .i64 x0, .int .i64 x1], .agg #[.int .i64 y0, .int .i64 y1]] w fun e w' => e = .returned (.tuple #[.bool (mfR gs ⟨x0, x1⟩ ⟨y0, y1⟩).1, .int .i64 (mfR gs ⟨x0, x1⟩ ⟨y0, y1⟩).2]) ∧ Below w.heap.size w w' := by
  have HV := Lib.hid hv
  obtain ⟨A, c, rfl, hla, _⟩ := hv.op
  have hq := boxes2 w x0 x1 y0 y1 35
  have HBW := Lib.hid (below_alloc2 w (.cells #[.int .i64 x0, .int .i64 x1] 35) (.cells #[.int .i64 y0, .int .i64 y1] 35))
  have HBX := Lib.hid (boxes2B w x0 x1 y0 y1 35)
  obtain ⟨hq0, hq1, hq2, hq3⟩ := HBX.out _ (Below.refl _ _)
  have HLIT : Hid (SlReading (((w.alloc (.cells #[.int .i64 x0, .int .i64 x1] 35)).alloc (.cells #[.int .i64 y0, .int .i64 y1] 35)).alloc (.cells #[.int .i64 x0, .int .i64 x1, .int .i64 y0, .int .i64 y1] 35)) (.slice (some ⟨w.heap.size + 1 + 1, 0, none⟩) 2 2) [⟨x0, x1⟩, ⟨y0, y1⟩]) := Lib.hid (by
    have h := lit2R ((w.alloc (.cells #[.int .i64 x0, .int .i64 x1] 35)).alloc (.cells #[.int .i64 y0, .int .i64 y1] 35)) x0 x1 y0 y1
    have hs : ((w.alloc (.cells #[.int .i64 x0, .int .i64 x1] 35)).alloc (.cells #[.int .i64 y0, .int .i64 y1] 35)).heap.size = w.heap.size + 1 + 1 := by simp
    rw [hs] at h; exact h)
  clear hv hq
  go_enter Try.func26, Try.ntmps26
  go_wp2_with fail
  refine (l14Ok_any _ _ gs [⟨x0, x1⟩, ⟨y0, y1⟩] _ (HV.out.ex (below_next0 HBW.out (below_alloc _ _))) HLIT.out).mono ?_
  rintro e w1 ⟨rfl, hb1⟩
  have HB1 := Lib.hid (below_next0 (below_alloc _ _) hb1)
  have HB2 := Lib.hid (below_next0 HBW.out HB1.out)
  clear hb1 hq0 hq1 hq2 hq3
  obtain ⟨hq0, hq1, hq2, hq3⟩ := HBX.out _ HB1.out
  cases hok : readsOk gs [⟨x0, x1⟩, ⟨y0, y1⟩] with
  | false =>
    have E : Hid (mfR gs ⟨x0, x1⟩ ⟨y0, y1⟩ = (false, 1)) := Lib.hid (by unfold mfR; rw [hok]; rfl)
    go_wp2
    go_ret2
    exact ⟨by rw [E.out]; rfl, HB2.out⟩
  | true =>
    have E : Hid (mfR gs ⟨x0, x1⟩ ⟨y0, y1⟩ = (mayP gs ⟨x0, x1⟩ ⟨y0, y1⟩, 0)) := Lib.hid (by unfold mfR; rw [hok]; rfl)
    obtain ⟨hgk, -, hall⟩ := readsOk_ok hok
    have HC := Lib.hid (l14May_any _ gs x0 x1 y0 y1 w1 (HV.out.ex HB2.out) hgk (hall ⟨x0, x1⟩ (by simp)) (hall ⟨y0, y1⟩ (by simp)))
    generalize mayP gs ⟨x0, x1⟩ ⟨y0, y1⟩ = p at E HC
    clear hok hgk hall
    go_wp2_with fail
    refine HC.out.mono ?_
    rintro e w2 ⟨rfl, hb2⟩
    go_wp2
    go_ret2
    exact ⟨by rw [E.out]; rfl, below_next0 HB2.out hb2⟩

set_option maxHeartbeats 1000000 in
theorem implNext_any (v : Value) (gs : List (List Int)) (x0 x1 : Int) (w : World) (hv : SlII w v gs) :
    Calls Try.prog 21 #[v, .agg #[.int .i64 x0, .int .i64 x1]] w fun e w' => e = .returned (.tuple #[.int .i64 (nsR gs ⟨x0, x1⟩).1, .int .i64 (nsR gs ⟨x0, x1⟩).2.1, .int .i64 (nsR gs ⟨x0, x1⟩).2.2]) ∧ Below w.heap.size w w' := by
  have HV := Lib.hid hv
  obtain ⟨A, c, rfl, hla, hrows⟩ := hv.op
  have HROWS := Lib.hid hrows
  have HBW := Lib.hid (below_alloc w (.cells #[.int .i64 x0, .int .i64 x1] 35))
  have HBX := Lib.hid (Box2.new w (.int .i64 x0) (.int .i64 x1) 35)
  have hq0 := HBX.out.c0; have hq1 := HBX.out.c1
  have HLIT : Hid (SlReading ((w.alloc (.cells #[.int .i64 x0, .int .i64 x1] 35)).alloc (.cells #[.int .i64 x0, .int .i64 x1] 35)) (.slice (some ⟨w.heap.size + 1, 0, none⟩) 1 1) [⟨x0, x1⟩]) := Lib.hid (by
    have h := lit1R (w.alloc (.cells #[.int .i64 x0, .int .i64 x1] 35)) x0 x1
    have hs : (w.alloc (.cells #[.int .i64 x0, .int .i64 x1] 35)).heap.size = w.heap.size + 1 := by simp
    rw [hs] at h; exact h)
  clear hv hrows
  go_enter Try.func21, Try.ntmps21
  go_wp2_with fail
  refine (validReadings_any _ _ gs [⟨x0, x1⟩] _ (HV.out.ex (below_next0 HBW.out (below_alloc _ _))) HLIT.out).mono ?_
  rintro e w1 ⟨rfl, hb1⟩
  have HB1 := Lib.hid (below_next0 (below_alloc _ _) hb1)
  have HB2 := Lib.hid (below_next0 HBW.out HB1.out)
  clear hb1 hq0 hq1
  have HBX1 := Lib.hid (HBX.out.ex HB1.out)
  have hq0 := HBX1.out.c0; have hq1 := HBX1.out.c1
  cases hok : readsOk gs [⟨x0, x1⟩] with
  | false =>
    have E : Hid (nsR gs ⟨x0, x1⟩ = (0, 0, 1)) := Lib.hid (by unfold nsR; rw [hok]; rfl)
    go_wp2
    go_ret3
    exact ⟨by rw [E.out]; rfl, HB2.out⟩
  | true =>
    obtain ⟨hgk, -, hall⟩ := readsOk_ok hok
    obtain ⟨⟨hx1, hx2⟩, hx3, hx4⟩ := Reading.fitsd (hall ⟨x0, x1⟩ (by simp))
    dsimp only at hx1 hx2 hx3 hx4
    cases hs : (x0 == (gs.length : Int)) with
    | true =>
      have E : Hid (nsR gs ⟨x0, x1⟩ = (0, 0, 3)) := Lib.hid (by unfold nsR; rw [hok]; simp only [if_true]; rw [if_pos (by simpa using hs)])
      clear hok hgk hall
      go_wp2
      go_ret3
      exact ⟨by rw [E.out]; rfl, HB2.out⟩
    | false =>
      have hs2 : ¬ x0 = (gs.length : Int) := by simpa using hs
      obtain ⟨i, rfl⟩ := Int.eq_ofNat_of_zero_le hx1
      have hi : i < gs.length := by omega
      have hii : (i : Int) < (gs.length : Int) := by omega
      obtain ⟨b, o, A', c', rfl, hbs, hcell, hrow⟩ := HROWS.out i hi
      have hg1 := gapsOk_at hgk i hi
      have hl2 := gapOk_len hg1
      obtain ⟨hga, hgb, hgc⟩ := gapOk_bd hg1
      obtain ⟨A2, c2, hveq, hla2, ha2⟩ := hrow.op
      injection hveq with hA2 _ hc2
      subst hA2 hc2
      obtain ⟨b2, o2, rfl, hbs2, hcc⟩ := ha2 0 (by omega)
      have h0 := hcc 0 (by omega); have h1 := hcc 1 (by omega)
      simp only [Nat.add_zero] at h0
      have hp := (HB2.out.cell (p := ⟨b, o + i, none⟩) hbs).trans hcell
      have hp0 := (HB2.out.cell (p := ⟨b2, o2, none⟩) hbs2).trans h0
      have hp1 := (HB2.out.cell (p := ⟨b2, o2 + 1, none⟩) hbs2).trans h1
      have hl0 : (0 : Int) < (gs[i].length : Int) := by omega
      have hl1 : (1 : Int) < (gs[i].length : Int) := by omega
      have E : Hid (nsR gs ⟨(i : Int), x1⟩ = (x1 + gs[i][0]'(by omega), x1 + gs[i][1]'(by omega), 0)) := Lib.hid (by
        unfold nsR; rw [hok]; simp only [if_true]; rw [if_neg (by simpa using hs)]; simp [hi, List.getD_eq_getElem?_getD, hl2])
      generalize gs[i][0]'(by omega) = g0 at hp0 E hga hgb
      generalize gs[i][1]'(by omega) = g1 at hp1 E hgb hgc
      generalize gs[i].length = L at hp hl0 hl1
      clear hrow hcell h0 h1 hcc ha2 hg1 hl2 hgk hall hok hs2
      go_wp2
      go_quiet (fail)
      go_wp2
      go_ret3
      exact ⟨by rw [E.out]; rfl, below_drewN HB2.out nq⟩

set_option maxHeartbeats 1000000 in
theorem specNext_any (v : Value) (gs : List (List Int)) (x0 x1 : Int) (w : World) (hv : SlII w v gs) :
    Calls Try.prog 24 #[v, .agg #[.int .i64 x0, .int .i64 x1]] w fun e w' => e = .returned (.tuple #[.int .i64 (nsR gs ⟨x0, x1⟩).1, .int .i64 (nsR gs ⟨x0, x1⟩).2.1, .int .i64 (nsR gs ⟨x0, x1⟩).2.2]) ∧ Below w.heap.size w w' := by
  have HV := Lib.hid hv
  obtain ⟨A, c, rfl, hla, hrows⟩ := hv.op
  have HROWS := Lib.hid hrows
  have HBW := Lib.hid (below_alloc w (.cells #[.int .i64 x0, .int .i64 x1] 35))
  have HBX := Lib.hid (Box2.new w (.int .i64 x0) (.int .i64 x1) 35)
  have hq0 := HBX.out.c0; have hq1 := HBX.out.c1
  have HLIT : Hid (SlReading ((w.alloc (.cells #[.int .i64 x0, .int .i64 x1] 35)).alloc (.cells #[.int .i64 x0, .int .i64 x1] 35)) (.slice (some ⟨w.heap.size + 1, 0, none⟩) 1 1) [⟨x0, x1⟩]) := Lib.hid (by
    have h := lit1R (w.alloc (.cells #[.int .i64 x0, .int .i64 x1] 35)) x0 x1
    have hs : (w.alloc (.cells #[.int .i64 x0, .int .i64 x1] 35)).heap.size = w.heap.size + 1 := by simp
    rw [hs] at h; exact h)
  clear hv hrows
  go_enter Try.func24, Try.ntmps24
  go_wp2_with fail
  refine (l14Ok_any _ _ gs [⟨x0, x1⟩] _ (HV.out.ex (below_next0 HBW.out (below_alloc _ _))) HLIT.out).mono ?_
  rintro e w1 ⟨rfl, hb1⟩
  have HB1 := Lib.hid (below_next0 (below_alloc _ _) hb1)
  have HB2 := Lib.hid (below_next0 HBW.out HB1.out)
  clear hb1 hq0 hq1
  have HBX1 := Lib.hid (HBX.out.ex HB1.out)
  have hq0 := HBX1.out.c0; have hq1 := HBX1.out.c1
  cases hok : readsOk gs [⟨x0, x1⟩] with
  | false =>
    have E : Hid (nsR gs ⟨x0, x1⟩ = (0, 0, 1)) := Lib.hid (by unfold nsR; rw [hok]; rfl)
    go_wp2
    go_ret3
    exact ⟨by rw [E.out]; rfl, HB2.out⟩
  | true =>
    obtain ⟨hgk, -, hall⟩ := readsOk_ok hok
    obtain ⟨⟨hx1, hx2⟩, hx3, hx4⟩ := Reading.fitsd (hall ⟨x0, x1⟩ (by simp))
    dsimp only at hx1 hx2 hx3 hx4
    cases hs : (x0 == (gs.length : Int)) with
    | true =>
      have E : Hid (nsR gs ⟨x0, x1⟩ = (0, 0, 3)) := Lib.hid (by unfold nsR; rw [hok]; simp only [if_true]; rw [if_pos (by simpa using hs)])
      clear hok hgk hall
      go_wp2
      go_ret3
      exact ⟨by rw [E.out]; rfl, HB2.out⟩
    | false =>
      have hs2 : ¬ x0 = (gs.length : Int) := by simpa using hs
      obtain ⟨i, rfl⟩ := Int.eq_ofNat_of_zero_le hx1
      have hi : i < gs.length := by omega
      have hii : (i : Int) < (gs.length : Int) := by omega
      obtain ⟨b, o, A', c', rfl, hbs, hcell, hrow⟩ := HROWS.out i hi
      have hg1 := gapsOk_at hgk i hi
      have hl2 := gapOk_len hg1
      obtain ⟨hga, hgb, hgc⟩ := gapOk_bd hg1
      obtain ⟨A2, c2, hveq, hla2, ha2⟩ := hrow.op
      injection hveq with hA2 _ hc2
      subst hA2 hc2
      obtain ⟨b2, o2, rfl, hbs2, hcc⟩ := ha2 0 (by omega)
      have h0 := hcc 0 (by omega); have h1 := hcc 1 (by omega)
      simp only [Nat.add_zero] at h0
      have hp := (HB2.out.cell (p := ⟨b, o + i, none⟩) hbs).trans hcell
      have hp0 := (HB2.out.cell (p := ⟨b2, o2, none⟩) hbs2).trans h0
      have hp1 := (HB2.out.cell (p := ⟨b2, o2 + 1, none⟩) hbs2).trans h1
      have hl0 : (0 : Int) < (gs[i].length : Int) := by omega
      have hl1 : (1 : Int) < (gs[i].length : Int) := by omega
      have E : Hid (nsR gs ⟨(i : Int), x1⟩ = (x1 + gs[i][0]'(by omega), x1 + gs[i][1]'(by omega), 0)) := Lib.hid (by
        unfold nsR; rw [hok]; simp only [if_true]; rw [if_neg (by simpa using hs)]; simp [hi, List.getD_eq_getElem?_getD, hl2])
      generalize gs[i][0]'(by omega) = g0 at hp0 E hga hgb
      generalize gs[i][1]'(by omega) = g1 at hp1 E hgb hgc
      generalize gs[i].length = L at hp hl0 hl1
      clear hrow hcell h0 h1 hcc ha2 hg1 hl2 hgk hall hok hs2
      go_wp2
      go_quiet (fail)
      go_wp2
      go_ret3
      exact ⟨by rw [E.out]; rfl, below_drewN HB2.out nq⟩
end Go.Proofs.Ytlgeddbgbcineaa
