/-
Places of carriers: hallOf, isDone, moved, inHalls, isState. Condition: the slices read as lists; one place for each way.
-/
import Derived.Test.YtegabdhmfemgkaaPolA
namespace Go.Proofs.Ytegabdhmfemgkaa
open Go.RowKit
set_option linter.unusedVariables false

/-- the hall at a place of a way; -1 outside -/
def hallP (way : List Int) (p : Int) : Int := if p < 1 ∨ (way.length : Int) < p then -1 else way.getD (p - 1).toNat 0
def plc (pl : List Int) (k : Nat) : Int := pl.getD k 0
def stV (pl : List Int) : Value := .agg #[.int .i64 (plc pl 0), .int .i64 (plc pl 1), .int .i64 (plc pl 2), .int .i64 (plc pl 3)]
/-- the two boxes of a call with carriers and a state -/
structure BoxT (W : World) (g : Nat) (x y : Value) (m : Int) (pl : List Int) : Prop where
  lt : g + 1 < W.heap.size
  c0 : W.cell? ⟨g, 0, none⟩ = some x
  c1 : W.cell? ⟨g, 1, none⟩ = some y
  c2 : W.cell? ⟨g, 2, none⟩ = some (.int .i64 m)
  s : ∀ k, k < 4 → W.cell? ⟨g + 1, k, none⟩ = some (.int .i64 (plc pl k))
theorem BoxT.ex {W W' : World} {g : Nat} {x y : Value} {m : Int} {pl : List Int} (h : BoxT W g x y m pl) (hb : Below W.heap.size W W') : BoxT W' g x y m pl :=
  have hl := h.lt
  ⟨Nat.lt_of_lt_of_le h.lt hb.size, (hb.cell (p := ⟨g, 0, none⟩) (by simp; omega)).trans h.c0, (hb.cell (p := ⟨g, 1, none⟩) (by simp; omega)).trans h.c1, (hb.cell (p := ⟨g, 2, none⟩) (by simp; omega)).trans h.c2, fun k hk => (hb.cell (p := ⟨g + 1, k, none⟩) (by simp; omega)).trans (h.s k hk)⟩
theorem boxT (w : World) (x y : Value) (m : Int) (pl : List Int) (t u : TypeId) : BoxT ((w.alloc (.cells #[x, y, .int .i64 m] t)).alloc (.cells #[.int .i64 (plc pl 0), .int .i64 (plc pl 1), .int .i64 (plc pl 2), .int .i64 (plc pl 3)] u)) w.heap.size x y m pl := by
  refine ⟨by simp, by simp [go_sem], by simp [go_sem], by simp [go_sem], ?_⟩
  intro k hk
  match k, hk with
  | 0, _ => simp [go_sem]
  | 1, _ => simp [go_sem]
  | 2, _ => simp [go_sem]
  | 3, _ => simp [go_sem]
  | n + 4, h => omega

set_option maxHeartbeats 1000000 in
theorem hallOf_any (v u : Value) (halls : List Int) (ways : List (List Int)) (most : Int) (pl : List Int) (c : Nat) (w : World) (hv : SlI w v halls) (hu : SlII w u ways) (hc : c < ways.length) (h4 : ways.length ≤ 4) :
    Calls Try.prog 106 #[.agg #[v, u, .int .i64 most], stV pl, .int .i64 c] w fun e w' => e = .returned (.int .i64 (hallP ways[c] (plc pl c))) ∧ Below w.heap.size w w' := by
  obtain ⟨A, d, rfl, hla, ha⟩ := hv.op
  obtain ⟨B, f, rfl, hlb, hat⟩ := hu.op
  obtain ⟨b, o, A', c', rfl, hbs, hcell, hrow⟩ := hat c hc
  clear hv hu ha hat
  unfold stV
  have HB := Lib.hid (below_alloc2 w (.cells #[.slice A halls.length d, .slice (some ⟨b, o, none⟩) ways.length f, .int .i64 most] 69) (.cells #[.int .i64 (plc pl 0), .int .i64 (plc pl 1), .int .i64 (plc pl 2), .int .i64 (plc pl 3)] 86))
  have hq := boxT w (.slice A halls.length d) (.slice (some ⟨b, o, none⟩) ways.length f) most pl 69 86
  have hq1 := cell_plus hq.c1
  have hq3 := cell_plus (hq.s c (by omega))
  have hp0 := (HB.out.cell (p := ⟨b, o + c, none⟩) hbs).trans hcell
  have hp := cell_plus hp0
  have HQ := Lib.hid hq
  have hc4 : (c : Int) < 4 := by omega
  have hc4n : c < 4 := by omega
  have hci : (c : Int) < (ways.length : Int) := by omega
  have HR : Hid (hallP ways[c] (plc pl c) = if plc pl c < 1 ∨ (ways[c].length : Int) < plc pl c then -1 else ways[c].getD (plc pl c - 1).toNat 0) := Lib.hid rfl
  obtain ⟨A2, c2, hveq, hla2, ha2⟩ := hrow.op
  injection hveq with hA2 _ hc2
  subst hA2 hc2
  have HP0 := Lib.hid hp0
  have HQ3 : Hid (∀ W', Below ((w.alloc (.cells #[.slice A halls.length d, .slice (some ⟨b, o, none⟩) ways.length f, .int .i64 most] 69)).alloc (.cells #[.int .i64 (plc pl 0), .int .i64 (plc pl 1), .int .i64 (plc pl 2), .int .i64 (plc pl 3)] 86)).heap.size ((w.alloc (.cells #[.slice A halls.length d, .slice (some ⟨b, o, none⟩) ways.length f, .int .i64 most] 69)).alloc (.cells #[.int .i64 (plc pl 0), .int .i64 (plc pl 1), .int .i64 (plc pl 2), .int .i64 (plc pl 3)] 86)) W' → W'.cell? ⟨w.heap.size + 1, c, none⟩ = some (.int .i64 (plc pl c)) ∧ W'.cell? ⟨w.heap.size, 1, none⟩ = some (.slice (some ⟨b, o, none⟩) ways.length f) ∧ W'.cell? ⟨b, o + c, none⟩ = some (.slice A' ways[c].length c')) := Lib.hid fun W' hW => ⟨(HQ.out.ex hW).s c (by omega), (HQ.out.ex hW).c1, (hW.cell (p := ⟨b, o + c, none⟩) (by simp; omega)).trans HP0.out⟩
  generalize plc pl c = p at hq3 HR HQ3
  clear hq hrow hcell hp0 HP0
  by_cases h1 : p < 1
  · rw [if_pos (Or.inl h1)] at HR
    generalize ways[c].length = L at hp HQ3
    clear ha2 hla2
    go_enter Try.func106, Try.ntmps106
    go_wp2
    refine wp_region_plus (by kernel_rfl) (by kernel_rfl) ?_
    repeat (go_big_quiet_step ((fail)))
    refine wpQuiet_nil ?_
    intro wq hwq
    replace hwq := below_of_plus hwq
    go_wp2
    go_ret
    exact ⟨ret_int HR.out.symm, below_next0 HB.out hwq⟩
  · have hd1 : decide (p < 1) = false := by simpa using h1
    by_cases h2 : (ways[c].length : Int) < p
    · rw [if_pos (Or.inr h2)] at HR
      generalize ways[c].length = L at hp h2 HQ3
      clear ha2 hla2
      go_enter Try.func106, Try.ntmps106
      go_wp2
      refine wp_region_plus (by kernel_rfl) (by kernel_rfl) ?_
      repeat (go_big_quiet_step ((fail)))
      refine wpQuiet_nil ?_
      intro wq hwq
      replace hwq := below_of_plus hwq
      go_wp2
      go_ret
      exact ⟨ret_int HR.out.symm, below_next0 HB.out hwq⟩
    · rw [if_neg (by omega)] at HR
      obtain ⟨q, hq⟩ := Int.eq_ofNat_of_zero_le (show (0 : Int) ≤ p - 1 by omega)
      have hpq : p = (q : Int) + 1 := by omega
      subst hpq
      have hql : q < ways[c].length := by omega
      obtain ⟨b2, o2, rfl, hbs2, hcc⟩ := ha2 q hql
      have hpq := (HB.out.cell (p := ⟨b2, o2 + q, none⟩) hbs2).trans (hcc q hql)
      have HG : Hid (ways[c].getD ((q : Int) + 1 - 1).toNat 0 = ways[c][q]) := Lib.hid (by
        have : ((q : Int) + 1 - 1).toNat = q := by omega
        rw [this]; simp [List.getD_eq_getElem?_getD, hql])
      have hqi : (q : Int) < (ways[c].length : Int) := by omega
      generalize ways[c][q] = x at hpq HG
      generalize ways[c].length = L at hp h2 hqi HQ3 hla2
      have hz : (q : Int) + 1 - 1 = (q : Int) := by omega
      clear ha2 hcc hql hq
      go_enter Try.func106, Try.ntmps106
      go_wp2
      refine wp_region_plus (by kernel_rfl) (by kernel_rfl) ?_
      repeat (go_big_quiet_step ((fail)))
      refine wpQuiet_nil ?_
      intro wq hwq
      replace hwq := below_of_plus hwq
      obtain ⟨hr1, hr2, hr3⟩ := HQ3.out _ hwq
      have hr4 := (hwq.cell (p := ⟨b2, o2 + q, none⟩) (by simp; omega)).trans hpq
      have HB2 := Lib.hid (below_next0 HB.out hwq)
      clear hq1 hq3 hp hpq hwq
      go_wp2
      go_region
      go_wp2
      go_ret
      exact ⟨ret_int (by rw [HR.out, HG.out]), HB2.out.drew⟩
end Go.Proofs.Ytegabdhmfemgkaa
