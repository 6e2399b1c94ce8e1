/-
Guests that wait: l10Waits, l10After of the reference, waitsFor of the program. Condition: the slices read as lists, valid rooms.
-/
import Derived.Test.YtedoibgclplnaaaOrb
namespace Go.Proofs.Ytedoibgclplnaaa
open Go.RowKit
set_option linter.unusedVariables false

def waitP (rooms : List Int) (ts : List Guest) (g : Guest) : Bool := !restB g && !canP rooms ts g
def waitK (rooms : List Int) (ts : List Guest) (i : Nat) : Bool := match ts[i]? with | some g => waitP rooms ts g | none => false
theorem waitK_at {rooms : List Int} {ts : List Guest} {i : Nat} (h : i < ts.length) : waitK rooms ts i = waitP rooms ts ts[i] := by simp [waitK, h]
/-- the first guest that waits in a room -/
def aftP (rooms : List Int) (ts : List Guest) (x : Int) (i : Nat) : Bool := (match ts[i]? with | some g => g.here == x | none => false) && waitK rooms ts i
theorem aftP_at {rooms : List Int} {ts : List Guest} {x : Int} {i : Nat} (h : i < ts.length) : aftP rooms ts x i = ((ts[i].here == x) && waitP rooms ts ts[i]) := by simp [aftP, waitK, h]
def aftW (rooms : List Int) (ts : List Guest) (x : Int) : Int := firstN (aftP rooms ts x) ts.length
def nxK (rooms : List Int) (ts : List Guest) (k : Nat) : Int := match ts[k]? with | some g => (if waitP rooms ts g = true then aftW rooms ts g.wants else -1) | none => -1

theorem l10Waits_any (v u : Value) (rooms : List Int) (ts : List Guest) (k : Nat) (w : World) (hv : SlI w v rooms) (hu : SlGuest w u ts) (hok : roomsOk rooms ts = true) (hk : k < ts.length) :
    Calls Try.prog 68 #[v, u, .int .i64 k] w fun e w' => e = .returned (.bool (waitP rooms ts ts[k])) ∧ Below w.heap.size w w' := by
  obtain ⟨A, c, rfl, hla, ha⟩ := hu.op
  have HC : Hid (∀ e, Calls Try.prog 54 #[v, .slice A ts.length c, .int .i64 k] (plus w e) fun e' w'' => e' = .returned (.bool (canP rooms ts ts[k])) ∧ ∃ m, w'' = plus w m) :=
    Lib.hid fun e => plus_below (l10Can_any _ _ rooms ts k _ (hv.ex (below_plus w e)) (hu.ex (below_plus w e)) hok hk)
  obtain ⟨b, o, rfl, hbs, hc0, hc1⟩ := ha k hk
  have hki : (k : Int) < (ts.length : Int) := by omega
  have HP : Hid (waitP rooms ts ts[k] = (!restB ts[k] && !canP rooms ts ts[k])) := Lib.hid rfl
  have hp0 := cell_plus hc0; have hp1 := cell_plus hc1
  clear hv hu ha hc0 hc1 hok
  generalize canP rooms ts ts[k] = p at HC HP
  generalize waitP rooms ts ts[k] = q at HP ⊢
  generalize ts[k] = x at hp0 hp1 HP
  obtain ⟨x0, x1⟩ := x
  dsimp only at hp0 hp1
  cases hx : (x0 != x1) with
  | false =>
    have E : Hid (q = false) := Lib.hid (by rw [HP.out]; simp only [bne_eq_false_iff_eq] at hx; simp [restB, hx])
    go_enter Try.func68, Try.ntmps68
    go_wp2
    refine wp_region_plus (by kernel_rfl) (by kernel_rfl) ?_
    repeat (go_big_quiet_step (((go_at_call 54; exact HC.out _))))
    refine wpQuiet_nil ?_
    intro wq hwq
    replace hwq := below_of_plus hwq
    go_wp2
    go_ret
    exact ⟨ret_bool E.out.symm, hwq⟩
  | true =>
    have E : Hid (q = !p) := Lib.hid (by rw [HP.out]; simp only [bne_iff_ne] at hx; simp [restB, hx])
    go_enter Try.func68, Try.ntmps68
    go_wp2
    refine wp_region_plus (by kernel_rfl) (by kernel_rfl) ?_
    repeat (go_big_quiet_step (((go_at_call 54; exact HC.out _))))
    refine wpQuiet_nil ?_
    intro wq hwq
    replace hwq := below_of_plus hwq
    go_wp2
    go_ret
    exact ⟨ret_bool E.out.symm, hwq⟩

theorem l10After_any (v u : Value) (rooms : List Int) (ts : List Guest) (k : Nat) (w : World) (hv : SlI w v rooms) (hu : SlGuest w u ts) (hok : roomsOk rooms ts = true) (hk : k < ts.length) :
    Calls Try.prog 69 #[v, u, .int .i64 k] w fun e w' => e = .returned (.int .i64 (aftW rooms ts ts[k].wants)) ∧ Below w.heap.size w w' := by
  have HV := Lib.hid hv; have HU := Lib.hid hu; have HOK := Lib.hid hok
  obtain ⟨A, c, rfl, hla, ha⟩ := hu.op
  obtain ⟨b, o, rfl, hbs, hc0, hc1⟩ := ha k hk
  have HA := Lib.hid ha
  have hki : (k : Int) < (ts.length : Int) := by omega
  have HF : Hid (aftW rooms ts ts[k].wants = firstN (aftP rooms ts ts[k].wants) ts.length) := Lib.hid rfl
  have HPA : Hid (∀ (i : Nat) (h : i < ts.length), aftP rooms ts ts[k].wants i = ((ts[i].here == ts[k].wants) && waitP rooms ts ts[i])) := Lib.hid fun i h => aftP_at h
  generalize aftP rooms ts ts[k].wants = P at HF HPA
  generalize aftW rooms ts ts[k].wants = r at HF ⊢
  generalize ts[k].wants = x1 at hc1 HPA
  clear hv hu ha hc0 hok
  go_enter Try.func69, Try.ntmps69
  go_wp2
  go_loopw [7] (fun i wr => ∃ m : Nat, m ≤ ts.length ∧ i = .int .i64 m ∧ Hid (∀ j, j < m → P j = false) ∧ Below w.heap.size w wr) (fun i _ => ts.length - (intOf i).toNat)
  case atStart => exact ⟨0, Nat.zero_le _, rfl, Lib.hid (fun j h => absurd h (Nat.not_lt_zero _)), Below.refl _ _⟩
  case round =>
    obtain ⟨m, hm, rfl, hP, hb⟩ := hrel
    by_cases hlt : m < ts.length
    · have hmi : (m : Int) < (ts.length : Int) := by omega
      obtain ⟨b2, o2, hbo, hbs2, hd0, hd1⟩ := HA.out m hlt
      injection hbo with hbo
      injection hbo with hb1 ho1 _
      subst hb1 ho1
      have hp0 := cell_plus ((hb.cell (p := ⟨b, o + m * 2, none⟩) hbs).trans hd0)
      have hp1 := cell_plus ((hb.cell (p := ⟨b, o + k * 2 + 1, none⟩) hbs).trans hc1)
      have HC : Hid (∀ e, Calls Try.prog 68 #[v, .slice (some ⟨b, o, none⟩) ts.length c, .int .i64 m] (plus wr e) fun e' w'' => e' = .returned (.bool (waitP rooms ts ts[m])) ∧ ∃ m, w'' = plus wr m) :=
        Lib.hid fun e => plus_below (l10Waits_any _ _ rooms ts m _ (HV.out.ex (below_next0 hb (below_plus wr e))) (HU.out.ex (below_next0 hb (below_plus wr e))) HOK.out hlt)
      have HPM := Lib.hid (HPA.out m hlt)
      generalize waitP rooms ts ts[m] = p at HC HPM
      generalize ts[m].here = y at hp0 HPM
      clear hd0 hd1
      have HB := Lib.hid hb
      clear hb
      cases hpm : P m with
      | true =>
        rw [hpm] at HPM
        have hy : (y == x1) = true := by have := HPM.out.symm; simp only [Bool.and_eq_true] at this; exact this.1
        have HR : Hid (r = (m : Int)) := Lib.hid (HF.out.trans (firstN_hit hlt hpm hP.out))
        have hp : p = true := by have := HPM.out.symm; simp only [Bool.and_eq_true] at this; exact this.2
        subst hp
        go_wp2
        refine wp_region_plus (by kernel_rfl) (by kernel_rfl) ?_
        repeat (go_big_quiet_step (((go_at_call 68; exact HC.out _))))
        refine wpQuiet_nil ?_
        intro wq hwq
        replace hwq := below_of_plus hwq
        go_wp2
        go_ret
        exact ⟨ret_int HR.out.symm, below_next0 HB.out hwq⟩
      | false =>
        rw [hpm] at HPM
        have HP2 : Hid (∀ j, j < m + 1 → P j = false) := Lib.hid fun j hj => by
          by_cases e : j = m
          · subst e; exact hpm
          · exact hP.out j (by omega)
        cases hy : (y == x1) with
        | true =>
          rw [hy] at HPM
          have hp : p = false := by simpa using HPM.out.symm
          subst hp
          go_wp2
          refine wp_region_plus (by kernel_rfl) (by kernel_rfl) ?_
          repeat (go_big_quiet_step (((go_at_call 68; exact HC.out _))))
          refine wpQuiet_nil ?_
          intro wq hwq
          replace hwq := below_of_plus hwq
          go_wp2
          go_roundw
          case rel => exact ⟨m + 1, by omega, by go_num, HP2, below_next0 HB.out hwq⟩
          case measure => simp [intOf]; omega
        | false =>
          go_wp2
          refine wp_region_plus (by kernel_rfl) (by kernel_rfl) ?_
          repeat (go_big_quiet_step (((go_at_call 68; exact HC.out _))))
          refine wpQuiet_nil ?_
          intro wq hwq
          replace hwq := below_of_plus hwq
          go_wp2
          go_roundw
          case rel => exact ⟨m + 1, by omega, by go_num, HP2, below_next0 HB.out hwq⟩
          case measure => simp [intOf]; omega
    · have hkn : m = ts.length := by omega
      subst hkn
      go_wp2
      go_ret
      exact ⟨ret_int (by rw [HF.out, firstN_miss hP.out]), hb⟩

theorem waitsC_any (v u : Value) (rooms : List Int) (ts : List Guest) (k B1 B2 : Nat) (w : World) (hv : SlI w v rooms) (hu : SlGuest w u ts) (hok : roomsOk rooms ts = true) (hk : k < ts.length)
    (h1 : w.cell? ⟨B1, 0, none⟩ = some u) (h2 : w.cell? ⟨B2, 0, none⟩ = some v) :
    Calls Try.prog 81 #[.int .i64 k, .pointer (some ⟨B1, 0, none⟩), .pointer (some ⟨B2, 0, none⟩)] w fun e w' => e = .returned (.bool (waitP rooms ts ts[k])) ∧ Below w.heap.size w w' := by
  have HV := Lib.hid hv; have HU := Lib.hid hu; have HOK := Lib.hid hok
  obtain ⟨A, c, rfl, hla, ha⟩ := hu.op
  obtain ⟨b, o, rfl, hbs, hc0, hc1⟩ := ha k hk
  have hki : (k : Int) < (ts.length : Int) := by omega
  have hl1 : B1 < w.heap.size := by
    rcases Nat.lt_or_ge B1 w.heap.size with h | h
    · exact h
    · simp [World.cell?, Array.getElem?_eq_none h] at h1
  have hl2 : B2 < w.heap.size := by
    rcases Nat.lt_or_ge B2 w.heap.size with h | h
    · exact h
    · simp [World.cell?, Array.getElem?_eq_none h] at h2
  have HC := Lib.hid (fun W (hW : Below w.heap.size w W) => canGo_any _ _ rooms ts k W (HV.out.ex hW) (HU.out.ex hW) HOK.out hk)
  have HR : Hid (∀ W, Calls Try.prog 62 #[.agg #[.int .i64 ts[k].here, .int .i64 ts[k].wants]] W fun e w' => e = .returned (.bool (restB ts[k])) ∧ Below W.heap.size W w') := Lib.hid fun W => rests_any _ _ W
  have HP : Hid (waitP rooms ts ts[k] = (!restB ts[k] && !canP rooms ts ts[k])) := Lib.hid rfl
  generalize canP rooms ts ts[k] = p at HC HP
  generalize waitP rooms ts ts[k] = q at HP ⊢
  generalize restB ts[k] = r at HR HP
  generalize ts[k].here = x0 at hc0 HR
  generalize ts[k].wants = x1 at hc1 HR
  clear hv hu ha hok
  have H1 := Lib.hid h1; have H2 := Lib.hid h2
  go_enter Try.func81, Try.ntmps81
  go_wp2_with fail
  refine (HR.out _).mono ?_
  rintro e w1 ⟨rfl, hb1⟩
  have h1' := (hb1.cell (p := ⟨B1, 0, none⟩) hl1).trans H1.out
  have h2' := (hb1.cell (p := ⟨B2, 0, none⟩) hl2).trans H2.out
  have HB1 := Lib.hid hb1
  clear hb1 h1 h2
  cases r with
  | true =>
    go_wp2
    go_ret
    exact ⟨ret_bool (by rw [HP.out]; rfl), HB1.out⟩
  | false =>
    go_wp2_with fail
    refine (HC.out _ HB1.out).mono ?_
    rintro e w2 ⟨rfl, hb2⟩
    go_wp2
    go_ret
    exact ⟨ret_bool (by rw [HP.out]; rfl), below_next0 HB1.out hb2⟩
end Go.Proofs.Ytedoibgclplnaaa
