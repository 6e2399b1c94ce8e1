/-
The law's draw of readings, its number out of bytes, and what the next sensor's ticks tell. Condition: what is drawn is valid.
-/
import Derived.Test.YtlgeddbgbcineaaDrS
namespace Go.Proofs.Ytlgeddbgbcineaa
open Go.RowKit
set_option linter.unusedVariables false
set_option linter.unusedSimpArgs false

theorem a2Long_any (v u : Value) (bs ms : List Int) (w : World) (hv : SlB w v bs) (hu : SlB w u ms) :
    Calls Try.prog 19 #[v, u] w fun e w' => e = .returned (.bool (decide (3000 < bs.length) || decide (3000 < ms.length))) ∧ w = w' := by
  obtain ⟨A, c, rfl, hl⟩ := hv.op
  obtain ⟨B, d, rfl, hl2⟩ := hu.op
  clear hv hu
  by_cases h : 3000 < bs.length
  · go_enter Try.func19, Try.ntmps19
    go_wp2
    go_ret
    exact ⟨ret_bool (by first | (rw [Bool.eq_iff_iff]; done) | (rw [Bool.eq_iff_iff]; simp; done) | (rw [Bool.eq_iff_iff]; simp; omega)), rfl⟩
  · go_enter Try.func19, Try.ntmps19
    go_wp2
    go_ret
    exact ⟨ret_bool (by first | (rw [Bool.eq_iff_iff]; done) | (rw [Bool.eq_iff_iff]; simp; done) | (rw [Bool.eq_iff_iff]; simp; omega)), rfl⟩
theorem slB_nil (w : World) : SlB w (.slice none 0 0) [] := ⟨⟨none, 0, rfl, by simp, fun h => absurd h (by simp)⟩, by simp⟩
theorem a2At_any (v : Value) (bs : List Int) (k : Nat) (n : Int) (w : World) (hv : SlB w v bs) (hk : k ≤ 1048576) (hn : 1 ≤ n) (hn2 : n ≤ 1048576) :
    Calls Try.prog 22 #[v, .int .i64 k, .int .i64 n] w fun e w' => ∃ x : Int, 0 ≤ x ∧ x < n ∧ e = .returned (.int .i64 x) ∧ w = w' := by
  obtain ⟨⟨A, c, rfl, hl, hc⟩, hby⟩ := hv
  by_cases hkl : k < bs.length
  · obtain ⟨b, o, rfl, hb, hcell⟩ := hc (by simp; omega)
    have hx := hcell k (by simpa using hkl)
    rw [List.getElem_map] at hx
    obtain ⟨hb0, hb1⟩ := hby _ (List.getElem_mem hkl)
    have hki : ¬ ((bs.length : Int) ≤ (k : Int)) := by omega
    have hki2 : (k : Int) < (bs.length : Int) := by omega
    generalize bs[k] = y at hx hb0 hb1
    have hn0 : ¬ n = 0 := by omega
    clear hcell hc hby
    go_enter Try.func22, Try.ntmps22
    go_wp2
    go_ret
    refine ⟨_, ?_, ?_, rfl, rfl⟩
    · exact Int.emod_nonneg _ hn0
    · exact Int.emod_lt_of_pos _ (by omega)
  · have hki : (bs.length : Int) ≤ (k : Int) := by omega
    clear hc hby
    go_enter Try.func22, Try.ntmps22
    go_wp2
    go_ret
    exact ⟨0, by omega, by omega, rfl, rfl⟩

/-- readings of sensors were drawn -/
def ReadPost (w : World) (e : Ending) (w' : World) : Prop :=
  ∃ (A B : Option Addr) (c d : Nat) (gs : List (List Int)) (ts : List Reading), gapsOk gs = true ∧ ts.length ≤ 12 ∧ (∀ x ∈ ts, Reading.fits (gs.length : Int) x = true ∧ x.tick ≤ 8000) ∧ e = .returned (.tuple #[.slice A gs.length c, .slice B ts.length d]) ∧ SlII w' (.slice A gs.length c) gs ∧ SlReading w' (.slice B ts.length d) ts ∧ Below w.heap.size w w'
theorem specRead_any (v : Value) (bs : List Int) (w : World) (hv : SlB w v bs) (hl : bs.length ≤ 1048576) : Calls Try.prog 20 #[v] w (ReadPost w) := by
  have HV := Lib.hid hv
  clear hv
  go_enter Try.func20, Try.ntmps20
  go_wp2_with fail
  refine (from_any v bs _ HV.out hl).mono ?_
  rintro e w1 ⟨rfl, hs1, hb1⟩
  have HS1 := Lib.hid hs1; have HB1 := Lib.hid hb1
  have hgl : w.heap.size < w1.heap.size := Nat.lt_of_lt_of_le hs1.gh hs1.hw
  clear hs1 hb1
  go_wp2_with fail
  refine (drawGaps_any _ _ _ _ HS1.out (by omega)).mono ?_
  rintro e w2 ⟨A, n, c, us, gs, hok, rfl, ho2, hs2, hg2⟩
  have HS2 := Lib.hid hs2; have HG2 := Lib.hid hg2; have HO2 := Lib.hid ho2; have HOK := Lib.hid hok; have HLN := Lib.hid ho2.len
  clear hs2 hg2 ho2 hok
  go_wp2_with fail
  refine (draw_any _ _ _ w1.heap.size n c A us gs _ HS2.out (by omega) HO2.out hgl HOK.out).mono ?_
  rintro e w3 ⟨B, m, d, ts, ⟨hm, hfit⟩, rfl, htl, ho3, hs3, hg3⟩
  have HSG : Hid (SlII w3 (.slice A n c) gs) := Lib.hid (HO2.out.gr1 hg3 hgl).sl
  have HST : Hid (SlReading w3 (.slice B m d) ts) := Lib.hid (by have := ho3.sl; rw [← htl] at this ⊢; exact this)
  have HB3 : Hid (Below w.heap.size w w3) := Lib.hid (GrS.belowNew (HG2.out.trans hg3) (Nat.le_refl _) HB1.out)
  have HF := Lib.hid hfit
  clear ho3 hs3 hg3 hfit
  go_wp2
  go_ret2
  have e1 := HLN.out
  subst e1 htl
  exact ⟨A, B, c, d, gs, ts, HOK.out, hm, HF.out, rfl, HSG.out, HST.out, HB3.out⟩

theorem fits_tick {m : Int} {r : Reading} (h : Reading.fits m r = true) : 0 ≤ r.tick := (Reading.fitsd h).2.1
theorem readsOk_one {gs : List (List Int)} {r : Reading} (hg : gapsOk gs = true) (h : Reading.fits (gs.length : Int) r = true) : readsOk gs [r] = true := by simp [readsOk, hg, h]
theorem readsOk_two {gs : List (List Int)} {r s : Reading} (hg : gapsOk gs = true) (h : Reading.fits (gs.length : Int) r = true) (h' : Reading.fits (gs.length : Int) s = true) : readsOk gs [r, s] = true := by simp [readsOk, hg, h, h']
/-- what a reading before the last sensor tells -/
theorem next_tells {gs : List (List Int)} {r : Reading} (hg : gapsOk gs = true) (hf : Reading.fits (gs.length : Int) r = true) (ht : r.tick ≤ 8000) (hs : r.sensor ≠ (gs.length : Int)) :
    ∃ lo hi : Int, 0 ≤ lo ∧ lo ≤ hi ∧ hi ≤ 1000 ∧ nsR gs r = (r.tick + lo, r.tick + hi, 0) ∧ ∀ x : Int, 0 ≤ x → x < 20 → mfR gs r ⟨r.sensor + 1, r.tick + x⟩ = (inB x lo hi, 0) ∧ mfR gs r ⟨r.sensor, r.tick + x⟩ = (false, 0) := by
  obtain ⟨⟨h1, h2⟩, h3, h4⟩ := Reading.fitsd hf
  have hk : r.sensor.toNat < gs.length := by omega
  have hok := gapsOk_at hg _ hk
  have hbd := gapOk_bd hok
  have hlen := gapOk_len hok
  have hq : gs[r.sensor.toNat]? = some gs[r.sensor.toNat] := List.getElem?_eq_getElem hk
  generalize gs[r.sensor.toNat] = g at hok hbd hlen hq
  match g, hlen with
  | [lo, hi], _ =>
    dsimp at hbd
    refine ⟨lo, hi, hbd.1, hbd.2.1, hbd.2.2, ?_, fun x hx0 hx1 => ⟨?_, ?_⟩⟩
    · unfold nsR; rw [if_pos (readsOk_one hg hf), if_neg hs, hq]; rfl
    · have hf2 : Reading.fits (gs.length : Int) ⟨r.sensor + 1, r.tick + x⟩ = true := by
        simp only [Reading.fits, Bool.and_eq_true, inB_iff]; refine ⟨⟨?_, ?_⟩, ?_, ?_⟩ <;> omega
      unfold mfR; rw [if_pos (readsOk_two hg hf hf2)]
      unfold mayP
      dsimp only
      rw [hq, show (r.sensor + 1 == r.sensor + 1) = true by simp, show r.tick + x - r.tick = x by omega]
      rfl
    · have hf2 : Reading.fits (gs.length : Int) ⟨r.sensor, r.tick + x⟩ = true := by
        simp only [Reading.fits, Bool.and_eq_true, inB_iff]; refine ⟨⟨?_, ?_⟩, ?_, ?_⟩ <;> omega
      unfold mfR; rw [if_pos (readsOk_two hg hf hf2)]
      unfold mayP
      dsimp only
      rw [show (r.sensor == r.sensor + 1) = false by simp; omega]
      rfl
theorem next_last {gs : List (List Int)} {r : Reading} (hg : gapsOk gs = true) (hf : Reading.fits (gs.length : Int) r = true) (hs : r.sensor = (gs.length : Int)) : nsR gs r = (0, 0, 3) := by
  unfold nsR; rw [if_pos (readsOk_one hg hf), if_pos hs]
end Go.Proofs.Ytlgeddbgbcineaa
