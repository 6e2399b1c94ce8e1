/-
Carriers in halls: counts and rooms of a state, plainly; isDone, moved, inHalls, isState of the program. Condition: the slices read as lists.
-/
import Derived.Test.YtegabdhmfemgkaaPolB
import Derived.Test.YtegabdhmfemgkaaGrs
namespace Go.Proofs.Ytegabdhmfemgkaa
open Go.RowKit
set_option linter.unusedVariables false

/-- the hall in which carrier k is -/
def hallK (ways : List (List Int)) (pl : List Int) (k : Nat) : Int := hallP (ways.getD k []) (plc pl k)
/-- how many of the first n carriers are in hall h -/
def cntF (ways : List (List Int)) (pl : List Int) : Nat → Nat → Int
  | 0, _ => 0
  | n + 1, h => cntF ways pl n h + (if hallK ways pl n = (h : Int) then 1 else 0)
def allF (ways : List (List Int)) (pl : List Int) : Nat → Int
  | 0 => 0
  | n + 1 => allF ways pl n + (if 0 ≤ hallK ways pl n then 1 else 0)
def cntL (m : Nat) (ways : List (List Int)) (pl : List Int) (n : Nat) : List Int := (List.range m).map (cntF ways pl n)
theorem cntL_len (m : Nat) (ways : List (List Int)) (pl : List Int) (n : Nat) : (cntL m ways pl n).length = m := by simp [cntL]
theorem cntL_zero (m : Nat) (ways : List (List Int)) (pl : List Int) : cntL m ways pl 0 = List.replicate m 0 := by
  unfold cntL
  have : cntF ways pl 0 = fun _ => 0 := by funext h; rfl
  rw [this]; exact List.eq_replicate_iff.2 ⟨by simp, by simp⟩
theorem cntL_get {m h : Nat} {ways : List (List Int)} {pl : List Int} {n : Nat} (hh : h < (cntL m ways pl n).length) : (cntL m ways pl n)[h] = cntF ways pl n h := by simp [cntL]
theorem cntL_no {m : Nat} {ways : List (List Int)} {pl : List Int} {n : Nat} (h : hallK ways pl n < 0) : cntL m ways pl (n + 1) = cntL m ways pl n := by
  unfold cntL
  apply List.map_congr_left
  intro a _
  show cntF ways pl n a + _ = _
  rw [if_neg (by omega)]; omega
theorem cntL_yes {m h : Nat} {ways : List (List Int)} {pl : List Int} {n : Nat} (hh : hallK ways pl n = (h : Int)) (u : Int) (hu : u = cntF ways pl n h + 1) : (cntL m ways pl n).set h u = cntL m ways pl (n + 1) := by
  apply List.ext_getElem
  · simp [cntL]
  · intro i h1 h2
    rw [List.getElem_set]
    simp only [cntL, List.getElem_map, List.getElem_range]
    show _ = cntF ways pl n i + _
    by_cases e : h = i
    · subst e; rw [if_pos rfl, if_pos hh, hu]
    · rw [if_neg e, if_neg (by omega)]; omega
theorem cntF_bd (ways : List (List Int)) (pl : List Int) (n h : Nat) : 0 ≤ cntF ways pl n h ∧ cntF ways pl n h ≤ (n : Int) := by
  induction n with
  | zero => exact ⟨Int.le_refl _, Int.le_refl _⟩
  | succ n ih =>
    show 0 ≤ cntF ways pl n h + _ ∧ cntF ways pl n h + _ ≤ _
    split <;> omega
theorem allF_bd (ways : List (List Int)) (pl : List Int) (n : Nat) : 0 ≤ allF ways pl n ∧ allF ways pl n ≤ (n : Int) := by
  induction n with
  | zero => exact ⟨Int.le_refl _, Int.le_refl _⟩
  | succ n ih =>
    show 0 ≤ allF ways pl n + _ ∧ allF ways pl n + _ ≤ _
    split <;> omega
theorem hallP_in {m : Nat} {way : List Int} (h : wayOk m way = true) (p : Int) : hallP way p = -1 ∨ ∃ q : Nat, q < m ∧ hallP way p = (q : Int) := by
  unfold hallP
  split
  · exact Or.inl rfl
  · rename_i hn
    obtain ⟨hl, hin⟩ := wayOk_at h
    have hk : (p - 1).toNat < way.length := by omega
    have := hin _ (List.getElem_mem hk)
    refine Or.inr ⟨(way[(p - 1).toNat]).toNat, by omega, ?_⟩
    simp only [List.getD_eq_getElem?_getD, List.getElem?_eq_getElem hk, Option.getD_some]
    omega
theorem hallK_in {m : Nat} {ways : List (List Int)} (h : ∀ way ∈ ways, wayOk m way = true) (pl : List Int) {k : Nat} (hk : k < ways.length) : hallK ways pl k = -1 ∨ ∃ q : Nat, q < m ∧ hallK ways pl k = (q : Int) := by
  unfold hallK
  have : ways.getD k [] = ways[k] := by simp [List.getD_eq_getElem?_getD, hk]
  rw [this]
  exact hallP_in (h _ (List.getElem_mem hk)) _
theorem hallK_at {ways : List (List Int)} (pl : List Int) {k : Nat} (hk : k < ways.length) : hallP ways[k] (plc pl k) = hallK ways pl k := by
  unfold hallK
  rw [show ways.getD k [] = ways[k] by simp [List.getD_eq_getElem?_getD, hk]]
theorem BoxT.exB {W W' : World} {g B : Nat} {x y : Value} {m : Int} {pl : List Int} (h : BoxT W g x y m pl) (hb : Below B W W') (hB : g + 2 ≤ B) : BoxT W' g x y m pl :=
  have hl := h.lt
  ⟨Nat.lt_of_lt_of_le h.lt hb.size, (hb.cell (p := ⟨g, 0, none⟩) (by simp; omega)).trans h.c0, (hb.cell (p := ⟨g, 1, none⟩) (by simp; omega)).trans h.c1, (hb.cell (p := ⟨g, 2, none⟩) (by simp; omega)).trans h.c2, fun k hk => (hb.cell (p := ⟨g + 1, k, none⟩) (by simp; omega)).trans (h.s k hk)⟩

set_option maxHeartbeats 1000000 in
theorem isDone_any (v u : Value) (halls : List Int) (ways : List (List Int)) (most : Int) (pl : List Int) (c : Nat) (w : World) (hv : SlI w v halls) (hu : SlII w u ways) (hc : c < ways.length) (h4 : ways.length ≤ 4) :
    Calls Try.prog 105 #[.agg #[v, u, .int .i64 most], stV pl, .int .i64 c] w fun e w' => e = .returned (.bool (decide ((ways[c].length : Int) < plc pl c))) ∧ Below w.heap.size w w' := by
  obtain ⟨A, d, rfl, hla, ha⟩ := hv.op
  obtain ⟨B, f, rfl, hlb, hat⟩ := hu.op
  obtain ⟨b, o, A', c', rfl, hbs, hcell, hrow⟩ := hat c hc
  clear hv hu ha hat hrow
  unfold stV
  have HB := Lib.hid (below_alloc2 w (.cells #[.slice A halls.length d, .slice (some ⟨b, o, none⟩) ways.length f, .int .i64 most] 69) (.cells #[.int .i64 (plc pl 0), .int .i64 (plc pl 1), .int .i64 (plc pl 2), .int .i64 (plc pl 3)] 86))
  have hq := boxT w (.slice A halls.length d) (.slice (some ⟨b, o, none⟩) ways.length f) most pl 69 86
  have hq1 := hq.c1
  have hq3 := hq.s c (by omega)
  have hp := (HB.out.cell (p := ⟨b, o + c, none⟩) hbs).trans hcell
  have hc4 : (c : Int) < 4 := by omega
  have hc4n : c < 4 := by omega
  have hci : (c : Int) < (ways.length : Int) := by omega
  generalize plc pl c = p at hq3
  generalize ways[c].length = L at hp
  clear hq hcell
  go_enter Try.func105, Try.ntmps105
  go_wp2
  go_region
  go_wp2
  go_ret
  exact ⟨rfl, HB.out.drew⟩

theorem stV_set (pl : List Int) (c : Nat) (hc : c < pl.length) (x : Int) (k : Nat) : plc (pl.set c x) k = if k = c then x else plc pl k := by
  unfold plc
  by_cases h : k = c
  · subst h; simp [List.getD_eq_getElem?_getD, hc]
  · rw [if_neg h]
    simp only [List.getD_eq_getElem?_getD]
    rw [List.getElem?_set_ne (by omega)]

set_option maxHeartbeats 1000000 in
theorem moved_any (pl : List Int) (c : Nat) (w : World) (hc : c < pl.length) (h4 : c < 4) (h0 : 0 ≤ plc pl c) (h1 : plc pl c ≤ 1000) :
    Calls Try.prog 78 #[stV pl, .int .i64 c] w fun e w' => e = .returned (stV (pl.set c (plc pl c + 1))) ∧ Below w.heap.size w w' := by
  have E : Hid (∀ k, plc (pl.set c (plc pl c + 1)) k = if k = c then plc pl c + 1 else plc pl k) := Lib.hid (stV_set pl c hc _)
  unfold stV
  have HB := Lib.hid (below_alloc2 w (.cells #[.int .i64 (plc pl 0), .int .i64 (plc pl 1), .int .i64 (plc pl 2), .int .i64 (plc pl 3)] 86) (.cells #[.int .i64 0, .int .i64 0, .int .i64 0, .int .i64 0] 86))
  match c, h4 with
  | 0, _ =>
    rw [E.out, E.out, E.out, E.out]
    go_enter Try.func78, Try.ntmps78
    go_wp2
    refine bodyPost_ret (v := .agg #[.int .i64 (plc pl 0 + 1), .int .i64 (plc pl 1), .int .i64 (plc pl 2), .int .i64 (plc pl 3)]) (by simp [results, Try.results78, go_sem]) rfl ⟨rfl, below_alloc2 _ _ _⟩
  | 1, _ =>
    rw [E.out, E.out, E.out, E.out]
    go_enter Try.func78, Try.ntmps78
    go_wp2
    refine bodyPost_ret (v := .agg #[.int .i64 (plc pl 0), .int .i64 (plc pl 1 + 1), .int .i64 (plc pl 2), .int .i64 (plc pl 3)]) (by simp [results, Try.results78, go_sem]) rfl ⟨rfl, below_alloc2 _ _ _⟩
  | 2, _ =>
    rw [E.out, E.out, E.out, E.out]
    go_enter Try.func78, Try.ntmps78
    go_wp2
    refine bodyPost_ret (v := .agg #[.int .i64 (plc pl 0), .int .i64 (plc pl 1), .int .i64 (plc pl 2 + 1), .int .i64 (plc pl 3)]) (by simp [results, Try.results78, go_sem]) rfl ⟨rfl, below_alloc2 _ _ _⟩
  | 3, _ =>
    rw [E.out, E.out, E.out, E.out]
    go_enter Try.func78, Try.ntmps78
    go_wp2
    refine bodyPost_ret (v := .agg #[.int .i64 (plc pl 0), .int .i64 (plc pl 1), .int .i64 (plc pl 2), .int .i64 (plc pl 3 + 1)]) (by simp [results, Try.results78, go_sem]) rfl ⟨rfl, below_alloc2 _ _ _⟩
  | n + 4, h => omega

set_option maxHeartbeats 1000000 in
theorem inHalls_any (v u : Value) (halls : List Int) (ways : List (List Int)) (most : Int) (pl : List Int) (w : World) (hv : SlI w v halls) (hu : SlII w u ways) (h6 : halls.length ≤ 6) (h4 : ways.length ≤ 4) (hway : ∀ way ∈ ways, wayOk halls.length way = true) :
    Calls Try.prog 104 #[.agg #[v, u, .int .i64 most], stV pl] w fun e w' => (∃ A c, e = .returned (.tuple #[.slice A halls.length c, .int .i64 (allF ways pl ways.length)]) ∧ OwI w' w.heap.size (.slice A halls.length c) (cntL halls.length ways pl ways.length)) ∧ Below w.heap.size w w' := by
  have HV := Lib.hid hv; have HU := Lib.hid hu
  obtain ⟨A, d, rfl, hla, ha⟩ := hv.op
  obtain ⟨B, f, rfl, hlb, hat⟩ := hu.op
  clear hv hu ha hat
  unfold stV
  have HB := Lib.hid (below_alloc2 w (.cells #[.slice A halls.length d, .slice B ways.length f, .int .i64 most] 69) (.cells #[.int .i64 (plc pl 0), .int .i64 (plc pl 1), .int .i64 (plc pl 2), .int .i64 (plc pl 3)] 86))
  have HQ := Lib.hid (boxT w (.slice A halls.length d) (.slice B ways.length f) most pl 69 86)
  have hc0 := HQ.out.c0; have hc1 := HQ.out.c1
  have HHO := fun (c : Nat) (W : World) (hW : Below w.heap.size w W) (hc : c < ways.length) => hallOf_any _ _ halls ways most pl c W (HV.out.ex hW) (HU.out.ex hW) hc h4
  unfold stV at HHO
  have HHO := Lib.hid HHO
  have HKI : Hid (∀ c, c < ways.length → hallK ways pl c = -1 ∨ ∃ q : Nat, q < halls.length ∧ hallK ways pl c = (q : Int)) := Lib.hid fun c hc => hallK_in hway pl hc
  clear hway
  go_enter Try.func104, Try.ntmps104
  go_wp2_with (at_make; refine wpList_make1 _ rfl (.tmp 12) (.tmp 12) _ rfl (w.heap.size + 2) 2 (.int .i64 0) 8 Try.underlying31 infoI64 rfl .i64 .i64 halls.length ?_ ?_ (by omega) (by omega) (by simp) ?_; rfl; rfl; intro w1 hown hb1 hsz; have hq1 := HQ.out.ex hb1; have HQ1 := Lib.hid hq1; have h1c1 := hq1.c1; have HB1 := Lib.hid (below_next0 HB.out hb1); have HB1' := Lib.hid (hb1.mono (B' := w.heap.size + 2) (by simp)); have HO1 : Hid (OwI w1 (w.heap.size + 2) (.slice (some ⟨w.heap.size + 1 + 1, 0, none⟩) halls.length halls.length) (cntL halls.length ways pl 0)) := Lib.hid (by unfold OwI; rw [cntL_len, cntL_zero, List.map_replicate]; simpa using hown); clear hown hq1 hb1 hsz)
  go_loopw [7, 17] (fun al i wr => ∃ k : Nat, k ≤ ways.length ∧ i = .int .i64 k ∧ al = .int .i64 (allF ways pl k) ∧ OwI wr (w.heap.size + 2) (.slice (some ⟨w.heap.size + 1 + 1, 0, none⟩) halls.length halls.length) (cntL halls.length ways pl k) ∧ BoxT wr w.heap.size (.slice A halls.length d) (.slice B ways.length f) most pl ∧ Below w.heap.size w wr) (fun _ i _ => ways.length - (intOf i).toNat)
  case atStart => exact ⟨0, Nat.zero_le _, rfl, rfl, HO1.out, HQ1.out, HB1.out⟩
  case round =>
    obtain ⟨k, hk, rfl, rfl, hown, hbx, hb⟩ := hrel
    have HOW := Lib.hid hown; have HBX := Lib.hid hbx; have HB2 := Lib.hid hb
    have hb0 := hbx.c0; have hb1 := hbx.c1; have hb2 := hbx.c2
    have hs0 := hbx.s 0 (by omega); have hs1 := hbx.s 1 (by omega); have hs2 := hbx.s 2 (by omega); have hs3 := hbx.s 3 (by omega)
    clear hown hbx hb
    by_cases hlt : k < ways.length
    · have hki : (k : Int) < (ways.length : Int) := by omega
      have HC := Lib.hid (HHO.out k wr HB2.out hlt)
      have hab := allF_bd ways pl k
      have HKA := Lib.hid (hallK_at pl hlt)
      rw [HKA.out] at HC
      go_wp2_with fail
      refine HC.out.mono ?_
      rintro e w2 ⟨rfl, hbc⟩
      have HBC := Lib.hid hbc
      have HOW2 := Lib.hid (HOW.out.ex hbc)
      have HBX2 := Lib.hid (HBX.out.ex hbc)
      have HB3 := Lib.hid (below_next0 HB2.out hbc)
      clear hbc hb0 hb1 hb2 hs0 hs1 hs2 hs3 HC
      rcases HKI.out k hlt with hk1 | ⟨q, hq, hkq⟩
      · have HE := Lib.hid (cntL_no (m := halls.length) (show hallK ways pl k < 0 by omega))
        have HA : Hid (allF ways pl (k + 1) = allF ways pl k) := Lib.hid (by show allF ways pl k + _ = _; rw [if_neg (by omega)]; omega)
        rw [hk1]
        clear hk1 hab
        go_wp2
        go_roundw
        case rel => exact ⟨k + 1, by omega, by go_num, by rw [HA.out], by rw [HE.out]; exact HOW2.out, HBX2.out, HB3.out⟩
        case measure => simp [intOf]; omega
      · have hl := cntL_len halls.length ways pl k
        have hcq := HOW2.out
        unfold OwI at hcq
        have hcell : w2.cell? ⟨w.heap.size + 1 + 1, q, none⟩ = some (.int .i64 (cntF ways pl k q)) := by
          have h1 := Ow.cell (c := halls.length) (by rw [hl] at hcq; exact hcq) (k := q) (by simp [hl]; exact hq)
          rw [h1]; simp [cntL]
        have hfz : w2.frozen? ⟨w.heap.size + 1 + 1, q, none⟩ = false := Ow.free (c := halls.length) (by rw [hl] at hcq; exact hcq) q
        have HE := Lib.hid (cntL_yes (m := halls.length) hkq _ rfl)
        have HA : Hid (allF ways pl (k + 1) = allF ways pl k + 1) := Lib.hid (by show allF ways pl k + _ = _; rw [if_pos (by omega)])
        have hcb := cntF_bd ways pl k q
        have HS : Hid (OwI (w2.setCell ⟨w.heap.size + 1 + 1, q, none⟩ (.int .i64 (cntF ways pl k q + 1))) (w.heap.size + 2) (.slice (some ⟨w.heap.size + 1 + 1, 0, none⟩) halls.length halls.length) (cntL halls.length ways pl (k + 1))) := Lib.hid (by
          have h1 := OwI.set (c := halls.length) (xs := cntL halls.length ways pl k) (by rw [hl]; exact HOW2.out) q (cntF ways pl k q + 1)
          rw [HE.out, hl] at h1; exact h1)
        have HG : Hid (Below (w.heap.size + 1 + 1) w2 (w2.setCell ⟨w.heap.size + 1 + 1, q, none⟩ (.int .i64 (cntF ways pl k q + 1)))) := Lib.hid ((Below.refl _ _).setCell (p := ⟨w.heap.size + 1 + 1, q, none⟩) (Nat.le_refl _) _)
        have HBX3 := Lib.hid (HBX2.out.exB HG.out (by omega))
        have HB4 := Lib.hid (HB3.out.trans (HG.out.mono (by omega)))
        have hqi : (q : Int) < (halls.length : Int) := by omega
        have hqz : (0 : Int) ≤ (q : Int) := by omega
        rw [hkq]
        clear hkq hcq hl hq
        generalize cntF ways pl k q = z at hcell HS HG HBX3 HB4 hcb
        go_wp2
        go_roundw
        case rel => exact ⟨k + 1, by omega, by go_num, by rw [HA.out], HS.out, HBX3.out, HB4.out⟩
        case measure => simp [intOf]; omega
    · have hkn : k = ways.length := by omega
      subst hkn
      go_wp2
      go_ret2
      exact ⟨⟨_, _, rfl, (HOW.out).mono (by omega)⟩, HB2.out⟩
end Go.Proofs.Ytegabdhmfemgkaa
