/-
LostOn of the program and of the reference: the same counts. Condition: the slices read as lists.
-/
import Derived.Test.YtlgeddbgbcineaaSensG
namespace Go.Proofs.Ytlgeddbgbcineaa
open Go.RowKit
set_option linter.unusedVariables false

theorem OwI.drewN {w : World} {lo : Nat} {v : Value} {xs : List Int} (h : OwI w lo v xs) (k : Nat) : OwI (w.drewN k) lo v xs := Ow.drewN h k
theorem owI_nilT (w : World) (lo : Nat) : OwI w lo (.slice none 0 0) [] := ⟨World.ownsRow_nil _ _ _ _, by simp⟩

set_option maxRecDepth 100000 in
set_option maxHeartbeats 4000000 in
theorem implLost_any (v u t : Value) (gs : List (List Int)) (ts : List Reading) (tr : List (List Int)) (w : World) (hv : SlII w v gs) (hu : SlReading w u ts) (ht : SlII w t tr) :
    Calls Try.prog 42 #[v, u, t] w fun e w' => ∃ A c, e = .returned (.tuple #[.slice A (lostR gs ts tr).1.length c, .int .i64 (lostR gs ts tr).2]) ∧ OwI w' w.heap.size (.slice A (lostR gs ts tr).1.length c) (lostR gs ts tr).1 ∧ Below w.heap.size w w' := by
  have HV := Lib.hid hv; have HU := Lib.hid hu; have HT := Lib.hid ht
  obtain ⟨Ag, cg, rfl, hlg, _⟩ := hv.op
  obtain ⟨Ar, cr, rfl, hlr, har⟩ := hu.op
  obtain ⟨At, ct, rfl, hlt0, hat⟩ := ht.op
  have HAR := Lib.hid har; have HAT := Lib.hid hat
  clear hv hu ht har hat
  have HNIL := Lib.hid (fun w' : World => owI_nilT w' w.heap.size)
  have HR : Hid (lostR gs ts tr = if codeT gs ts tr = 0 then (if areP gs ts tr = true then (lostS gs.length ts tr tr.length, 0) else ([], 9)) else ([], codeT gs ts tr)) := Lib.hid rfl
  have HOK := Lib.hid (codeT_ok (gs := gs) (ts := ts) (tr := tr))
  go_enter Try.func42, Try.ntmps42
  go_wp2_with fail
  refine (tracksCode_any _ _ _ gs ts tr _ HV.out HU.out HT.out).mono ?_
  rintro e w0 ⟨rfl, hb0⟩
  have HB0 := Lib.hid hb0
  clear hb0
  generalize codeT gs ts tr = cd at HR HOK
  by_cases hz : cd = 0
  · obtain ⟨h1, h2⟩ := HOK.out hz
    obtain ⟨hgk, h14, hfit⟩ := readsOk_ok h1
    have hg8 : gs.length < 8 := by simp only [gapsOk, Bool.and_eq_true, decide_eq_true_eq] at hgk; exact hgk.2
    have HFIT := Lib.hid hfit
    have HIX := Lib.hid (idxOk_at h2)
    have HC := Lib.hid (areTracks_any _ _ _ gs ts tr w0 (HV.out.ex HB0.out) (HU.out.ex HB0.out) (HT.out.ex HB0.out) h1 h2)
    rw [if_pos hz] at HR
    subst hz
    clear h1 h2 hgk hfit
    go_wp2_with fail
    refine HC.out.mono ?_
    rintro e w1 ⟨rfl, hb1⟩
    have HB1 := Lib.hid (below_next0 HB0.out hb1)
    clear hb1
    cases hare : areP gs ts tr with
    | false =>
      have E2 : Hid (lostR gs ts tr = ([], 9)) := Lib.hid (by rw [HR.out, hare]; rfl)
      clear hare
      go_wp2
      go_ret2
      exact ⟨none, 0, by rw [E2.out]; rfl, by rw [E2.out]; exact HNIL.out _, HB1.out⟩
    | true =>
      have E2 : Hid (lostR gs ts tr = (lostS gs.length ts tr tr.length, 0)) := Lib.hid (by rw [HR.out, hare]; rfl)
      have HARE := Lib.hid (are_true hare)
      have HLM : Hid (∀ t ∈ tr, lastS ts t ≤ gs.length) := Lib.hid fun t ht => by
        have hne := (HARE.out.1 t ht).1
        have hln : t.length - 1 < t.length := by
          rcases Nat.eq_zero_or_pos t.length with h | h
          · exact absurd (List.eq_nil_of_length_eq_zero h) hne
          · omega
        unfold lastS
        rw [show t.getD (t.length - 1) 0 = t[t.length - 1] from by simp [List.getD_eq_getElem?_getD, hln]]
        obtain ⟨hx0, hx1⟩ := HIX.out _ ht _ (List.getElem_mem hln)
        obtain ⟨ix, hix⟩ := Int.eq_ofNat_of_zero_le hx0
        rw [hix, rdg_at (by omega)]
        obtain ⟨⟨hs0, hs1⟩, -, -⟩ := Reading.fitsd (HFIT.out _ (List.getElem_mem (show ix < ts.length by omega)))
        omega
      clear hare
      have hnc : (gs.length : Int) + 1 = ((gs.length + 1 : Nat) : Int) := by omega
      generalize hn : gs.length + 1 = n at hnc
      have hn9 : n ≤ 8 := by omega
      have hlo1 := HB1.out.size
      go_wp2_with (with_reducible refine wpList_make1 _ rfl (.tmp 28) (.tmp 28) _ rfl w.heap.size 2 (.int .i64 0) 8 Try.underlying49 infoI rfl _ _ n rfl rfl (by omega) (by omega) HB1.out.size ?_; intro w2 hown hb hsz)
      have HOW : Hid (OwI w2 w.heap.size (.slice (some ⟨w1.heap.size, 0, none⟩) n n) (lostI gs.length ts tr 0)) := Lib.hid (by
        unfold OwI lostI
        rw [List.take_zero, List.foldl_nil, List.length_replicate, List.map_replicate, hn]; exact hown)
      have HB2 := Lib.hid (below_next0 HB1.out hb)
      clear hown hb
      go_wp2
      go_loopw [11, 32] (fun _ i wr => ∃ m : Nat, m ≤ tr.length ∧ i = .int .i64 (m : Int) ∧ OwI wr w.heap.size (.slice (some ⟨w1.heap.size, 0, none⟩) n n) (lostI gs.length ts tr m) ∧ Below w.heap.size w wr) (fun _ i _ => tr.length - (intOf i).toNat)
      case atStart => exact ⟨0, Nat.zero_le _, rfl, HOW.out, HB2.out⟩
      case round =>
      obtain ⟨m, hm, rfl, hown, hb⟩ := hrel
      by_cases hlt : m < tr.length
      · have hmi : (m : Int) < (tr.length : Int) := by omega
        obtain ⟨b, o, A', c', rfl, hbs, hc, hrow⟩ := HAT.out m hlt
        have HS : Hid (lostI gs.length ts tr (m + 1) = incL (lostI gs.length ts tr m) (lastS ts tr[m])) := Lib.hid (lostI_succ hlt)
        obtain ⟨hinv1, hinv2⟩ := lostI_inv (m := gs.length) (ts := ts) m (show m ≤ tr.length by omega)
        have HLST : Hid (lastS ts tr[m] = (rdg ts (tr[m].getD (tr[m].length - 1) 0)).sensor.toNat) := Lib.hid rfl
        have hne : tr[m] ≠ [] := (HARE.out.1 _ (List.getElem_mem hlt)).1
        have hln : tr[m].length - 1 < tr[m].length := by
          rcases Nat.eq_zero_or_pos tr[m].length with h | h
          · exact absurd (List.eq_nil_of_length_eq_zero h) hne
          · omega
        obtain ⟨hx0, hx1⟩ := HIX.out _ (List.getElem_mem hlt) _ (List.getElem_mem hln)
        obtain ⟨A2, c2, hveq, hla2, ha2⟩ := hrow.op
        injection hveq with hA2 _ hc2
        subst hA2 hc2
        obtain ⟨b2, o2, rfl, hbs2, hcc⟩ := ha2 _ hln
        have hx := (hb.cell (p := ⟨b2, o2 + (tr[m].length - 1), none⟩) hbs2).trans (hcc _ hln)
        rw [show tr[m].getD (tr[m].length - 1) 0 = tr[m][tr[m].length - 1] from by simp [List.getD_eq_getElem?_getD, hln]] at HLST
        have hcell := (hb.cell (p := ⟨b, o + m, none⟩) hbs).trans hc
        generalize tr[m][tr[m].length - 1] = x at hx hx0 hx1 HLST
        obtain ⟨ix, rfl⟩ := Int.eq_ofNat_of_zero_le hx0
        have hixl : ix < ts.length := by omega
        have hixi : (ix : Int) < (ts.length : Int) := by omega
        rw [rdg_at hixl] at HLST
        obtain ⟨br, or_, rfl, hbr, hr0, hr1⟩ := HAR.out ix hixl
        have hq0 := (hb.cell (p := ⟨br, or_ + ix * 2, none⟩) hbr).trans hr0
        have hq1 := (hb.cell (p := ⟨br, or_ + ix * 2 + 1, none⟩) hbr).trans hr1
        obtain ⟨⟨hs0, hs1⟩, -, -⟩ := Reading.fitsd (HFIT.out _ (List.getElem_mem hixl))
        have hTl : (0 : Int) ≤ (tr[m].length : Int) - 1 := by omega
        have hTn : ((tr[m].length : Int) - 1).toNat = tr[m].length - 1 := by omega
        have hTi : (tr[m].length : Int) - 1 < (tr[m].length : Int) := by omega
        generalize ts[ix].tick = r1 at hq1
        generalize lastS ts tr[m] = s at HLST HS
        generalize ts[ix].sensor = sx at hq0 hs0 hs1 HLST
        obtain ⟨s2, rfl⟩ := Int.eq_ofNat_of_zero_le hs0
        obtain rfl : s = s2 := by have := HLST.out; omega
        generalize tr[m].length = Lm at hcell hx hTl hTn hTi hla2
        clear HLST hrow hc hcc ha2 hr0 hr1 hln hne
        generalize lostI gs.length ts tr m = l at hown hinv1 hinv2 HS
        rw [hn] at hinv1
        have hjl : s < l.length := by omega
        have hadd : incL l s = l.set s (l[s] + 1) := by simp [incL, List.getD_eq_getElem?_getD, hjl]
        rw [hadd] at HS
        replace hown : OwI wr w.heap.size (.slice (some ⟨w1.heap.size, 0, none⟩) l.length n) l := by rw [hinv1]; exact hown
        have hcj := OwI.cell hown hjl
        have hfj := OwI.free hown s
        obtain ⟨hxj1, hxj2⟩ := hinv2 _ (List.getElem_mem hjl)
        have hn0 := OwI.set hown s (l[s] + 1)
        rw [hinv1] at hn0
        have HN := Lib.hid hn0
        have HB3 := Lib.hid (hb.setCell (p := ⟨w1.heap.size, s, none⟩) hlo1 (.int .i64 (l[s] + 1)))
        generalize l[s] = z at hcj hxj1 hxj2 HS HN HB3
        have hsi : (s : Int) < (n : Int) := by omega
        clear hown hb hinv2 hadd hn0
        go_wp2
        go_roundw
        case rel => exact ⟨m + 1, by omega, by go_num, by rw [HS.out]; exact HN.out, HB3.out⟩
        case measure => simp [intOf]; omega
      · have hmn : m = tr.length := by omega
        subst hmn
        have HEQ := Lib.hid (lost_eq (m := gs.length) (ts := ts) HLM.out tr.length (Nat.le_refl _))
        obtain ⟨hinv1, hinv2⟩ := lostI_inv (m := gs.length) (ts := ts) tr.length (Nat.le_refl _)
        have HLEN : Hid ((lostS gs.length ts tr tr.length).length = n) := Lib.hid (by rw [(lostS_inv (m := gs.length) (ts := ts) tr.length (Nat.le_refl _)).1, hn])
        rw [hn] at hinv1
        generalize lostI gs.length ts tr tr.length = l at hown hinv1 hinv2 HEQ
        replace hown : OwI wr w.heap.size (.slice (some ⟨w1.heap.size, 0, none⟩) l.length n) l := by rw [hinv1]; exact hown
        have hcj := OwI.cell hown (k := gs.length) (by omega)
        have hfj := OwI.free hown gs.length
        have hn0 := OwI.set hown gs.length 0
        rw [hinv1, HEQ.out] at hn0
        have HN := Lib.hid hn0
        have HB3 := Lib.hid (hb.setCell (p := ⟨w1.heap.size, gs.length, none⟩) hlo1 (.int .i64 0))
        have hgi : (gs.length : Int) < (n : Int) := by omega
        generalize l[gs.length]'(by omega) = z at hcj
        clear hown hb hn0 hinv2
        go_wp2
        go_ret2
        exact ⟨_, n, by rw [E2.out]; simp only [HLEN.out]; rfl, by rw [E2.out]; simp only [HLEN.out]; exact HN.out, HB3.out⟩
  · have hzb : (cd != 0) = true := by simpa using hz
    have hzc : (cd == 0) = false := by simpa using hz
    rw [if_neg hz] at HR
    clear hz
    go_wp2
    go_ret2
    exact ⟨none, 0, by rw [HR.out]; rfl, by rw [HR.out]; exact HNIL.out _, HB0.out⟩

set_option maxRecDepth 100000 in
set_option maxHeartbeats 4000000 in
theorem specLost_any (v u t : Value) (gs : List (List Int)) (ts : List Reading) (tr : List (List Int)) (w : World) (hv : SlII w v gs) (hu : SlReading w u ts) (ht : SlII w t tr) :
    Calls Try.prog 41 #[v, u, t] w fun e w' => ∃ A c, e = .returned (.tuple #[.slice A (lostR gs ts tr).1.length c, .int .i64 (lostR gs ts tr).2]) ∧ OwI w' w.heap.size (.slice A (lostR gs ts tr).1.length c) (lostR gs ts tr).1 ∧ Below w.heap.size w w' := by
  have HV := Lib.hid hv; have HU := Lib.hid hu; have HT := Lib.hid ht
  obtain ⟨Ag, cg, rfl, hlg, _⟩ := hv.op
  obtain ⟨Ar, cr, rfl, hlr, har⟩ := hu.op
  obtain ⟨At, ct, rfl, hlt0, hat⟩ := ht.op
  have HAR := Lib.hid har; have HAT := Lib.hid hat
  clear hv hu ht har hat
  have HNIL := Lib.hid (fun w' : World => owI_nilT w' w.heap.size)
  have HR : Hid (lostR gs ts tr = if codeT gs ts tr = 0 then (if areP gs ts tr = true then (lostS gs.length ts tr tr.length, 0) else ([], 9)) else ([], codeT gs ts tr)) := Lib.hid rfl
  have HOK := Lib.hid (codeT_ok (gs := gs) (ts := ts) (tr := tr))
  go_enter Try.func41, Try.ntmps41
  go_wp2_with fail
  refine (l14Code_any _ _ _ gs ts tr _ HV.out HU.out HT.out).mono ?_
  rintro e w0 ⟨rfl, hb0⟩
  have HB0 := Lib.hid hb0
  clear hb0
  generalize codeT gs ts tr = cd at HR HOK
  by_cases hz : cd = 0
  · obtain ⟨h1, h2⟩ := HOK.out hz
    obtain ⟨hgk, h14, hfit⟩ := readsOk_ok h1
    have hg8 : gs.length < 8 := by simp only [gapsOk, Bool.and_eq_true, decide_eq_true_eq] at hgk; exact hgk.2
    have HFIT := Lib.hid hfit
    have HIX := Lib.hid (idxOk_at h2)
    have HC := Lib.hid (l14Are_any _ _ _ gs ts tr w0 (HV.out.ex HB0.out) (HU.out.ex HB0.out) (HT.out.ex HB0.out) h1 h2)
    rw [if_pos hz] at HR
    subst hz
    clear h1 h2 hgk hfit
    go_wp2_with fail
    refine HC.out.mono ?_
    rintro e w1 ⟨rfl, hb1⟩
    have HB1 := Lib.hid (below_next0 HB0.out hb1)
    clear hb1
    cases hare : areP gs ts tr with
    | false =>
      have E2 : Hid (lostR gs ts tr = ([], 9)) := Lib.hid (by rw [HR.out, hare]; rfl)
      clear hare
      go_wp2
      go_ret2
      exact ⟨none, 0, by rw [E2.out]; rfl, by rw [E2.out]; exact HNIL.out _, HB1.out⟩
    | true =>
      have E2 : Hid (lostR gs ts tr = (lostS gs.length ts tr tr.length, 0)) := Lib.hid (by rw [HR.out, hare]; rfl)
      have HARE := Lib.hid (are_true hare)
      have HLM : Hid (∀ t ∈ tr, lastS ts t ≤ gs.length) := Lib.hid fun t ht => by
        have hne := (HARE.out.1 t ht).1
        have hln : t.length - 1 < t.length := by
          rcases Nat.eq_zero_or_pos t.length with h | h
          · exact absurd (List.eq_nil_of_length_eq_zero h) hne
          · omega
        unfold lastS
        rw [show t.getD (t.length - 1) 0 = t[t.length - 1] from by simp [List.getD_eq_getElem?_getD, hln]]
        obtain ⟨hx0, hx1⟩ := HIX.out _ ht _ (List.getElem_mem hln)
        obtain ⟨ix, hix⟩ := Int.eq_ofNat_of_zero_le hx0
        rw [hix, rdg_at (by omega)]
        obtain ⟨⟨hs0, hs1⟩, -, -⟩ := Reading.fitsd (HFIT.out _ (List.getElem_mem (show ix < ts.length by omega)))
        omega
      clear hare
      have hnc : (gs.length : Int) + 1 = ((gs.length + 1 : Nat) : Int) := by omega
      generalize hn : gs.length + 1 = n at hnc
      have hn9 : n ≤ 8 := by omega
      have hlo1 := HB1.out.size
      go_wp2_with (with_reducible refine wpList_make1 _ rfl (.tmp 30) (.tmp 30) _ rfl w.heap.size 2 (.int .i64 0) 8 Try.underlying49 infoI rfl _ _ n rfl rfl (by omega) (by omega) HB1.out.size ?_; intro w2 hown hb hsz)
      have HOW : Hid (OwI w2 w.heap.size (.slice (some ⟨w1.heap.size, 0, none⟩) n n) (lostS gs.length ts tr 0)) := Lib.hid (by
        unfold OwI lostS
        rw [List.take_zero, List.foldl_nil, List.length_replicate, List.map_replicate, hn]; exact hown)
      have HB2 := Lib.hid (below_next0 HB1.out hb)
      clear hown hb
      go_wp2
      go_loopw [10, 11] (fun i _ wr => ∃ m : Nat, m ≤ tr.length ∧ i = .int .i64 (m : Int) ∧ OwI wr w.heap.size (.slice (some ⟨w1.heap.size, 0, none⟩) n n) (lostS gs.length ts tr m) ∧ Below w.heap.size w wr) (fun i _ _ => tr.length - (intOf i).toNat)
      case atStart => exact ⟨0, Nat.zero_le _, rfl, HOW.out, HB2.out⟩
      case round =>
      obtain ⟨m, hm, rfl, hown, hb⟩ := hrel
      by_cases hlt : m < tr.length
      · have hmi : (m : Int) < (tr.length : Int) := by omega
        obtain ⟨b, o, A', c', rfl, hbs, hc, hrow⟩ := HAT.out m hlt
        have HS : Hid (lostS gs.length ts tr (m + 1) = if lastS ts tr[m] < gs.length then incL (lostS gs.length ts tr m) (lastS ts tr[m]) else lostS gs.length ts tr m) := Lib.hid (lostS_succ hlt)
        obtain ⟨hinv1, hinv2⟩ := lostS_inv (m := gs.length) (ts := ts) m (show m ≤ tr.length by omega)
        have HLST : Hid (lastS ts tr[m] = (rdg ts (tr[m].getD (tr[m].length - 1) 0)).sensor.toNat) := Lib.hid rfl
        have hne : tr[m] ≠ [] := (HARE.out.1 _ (List.getElem_mem hlt)).1
        have hln : tr[m].length - 1 < tr[m].length := by
          rcases Nat.eq_zero_or_pos tr[m].length with h | h
          · exact absurd (List.eq_nil_of_length_eq_zero h) hne
          · omega
        obtain ⟨hx0, hx1⟩ := HIX.out _ (List.getElem_mem hlt) _ (List.getElem_mem hln)
        obtain ⟨A2, c2, hveq, hla2, ha2⟩ := hrow.op
        injection hveq with hA2 _ hc2
        subst hA2 hc2
        obtain ⟨b2, o2, rfl, hbs2, hcc⟩ := ha2 _ hln
        have hx := (hb.cell (p := ⟨b2, o2 + (tr[m].length - 1), none⟩) hbs2).trans (hcc _ hln)
        rw [show tr[m].getD (tr[m].length - 1) 0 = tr[m][tr[m].length - 1] from by simp [List.getD_eq_getElem?_getD, hln]] at HLST
        have hcell := (hb.cell (p := ⟨b, o + m, none⟩) hbs).trans hc
        generalize tr[m][tr[m].length - 1] = x at hx hx0 hx1 HLST
        obtain ⟨ix, rfl⟩ := Int.eq_ofNat_of_zero_le hx0
        have hixl : ix < ts.length := by omega
        have hixi : (ix : Int) < (ts.length : Int) := by omega
        rw [rdg_at hixl] at HLST
        obtain ⟨br, or_, rfl, hbr, hr0, hr1⟩ := HAR.out ix hixl
        have hq0 := (hb.cell (p := ⟨br, or_ + ix * 2, none⟩) hbr).trans hr0
        have hq1 := (hb.cell (p := ⟨br, or_ + ix * 2 + 1, none⟩) hbr).trans hr1
        obtain ⟨⟨hs0, hs1⟩, -, -⟩ := Reading.fitsd (HFIT.out _ (List.getElem_mem hixl))
        have hTl : (0 : Int) ≤ (tr[m].length : Int) - 1 := by omega
        have hTn : ((tr[m].length : Int) - 1).toNat = tr[m].length - 1 := by omega
        have hTi : (tr[m].length : Int) - 1 < (tr[m].length : Int) := by omega
        generalize ts[ix].tick = r1 at hq1
        generalize lastS ts tr[m] = s at HLST HS
        generalize ts[ix].sensor = sx at hq0 hs0 hs1 HLST
        obtain ⟨s2, rfl⟩ := Int.eq_ofNat_of_zero_le hs0
        obtain rfl : s = s2 := by have := HLST.out; omega
        generalize tr[m].length = Lm at hcell hx hTl hTn hTi hla2
        clear HLST hrow hc hcc ha2 hr0 hr1 hln hne
        generalize lostS gs.length ts tr m = l at hown hinv1 hinv2 HS
        rw [hn] at hinv1
        by_cases hlow : s < gs.length
        · have hlowi : (s : Int) < (gs.length : Int) := by omega
          rw [if_pos hlow] at HS
          have hjl : s < l.length := by omega
          have hadd : incL l s = l.set s (l[s] + 1) := by simp [incL, List.getD_eq_getElem?_getD, hjl]
          rw [hadd] at HS
          replace hown : OwI wr w.heap.size (.slice (some ⟨w1.heap.size, 0, none⟩) l.length n) l := by rw [hinv1]; exact hown
          have hcj := OwI.cell hown hjl
          have hfj := OwI.free hown s
          obtain ⟨hxj1, hxj2⟩ := hinv2 _ (List.getElem_mem hjl)
          have hn0 := OwI.set hown s (l[s] + 1)
          rw [hinv1] at hn0
          have HN := Lib.hid (OwI.drewN hn0 0)
          have HST : Hid (∀ q, OwI ((wr.drewN q).setCell ⟨w1.heap.size, s, none⟩ (.int .i64 (l[s] + 1))) w.heap.size (.slice (some ⟨w1.heap.size, 0, none⟩) n n) (l.set s (l[s] + 1))) := Lib.hid fun q => by
            have h1 := OwI.set (OwI.drewN hown q) s (l[s] + 1)
            rw [hinv1] at h1; exact h1
          have HB3 := Lib.hid (fun q => (below_drewN hb q).setCell (p := ⟨w1.heap.size, s, none⟩) hlo1 (.int .i64 (l[s] + 1)))
          have HCJ := Lib.hid (fun q : Nat => show (wr.drewN q).cell? ⟨w1.heap.size, s, none⟩ = some (.int .i64 l[s]) from hcj)
          have HFJ := Lib.hid (fun q : Nat => show (wr.drewN q).frozen? ⟨w1.heap.size, s, none⟩ = false from hfj)
          generalize l[s] = z at hcj hxj1 hxj2 HS HN HB3 HST HCJ
          have hsi : (s : Int) < (n : Int) := by omega
          clear hown hb hinv2 hadd hn0 hcj hfj
          go_wp2
          go_quiet (fail)
          have hcj := HCJ.out nq; have hfj := HFJ.out nq
          go_wp2
          go_roundw
          case rel => exact ⟨m + 1, by omega, by go_num, by rw [HS.out]; exact HST.out nq, HB3.out nq⟩
          case measure => simp [intOf]; omega
        · have hlowi : ¬ (s : Int) < (gs.length : Int) := by omega
          rw [if_neg hlow] at HS
          have HOQ := Lib.hid hown; have HBQ := Lib.hid hb
          clear hown hb hinv2
          go_wp2
          go_quiet (fail)
          go_wp2
          go_roundw
          case rel => exact ⟨m + 1, by omega, by go_num, by rw [HS.out]; exact OwI.drewN HOQ.out nq, below_drewN HBQ.out nq⟩
          case measure => simp [intOf]; omega
      · have hmn : m = tr.length := by omega
        subst hmn
        have HLEN : Hid ((lostS gs.length ts tr tr.length).length = n) := Lib.hid (by rw [(lostS_inv (m := gs.length) (ts := ts) tr.length (Nat.le_refl _)).1, hn])
        have HN := Lib.hid hown
        clear hown
        go_wp2
        go_ret2
        exact ⟨_, n, by rw [E2.out]; simp only [HLEN.out]; rfl, by rw [E2.out]; simp only [HLEN.out]; exact HN.out, hb⟩
  · have hzb : (cd != 0) = true := by simpa using hz
    have hzc : (cd == 0) = false := by simpa using hz
    rw [if_neg hz] at HR
    clear hz
    go_wp2
    go_ret2
    exact ⟨none, 0, by rw [HR.out]; rfl, by rw [HR.out]; exact HNIL.out _, HB0.out⟩
end Go.Proofs.Ytlgeddbgbcineaa
