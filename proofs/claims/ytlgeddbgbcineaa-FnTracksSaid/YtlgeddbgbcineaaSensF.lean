/-
areTracks of the program, l14Are of the reference. Condition: the slices read as lists, valid readings, indices of readings.
-/
import Derived.Test.YtlgeddbgbcineaaSensE
import Derived.Test.YtlgeddbgbcineaaBools
namespace Go.Proofs.Ytlgeddbgbcineaa
open Go.RowKit
set_option linter.unusedVariables false


set_option maxRecDepth 100000 in
set_option maxHeartbeats 4000000 in
theorem l14Are_any (v u t : Value) (gs : List (List Int)) (ts : List Reading) (tr : List (List Int)) (w : World) (hv : SlII w v gs) (hu : SlReading w u ts) (ht : SlII w t tr) (hok : readsOk gs ts = true) (hid : idxOk ts.length tr = true) :
    Calls Try.prog 66 #[v, u, t] w fun e w' => e = .returned (.bool (areP gs ts tr)) ∧ Below w.heap.size w w' := by
  obtain ⟨Ag, cg, rfl, hlg, _⟩ := hv.op
  obtain ⟨Ar, cr, rfl, hlr, har⟩ := hu.op
  obtain ⟨At, ct, rfl, hlt0, hat⟩ := ht.op
  obtain ⟨hgk, h14, hfit⟩ := readsOk_ok hok
  have HV := Lib.hid hv; have HAR := Lib.hid har; have HAT := Lib.hid hat
  have HIX := Lib.hid (idxOk_at hid)
  have HFIT := Lib.hid hfit; have HGK := Lib.hid hgk
  have HMAY : Hid (∀ W (i j : Nat) (hi : i < ts.length) (hj : j < ts.length), Below w.heap.size w W → Calls Try.prog 60 #[.slice Ag gs.length cg, .agg #[.int .i64 ts[i].sensor, .int .i64 ts[i].tick], .agg #[.int .i64 ts[j].sensor, .int .i64 ts[j].tick]] W fun e w' => e = .returned (.bool (mayP gs ts[i] ts[j])) ∧ Below W.heap.size W w') :=
    Lib.hid fun W i j hi hj hW => l14May_any _ gs _ _ _ _ W (HV.out.ex hW) HGK.out (HFIT.out _ (List.getElem_mem hi)) (HFIT.out _ (List.getElem_mem hj))
  have HPL : Hid (∀ (i k : Nat), i < tr.length → (prefK tr i k).Nodup → (prefK tr i k).length ≤ ts.length) := Lib.hid fun i k hi hn => nodupI_len hn (prefK_mem hi HIX.out)
  clear hv hu ht har hat hok hid hfit hgk
  go_enter Try.func66, Try.ntmps66
  go_wp2_with (at_make; refine wpList_make1 _ rfl (.tmp 13) (.tmp 13) _ rfl w.heap.size 4 (.bool false) 1 Try.underlying84 infoB rfl .i64 .i64 ts.length ?_ ?_ (by omega) hlr (Nat.le_refl _) ?_; rfl; rfl; intro w1 hown hb hsz; have HO0 : Hid (Ow w1 w.heap.size 4 1 (.slice (some ⟨w.heap.size, 0, none⟩) ts.length ts.length) ts.length ((metL ts.length (prefK tr 0 0)).map Value.bool)) := Lib.hid (by rw [prefK_zero, List.take_zero, List.flatten_nil, metL_nil, List.map_replicate]; exact hown); have HB0 := Lib.hid hb; clear hown hb hsz)
  go_loopw [8, 9, 10, 11] (fun cnt i _ _ wr => ∃ m : Nat, m ≤ tr.length ∧ i = .int .i64 (m : Int) ∧ cnt = .int .i64 ((prefK tr m 0).length : Int) ∧ Ow wr w.heap.size 4 1 (.slice (some ⟨w.heap.size, 0, none⟩) ts.length ts.length) ts.length ((metL ts.length (prefK tr m 0)).map Value.bool) ∧ Hid ((prefK tr m 0).Nodup) ∧ Hid (∀ t ∈ tr.take m, t ≠ [] ∧ chainB gs ts t = true) ∧ Below w.heap.size w wr) (fun _ i _ _ _ => tr.length - (intOf i).toNat)
  case atStart => exact ⟨0, Nat.zero_le _, rfl, rfl, HO0.out, Lib.hid (by simp [prefK]), Lib.hid (by simp), HB0.out⟩
  case round =>
    obtain ⟨m, hm, rfl, rfl, hown, hnd, hch, hb⟩ := hrel
    have HOW := Lib.hid hown; have HB := Lib.hid hb
    clear hown hb
    by_cases hlt : m < tr.length
    · have hmi : (m : Int) < (tr.length : Int) := by omega
      obtain ⟨b, o, A', c', rfl, hbs, hc, hrow⟩ := HAT.out m hlt
      have hcell := (HB.out.cell (p := ⟨b, o + m, none⟩) hbs).trans hc
      have HC := Lib.hid hc
      have hle := hrow.le
      have HTL : Hid (∀ k, k < tr[m].length → ∃ b2 o2, A' = some ⟨b2, o2, none⟩ ∧ b2 < w.heap.size ∧ ∀ j (hj : j < tr[m].length), w.cell? ⟨b2, o2 + j, none⟩ = some (.int .i64 (tr[m][j]))) := Lib.hid (by
        obtain ⟨A2, c2, hveq, hla2, ha2⟩ := hrow.op
        injection hveq with hA2 _ hc2
        subst hA2 hc2
        exact ha2)
      have HEMP : Hid (tr[m].length = 0 → areP gs ts tr = false) := Lib.hid fun h => are_empty hlt h
      have HCHN : Hid (∀ k, k < tr[m].length → chK gs ts tr[m] k = false → areP gs ts tr = false) := Lib.hid fun k hk h => are_chain hlt hk h
      have HDUP : Hid (∀ k, ¬ (prefK tr m k).Nodup → areP gs ts tr = false) := Lib.hid fun k h => are_dup hlt h
      have HSUC : Hid (∀ k (hk : k < tr[m].length), prefK tr m (k + 1) = prefK tr m k ++ [tr[m][k]]) := Lib.hid fun k hk => prefK_succ hlt hk
      have HEND : Hid (prefK tr m tr[m].length = prefK tr (m + 1) 0) := Lib.hid (by rw [prefK_end hlt, prefK_zero])
      have HTM : Hid (∀ x ∈ tr[m], 0 ≤ x ∧ x < (ts.length : Int)) := Lib.hid (HIX.out _ (List.getElem_mem hlt))
      have HCHE : Hid (tr[m] ≠ [] → chainB gs ts tr[m] = true → ∀ t ∈ tr.take (m + 1), t ≠ [] ∧ chainB gs ts t = true) := Lib.hid fun h1 h2 t ht => by
        rw [List.take_succ_eq_append_getElem hlt] at ht
        rcases List.mem_append.1 ht with ht | ht
        · exact hch.out t ht
        · simp at ht; subst ht; exact ⟨h1, h2⟩
      have HPLM : Hid (∀ k, (prefK tr m k).Nodup → (prefK tr m k).length ≤ ts.length) := Lib.hid fun k h => HPL.out m k hlt h
      generalize tr[m] = Lt at hcell HTL HEMP HCHN HSUC HEND HTM HCHE hle HC
      clear hrow hc
      by_cases hz : Lt.length = 0
      · have HF := Lib.hid (HEMP.out hz)
        have hzb : ((Lt.length : Int) == 0) = true := by simp; exact List.eq_nil_of_length_eq_zero hz
        clear hz
        go_wp2
        go_ret
        exact ⟨ret_bool HF.out.symm, HB.out⟩
      · have hzb : ((Lt.length : Int) == 0) = false := by simp; exact fun h => hz (by rw [h]; rfl)
        have HNE : Hid (Lt ≠ []) := Lib.hid (by rintro rfl; exact hz rfl)
        clear hz
        go_wp2
        obtain ⟨wA, rfl⟩ : ∃ wA : World, wA = wr := ⟨_, rfl⟩
        clear hcell
        go_loopw [8, 10, 11] (fun cnt k _ wq => ∃ j : Nat, j ≤ Lt.length ∧ k = .int .i64 (j : Int) ∧ cnt = .int .i64 ((prefK tr m j).length : Int) ∧ Ow wq w.heap.size 4 1 (.slice (some ⟨w.heap.size, 0, none⟩) ts.length ts.length) ts.length ((metL ts.length (prefK tr m j)).map Value.bool) ∧ Hid ((prefK tr m j).Nodup) ∧ Hid (∀ i, i < j → chK gs ts Lt i = true) ∧ Below w.heap.size w wq) (fun _ k _ _ => Lt.length - (intOf k).toNat)
        case atStart => exact ⟨0, Nat.zero_le _, rfl, rfl, HOW.out, hnd, Lib.hid (fun i h => absurd h (Nat.not_lt_zero _)), HB.out⟩
        case round =>
          obtain ⟨j, hj, rfl, rfl, hown2, hnd2, hch2, hb2⟩ := hrel
          have HOW2 := Lib.hid hown2; have HB2 := Lib.hid hb2
          clear hown2 hb2
          have hcell2 := (HB2.out.cell (p := ⟨b, o + m, none⟩) hbs).trans HC.out
          by_cases hlj : j < Lt.length
          · have hji : (j : Int) < (Lt.length : Int) := by omega
            obtain ⟨b2, o2, rfl, hbs2, hcc⟩ := HTL.out j hlj
            have hx := (HB2.out.cell (p := ⟨b2, o2 + j, none⟩) hbs2).trans (hcc j hlj)
            have HSJ := Lib.hid (HSUC.out j hlj)
            obtain ⟨hx0, hx1⟩ := HTM.out _ (List.getElem_mem hlj)
            have HCJ := Lib.hid (HCHN.out j hlj)
            have hpl := HPLM.out j hnd2.out
            have HX : Hid (Lt[j] = Lt[j]) := Lib.hid rfl
            have hprev : j ≠ 0 → ∃ ip : Nat, ip < ts.length ∧ (∀ e, (plus wr e).cell? ⟨b2, o2 + (j - 1), none⟩ = some (.int .i64 (ip : Int))) ∧ ∀ (ix : Nat) (hix : ix < ts.length), Lt[j] = (ix : Int) → chK gs ts Lt j = mayP gs (rdg ts (ip : Int)) ts[ix] := fun h0 => by
              have hp := hcc (j - 1) (by omega)
              obtain ⟨hp0, hp1⟩ := HTM.out _ (List.getElem_mem (show j - 1 < Lt.length by omega))
              have hck := chK_pos (gs := gs) (ts := ts) h0 hlj
              obtain ⟨ip, hip⟩ := Int.eq_ofNat_of_zero_le hp0
              refine ⟨ip, by omega, cell_plus (by rw [← hip]; exact (HB2.out.cell (p := ⟨b2, o2 + (j - 1), none⟩) hbs2).trans hp), fun ix hix he => ?_⟩
              rw [hck, he, rdg_at hix, hip]
            generalize hxx : Lt[j] = x at hx hx0 hx1 HSJ hprev
            obtain ⟨ix, rfl⟩ := Int.eq_ofNat_of_zero_le hx0
            have hixl : ix < ts.length := by omega
            have hxi : (ix : Int) < (ts.length : Int) := by omega
            have hpx := cell_plus hx
            obtain ⟨br, or_, rfl, hbr, hr0, hr1⟩ := HAR.out ix hixl
            have hq0 := cell_plus ((HB2.out.cell (p := ⟨br, or_ + ix * 2, none⟩) hbr).trans hr0)
            have hq1 := cell_plus ((HB2.out.cell (p := ⟨br, or_ + ix * 2 + 1, none⟩) hbr).trans hr1)
            have hml := metL_len ts.length (prefK tr m j)
            have hmc := HOW2.out.cell (k := ix) (by rw [List.length_map, hml]; exact hixl)
            rw [List.getElem_map, metL_at] at hmc
            have hmp := cell_plus hmc
            have hpc2 := cell_plus hcell2
            have HBIG : Hid (∀ c0 : Int, c0 = ((prefK tr m j).length : Int) → c0 + 1 = ((prefK tr m (j + 1)).length : Int)) := Lib.hid fun c0 h => by rw [HSJ.out, List.length_append, h]; simp
            have HNDS : Hid (decide ((ix : Int) ∈ prefK tr m j) = false → (prefK tr m (j + 1)).Nodup) := Lib.hid fun h => by
              rw [HSJ.out, List.nodup_append]
              refine ⟨hnd2.out, by simp, fun a ha b hb => ?_⟩
              simp at hb; subst hb
              rintro rfl
              exact of_decide_eq_false h ha
            have HND1 : Hid (decide ((ix : Int) ∈ prefK tr m j) = true → areP gs ts tr = false) := Lib.hid fun h => HDUP.out (j + 1) (by
              rw [HSJ.out, List.nodup_append]
              rintro ⟨-, -, h3⟩
              exact h3 _ (of_decide_eq_true h) _ (by simp) rfl)
            have HMS : Hid (metL ts.length (prefK tr m (j + 1)) = (metL ts.length (prefK tr m j)).set ix true) := Lib.hid (by rw [HSJ.out]; exact metL_snoc hixl)
            generalize hmem : decide ((ix : Int) ∈ prefK tr m j) = mem at hmc hmp HNDS HND1
            clear hmem hxx
            cases mem with
            | true =>
              have HF := Lib.hid (HND1.out rfl)
              clear hprev
              go_wp2
              refine wp_region_plus (by kernel_rfl) (by kernel_rfl) ?_
              repeat (go_big_quiet_step ((fail)))
              refine wpQuiet_nil ?_
              intro wq hwq
              replace hwq := below_of_plus hwq
              go_wp2
              go_ret
              exact ⟨ret_bool HF.out.symm, below_next0 HB2.out hwq⟩
            | false =>
              have HND2 := Lib.hid (HNDS.out rfl)
              have hfree := HOW2.out.free ix
              have hset := HOW2.out.set ix (.bool true)
              rw [← List.map_set, ← HMS.out] at hset
              have HST : Hid (∀ W, Below wr.heap.size wr W → Ow (W.setCell ⟨w.heap.size, ix, none⟩ (.bool true)) w.heap.size 4 1 (.slice (some ⟨w.heap.size, 0, none⟩) ts.length ts.length) ts.length ((metL ts.length (prefK tr m (j + 1))).map Value.bool) ∧ W.cell? ⟨w.heap.size, ix, none⟩ = some (.bool false) ∧ W.frozen? ⟨w.heap.size, ix, none⟩ = false) := Lib.hid fun W hW => by
                have h1 := (HOW2.out.ex hW).set ix (.bool true)
                rw [← List.map_set, ← HMS.out] at h1
                exact ⟨h1, (hW.cell (p := ⟨w.heap.size, ix, none⟩) (cell_lt hmc)).trans hmc, (HOW2.out.ex hW).free ix⟩
              have HBS : Hid (∀ W, Below wr.heap.size wr W → Below w.heap.size w (W.setCell ⟨w.heap.size, ix, none⟩ (.bool true))) := Lib.hid fun W hW => (below_next0 HB2.out hW).setCell (p := ⟨w.heap.size, ix, none⟩) (Nat.le_refl _) (.bool true)
              clear hset
              have hpl2 : (prefK tr m j).length < 15 := by omega
              generalize hcz : ((prefK tr m j).length : Int) = c0 at HBIG
              have HBG := Lib.hid (HBIG.out c0 rfl)
              have hc0 : 0 ≤ c0 ∧ c0 < 15 := by omega
              obtain ⟨hc1, hc2⟩ := hc0
              clear hcz hpl hpl2
              by_cases h0 : j = 0
              · have hjz : decide (0 < j) = false := by simp; omega
                have HCH3 : Hid (∀ i, i < j + 1 → chK gs ts Lt i = true) := Lib.hid fun i hi => by
                  have : i = 0 := by omega
                  rw [this]; rfl
                clear hprev h0 hmp
                have hmp := cell_plus hmc
                clear hmc
                go_wp2
                refine wp_region_plus (by kernel_rfl) (by kernel_rfl) ?_
                repeat (go_big_quiet_step ((fail)))
                refine wpQuiet_nil ?_
                intro wq hwq
                replace hwq := below_of_plus hwq
                obtain ⟨hS1, hS2, hS3⟩ := HST.out _ hwq
                have HS1 := Lib.hid hS1
                have HBW := Lib.hid (HBS.out _ hwq)
                clear hwq hS1 hfree hmp hq0 hq1 hpx hx hpc2 hcell2
                go_wp2
                go_roundw
                case rel => exact ⟨j + 1, by omega, by go_num, by first | rw [HBG.out] | exact congrArg _ HBG.out, HS1.out, HND2, HCH3, HBW.out⟩
                case measure => simp [intOf]; omega
              · have hjz : decide (0 < j) = true := by simp; omega
                have hjp : (0 : Int) < (j : Int) := by omega
                obtain ⟨ip, hipl, hpp, hck⟩ := hprev h0
                have hjm : ((j : Int) - 1).toNat = j - 1 := by omega
                have hjn : (0 : Int) ≤ (j : Int) - 1 := by omega
                have hjl : (j : Int) - 1 < (Lt.length : Int) := by omega
                have hipi : (ip : Int) < (ts.length : Int) := by omega
                obtain ⟨bp, op_, hbo, hbp, hs0, hs1⟩ := HAR.out ip hipl
                injection hbo with hbo
                injection hbo with hb9 ho9 _
                subst hb9 ho9
                have hk0 := cell_plus ((HB2.out.cell (p := ⟨br, or_ + ip * 2, none⟩) hbr).trans hs0)
                have hk1 := cell_plus ((HB2.out.cell (p := ⟨br, or_ + ip * 2 + 1, none⟩) hbr).trans hs1)
                have HM2 := Lib.hid (fun e => plus_below (HMAY.out (plus wr e) ip ix hipl hixl (below_next0 HB2.out (below_plus wr e))))
                have HCK := Lib.hid (hck ix hixl rfl)
                rw [rdg_at hipl] at HCK
                generalize mayP gs ts[ip] ts[ix] = p at HM2 HCK
                generalize ts[ip].sensor = s0 at hk0 HM2
                generalize ts[ip].tick = s1 at hk1 HM2
                generalize ts[ix].sensor = r0 at hq0 HM2
                generalize ts[ix].tick = r1 at hq1 HM2
                clear hprev hck h0 hs0 hs1 hr0 hr1 hcc
                cases p with
                | false =>
                  have HF := Lib.hid (HCJ.out HCK.out)
                  clear hmc hfree
                  go_wp2
                  refine wp_region_plus (by kernel_rfl) (by kernel_rfl) ?_
                  repeat (go_big_quiet_step (((go_at_call 60; exact HM2.out _))))
                  refine wpQuiet_nil ?_
                  intro wq hwq
                  replace hwq := below_of_plus hwq
                  go_wp2
                  go_ret
                  exact ⟨ret_bool HF.out.symm, below_next0 HB2.out hwq⟩
                | true =>
                  have HCH3 : Hid (∀ i, i < j + 1 → chK gs ts Lt i = true) := Lib.hid fun i hi => by
                    by_cases e : i = j
                    · subst e; exact HCK.out
                    · exact hch2.out i (by omega)
                  clear hmc hfree
                  go_wp2
                  refine wp_region_plus (by kernel_rfl) (by kernel_rfl) ?_
                  repeat (go_big_quiet_step (((go_at_call 60; exact HM2.out _))))
                  refine wpQuiet_nil ?_
                  intro wq hwq
                  replace hwq := below_of_plus hwq
                  obtain ⟨hS1, hS2, hS3⟩ := HST.out _ hwq
                  have HS1 := Lib.hid hS1
                  have HBW := Lib.hid (HBS.out _ hwq)
                  clear hwq hS1 hmp hq0 hq1 hpx hx hpc2 hcell2 hpp hk0 hk1
                  go_wp2
                  go_roundw
                  case rel => exact ⟨j + 1, by omega, by go_num, by first | rw [HBG.out] | exact congrArg _ HBG.out, HS1.out, HND2, HCH3, HBW.out⟩
                  case measure => simp [intOf]; omega
          · have hjn : j = Lt.length := by omega
            subst hjn
            have HCE := Lib.hid (HCHE.out HNE.out (by unfold chainB; rw [List.all_eq_true]; intro i hi; exact hch2.out i (by simpa using hi)))
            have HO3 := HOW2.out; have HN3 := hnd2.out
            have HCN : Hid (((prefK tr m Lt.length).length : Int) = ((prefK tr (m + 1) 0).length : Int)) := Lib.hid (by rw [HEND.out])
            rw [HEND.out] at HO3 HN3
            have HO4 := Lib.hid HO3; have HN4 := Lib.hid HN3
            clear HO3 HN3
            rw [HCN.out]
            go_wp2
            go_roundw
            case rel => exact ⟨m + 1, by omega, by go_num, rfl, HO4.out, HN4, HCE, HB2.out⟩
            case measure => simp [intOf]; omega
    · have hmn : m = tr.length := by omega
      subst hmn
      have HE : Hid (areP gs ts tr = decide ((prefK tr tr.length 0).length = ts.length)) := Lib.hid (by
        have h1 := hch.out; have h2 := hnd.out
        rw [List.take_of_length_le (Nat.le_refl _)] at h1
        rw [prefK_zero, List.take_of_length_le (Nat.le_refl _)] at h2 ⊢
        exact are_end h1 h2)
      have HD : Hid (areP gs ts tr = (((prefK tr tr.length 0).length : Int) == (ts.length : Int))) := Lib.hid (by
        rw [HE.out, Bool.eq_iff_iff]; simp only [decide_eq_true_eq, beq_iff_eq]; omega)
      generalize (prefK tr tr.length 0).length = q at HD
      go_wp2
      go_ret
      exact ⟨ret_bool HD.out.symm, HB.out⟩
end Go.Proofs.Ytlgeddbgbcineaa
