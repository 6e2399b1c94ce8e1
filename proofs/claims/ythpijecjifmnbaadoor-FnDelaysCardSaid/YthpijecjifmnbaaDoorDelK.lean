/-
The sorted delays of the reference: l13Sorted. Condition: the slices read as lists.
-/
import Derived.Test.YthpijecjifmnbaaDoorDelG
import Derived.Test.YthpijecjifmnbaaDoorSub
import Derived.Test.YthpijecjifmnbaaDoorOwn
import Derived.Test.YthpijecjifmnbaaDoorSrt
namespace Go.Proofs.YthpijecjifmnbaaDoor
open Go.RowKit
set_option linter.unusedVariables false

set_option maxHeartbeats 1000000 in
theorem l13Sorted_any (v : Value) (ts : List Trip) (w : World) (hv : SlTrip w v ts) (hok : ∀ (k : Nat) (hk : k < ts.length), Trip.ok ts[k] = true) (hl : ts.length ≤ 100) :
    Calls Tryd.prog 45 #[v] w fun e w' => ∃ A c s, e = .returned (.slice A ts.length c) ∧ OwI w' w.heap.size (.slice A ts.length c) s ∧ IsSrt (lates ts) s ∧ Below w.heap.size w w' := by
  obtain ⟨A, c, rfl, hla, ha⟩ := hv.op
  have HA := Lib.hid ha; have HO := Lib.hid hok
  clear hv ha hok
  have HEM := Lib.hid (owI_empty w w.heap.size (Nat.le_refl _))
  have HI := Lib.hid (fun xs s n k => @IsSrt.ins xs s n k)
  go_enter Tryd.func45, Tryd.ntmps45
  go_wp2
  go_loopw [3, 4] (fun out i wr => ∃ (k g c2 : Nat) (s : List Int), k ≤ ts.length ∧ i = .int .i64 k ∧ out = .slice (some ⟨g, 0, none⟩) k c2 ∧ k ≤ c2 ∧ Hid (s.length = k) ∧ Hid (OwI wr w.heap.size (.slice (some ⟨g, 0, none⟩) k c2) s) ∧ Hid (IsSrt (lates (ts.take k)) s) ∧ Hid (Below w.heap.size w wr)) (fun _ i _ => ts.length - (intOf i).toNat)
  case atStart => exact ⟨0, _, _, [], Nat.zero_le _, rfl, rfl, Nat.le_refl _, Lib.hid rfl, HEM, Lib.hid ⟨List.Perm.refl _, List.Pairwise.nil⟩, Lib.hid (below_alloc _ _)⟩
  case round =>
    obtain ⟨k, g, c2, s, hk, rfl, rfl, hcp, HSL, HOW, HSR, HB⟩ := hrel
    by_cases hlt : k < ts.length
    · obtain ⟨b, o, rfl, hbs, hc0, hc1, hc2⟩ := HA.out k hlt
      have hx0 := (HB.out.cell (p := ⟨b, o + k * 3, none⟩) hbs).trans hc0
      have hx1 := (HB.out.cell (p := ⟨b, o + k * 3 + 1, none⟩) hbs).trans hc1
      have hx2 := (HB.out.cell (p := ⟨b, o + k * 3 + 2, none⟩) hbs).trans hc2
      have hlti : (k : Int) < (ts.length : Int) := by omega
      have HC := Lib.hid (l13Late_any ts[k].to ts[k].due ts[k].came b (o + k * 3) wr hx0 hx1 hx2 (HO.out k hlt))
      have hk' : Trip.late ⟨ts[k].to, ts[k].due, ts[k].came⟩ = ts[k].late := rfl
      rw [hk'] at HC
      have HT := Lib.hid (lates_take hlt)
      generalize ts[k].late = x at HC HT
      clear hc0 hc1 hc2 hx0 hx1 hx2 hk'
      go_wp2_with (go_at_call 55; refine HC.out.mono ?_; rintro e w2 ⟨rfl, q, rfl⟩)
      have HOW2 := Lib.hid (Ow.drewN HOW.out q)
      have HB2 := Lib.hid (below_drewN HB.out q)
      go_loopw [6] (fun kv wj => ∃ j : Nat, j ≤ k ∧ kv = .int .i64 j ∧ Hid (∀ y ∈ s.drop j, x < y) ∧ wj = wr.drewN q) (fun kv _ => (intOf kv).toNat)
      case atStart => exact ⟨k, Nat.le_refl _, rfl, Lib.hid (by intro y hy; rw [List.drop_of_length_le (by rw [HSL.out]; exact Nat.le_refl _)] at hy; cases hy), rfl⟩
      case round =>
        obtain ⟨j, hj, rfl, hgt, rfl⟩ := hrel
        match j, hj, hgt with
        | 0, _, hgt =>
          have hlJ : (s.take (0)).length = 0 := by rw [List.length_take, HSL.out]; omega
          have HLJ := Lib.hid hlJ
          have HOWN := l00Own_any (.slice (some ⟨g, 0, none⟩) (0) c2) (s.take (0)) (wr.drewN q) (by have h := slI_sub (k := 0) (m := 0) (c' := c2) (OwI.sl HOW2.out) HSL.out (by omega); simpa using h) (by omega)
          rw [hlJ] at HOWN
          have HOWN := Lib.hid HOWN
          clear hlJ
          go_wp2_with fail
          refine HOWN.out.mono ?_
          rintro e w3 ⟨A3, c3, rfl, hown3, hb3⟩
          have HO3 := Lib.hid hown3; have HB3 := Lib.hid hb3
          clear hown3 hb3
          go_wp2_with (first | (at_builtin; refine wpList_appI w3 rfl (.tmp 37) (.tmp 39) rfl (wr.drewN q).heap.size (wr.drewN q).heap.size (wr.drewN q) A3 (0) c3 _ _ _ _ rfl HO3.out HLJ.out rfl HB3.out (Nat.le_refl _) HB3.out.size (by omega) ?_; intro A4 c4 w4 hown4 hg4 hsz4 hb4; have HO4 : Hid (Ow w4 (wr.drewN q).heap.size 2 1 (.slice A4 (0 + 1) c4) (0 + 1) ((s.take (0) ++ [x]).map (Value.int .i64))) := Lib.hid (by have h := hown4; unfold OwI at h; rwa [show (s.take (0) ++ [x]).length = 0 + 1 by rw [List.length_append, HLJ.out]; rfl] at h); have HB4 := Lib.hid hb4; have hr := slI_sub (k := 0) (m := k - (0)) (c' := c2 - (0)) (OwI.sl (HOW2.out.ex hb4)) HSL.out (by omega); have HR : Hid (Sl w4 1 (.slice (some ⟨g, 0, none⟩) k c2) (k - (0)) ((s.drop (0)).map (Value.int .i64))) := Lib.hid (by have h := hr; unfold SlI at h; have hz := HSL.out; have e : (s.drop (0)).take (k - (0)) = s.drop (0) := List.take_of_length_le (by simp; omega); rw [e, show (s.drop (0)).length = k - (0) by simp; omega] at h; simpa using h); have HR0 : Hid (k ≤ 0 → Sl w4 1 (.slice (some ⟨g, 0, none⟩) (k - (0)) 0) (k - (0)) ((s.drop (0)).map (Value.int .i64))) := Lib.hid (fun hkj => ⟨_, 0, rfl, by have := HSL.out; simp; omega, by omega, fun h0 => by have := HSL.out; simp at h0; omega⟩); have HLO4 := Lib.hid HB4.out.size; clear hr hown4 hg4 hsz4 hb4) | (at_builtin; (first | refine wpList_cat w4 rfl (.tmp 41) (.tmp 44) _ rfl (wr.drewN q).heap.size 2 (.int .i64 0) 1 8 Tryd.underlying42 infoI64 rfl (by omega) (.slice A4 (0 + 1) c4) (0 + 1) _ rfl HO4.out (.slice (some ⟨g, 0, none⟩) k c2) (k - (0)) _ rfl HR.out ?_ (by omega) (by omega) HLO4.out ?_ | refine wpList_cat w4 rfl (.tmp 41) (.tmp 44) _ rfl (wr.drewN q).heap.size 2 (.int .i64 0) 1 8 Tryd.underlying42 infoI64 rfl (by omega) (.slice A4 (0 + 1) c4) (0 + 1) _ rfl HO4.out (.slice (some ⟨g, 0, none⟩) (k - (0)) 0) (k - (0)) _ rfl (HR0.out (by omega)) ?_ (by omega) (by omega) HLO4.out ?_); rotate_left; intro A5 c5 w5 _ hown5 hg5 hsz5; rw [show 0 + 1 + (k - (0)) = k + 1 by omega] at hown5 ⊢; have HB5 := Lib.hid (below_own (below_next0 HB2.out HB4.out) HO4.out hg5 (below_next0 HB2.out HB4.out).size (HB2.out.size)); have HO5 := Lib.hid hown5; clear hown5 hg5 hsz5) | fail)
          all_goals try (intro u hu; obtain ⟨y, _, rfl⟩ := List.mem_map.1 hu; rfl)
          all_goals
            rcases Ow.form HO5.out with ⟨_, h0, _⟩ | ⟨g5, c6, hA5, _, _, _⟩
            · omega
            injection hA5 with hA5 _ hc5
            subst hA5 hc5
            have hcp5 := Ow.cap HO5.out _ _ _ rfl
            go_roundw
            case rel =>
              refine ⟨k + 1, g5, _, s.take (0) ++ [x] ++ s.drop (0), by omega, by go_num, rfl, hcp5, Lib.hid (by rw [List.length_append, List.length_append, HLJ.out, List.length_drop, HSL.out]; simp; omega), Lib.hid ?_, Lib.hid ?_, HB5⟩
              · have h := Ow.mono HO5.out HB2.out.size
                unfold OwI
                rw [show (s.take (0) ++ [x] ++ s.drop (0)).length = k + 1 by rw [List.length_append, List.length_append, HLJ.out, List.length_drop, HSL.out]; simp; omega]
                simpa using h
              · rw [HT.out]
                exact HI.out _ _ _ _ HSR.out (by rw [HSL.out]; omega) hgt.out (by intro z hz; simp at hz)
            case measure => simp [intOf]; omega
        | m + 1, hj, hgt =>
          have hml : m < s.length := by have := HSL.out; omega
          have hcell : (wr.drewN q).cell? ⟨g, m, none⟩ = some (.int .i64 s[m]) := by
            have h1 := HOW2.out
            rw [← HSL.out] at h1
            exact OwI.cell h1 hml
          have HG := Lib.hid (fun h => drop_cons_gt (n := x) hml h hgt.out)
          have HL := Lib.hid (fun h => srt_take (n := x) HSR.out.2 hml h)
          have hmi : (m : Int) + 1 - 1 = (m : Int) := by omega
          have hmk : (m : Int) < (k : Int) := by omega
          generalize s[m] = y at hcell HG HL
          rw [show (((m + 1 : Nat) : Int)) = (m : Int) + 1 from rfl]
          by_cases hy : x < y
          · go_wp2
            go_roundw
            case rel => exact ⟨m, by omega, rfl, Lib.hid (HG.out hy), by first | trivial | rfl⟩
            case measure => simp [intOf]
          · have hyx : y ≤ x := by omega
            by_cases hcc : c2 = m + 1
            · obtain rfl : k = m + 1 := by omega
              subst hcc
              have hlJ : (s.take (m + 1)).length = m + 1 := by rw [List.length_take, HSL.out]; omega
              have HLJ := Lib.hid hlJ
              have HOWN := l00Own_any (.slice (some ⟨g, 0, none⟩) (m + 1) (m + 1)) (s.take (m + 1)) (wr.drewN q) (by have h := slI_sub (k := 0) (m := m + 1) (c' := (m + 1)) (OwI.sl HOW2.out) HSL.out (by omega); simpa using h) (by omega)
              rw [hlJ] at HOWN
              have HOWN := Lib.hid HOWN
              clear hlJ
              go_wp2_with fail
              refine HOWN.out.mono ?_
              rintro e w3 ⟨A3, c3, rfl, hown3, hb3⟩
              have HO3 := Lib.hid hown3; have HB3 := Lib.hid hb3
              clear hown3 hb3
              go_wp2_with (first | (at_builtin; refine wpList_appI w3 rfl (.tmp 37) (.tmp 39) rfl (wr.drewN q).heap.size (wr.drewN q).heap.size (wr.drewN q) A3 (m + 1) c3 _ _ _ _ rfl HO3.out HLJ.out rfl HB3.out (Nat.le_refl _) HB3.out.size (by omega) ?_; intro A4 c4 w4 hown4 hg4 hsz4 hb4; have HO4 : Hid (Ow w4 (wr.drewN q).heap.size 2 1 (.slice A4 (m + 1 + 1) c4) (m + 1 + 1) ((s.take (m + 1) ++ [x]).map (Value.int .i64))) := Lib.hid (by have h := hown4; unfold OwI at h; rwa [show (s.take (m + 1) ++ [x]).length = m + 1 + 1 by rw [List.length_append, HLJ.out]; rfl] at h); have HB4 := Lib.hid hb4; have HR : Hid (Sl w4 1 (.slice (some ⟨g, 0, none⟩) 0 0) 0 ((s.drop (m + 1)).map (Value.int .i64))) := Lib.hid ⟨_, 0, rfl, by rw [List.length_map, List.length_drop, HSL.out]; omega, by omega, fun h0 => by rw [List.length_map, List.length_drop, HSL.out] at h0; omega⟩; have HLO4 := Lib.hid HB4.out.size; clear hown4 hg4 hsz4 hb4) | (at_builtin; (first | refine wpList_cat w4 rfl (.tmp 41) (.tmp 44) _ rfl (wr.drewN q).heap.size 2 (.int .i64 0) 1 8 Tryd.underlying42 infoI64 rfl (by omega) (.slice A4 (m + 1 + 1) c4) (m + 1 + 1) _ rfl HO4.out (.slice (some ⟨g, 0, none⟩) 0 0) 0 _ rfl HR.out ?_ (by omega) (by omega) HLO4.out ?_); rotate_left; intro A5 c5 w5 _ hown5 hg5 hsz5; rw [show m + 1 + 1 + 0 = m + 1 + 1 by omega] at hown5 ⊢; have HB5 := Lib.hid (below_own (below_next0 HB2.out HB4.out) HO4.out hg5 (below_next0 HB2.out HB4.out).size (HB2.out.size)); have HO5 := Lib.hid hown5; clear hown5 hg5 hsz5) | fail)
              all_goals try (intro u hu; obtain ⟨y, _, rfl⟩ := List.mem_map.1 hu; rfl)
              all_goals
                rcases Ow.form HO5.out with ⟨_, h0, _⟩ | ⟨g5, c6, hA5, _, _, _⟩
                · omega
                injection hA5 with hA5 _ hc5
                subst hA5 hc5
                have hcp5 := Ow.cap HO5.out _ _ _ rfl
                go_roundw
                case rel =>
                  refine ⟨m + 1 + 1, g5, _, s.take (m + 1) ++ [x] ++ s.drop (m + 1), by omega, by go_num, rfl, hcp5, Lib.hid (by rw [List.length_append, List.length_append, HLJ.out, List.length_drop, HSL.out]; simp), Lib.hid ?_, Lib.hid ?_, HB5⟩
                  · have h := Ow.mono HO5.out HB2.out.size
                    unfold OwI
                    rw [show (s.take (m + 1) ++ [x] ++ s.drop (m + 1)).length = m + 1 + 1 by rw [List.length_append, List.length_append, HLJ.out, List.length_drop, HSL.out]; simp]
                    simpa using h
                  · rw [HT.out]
                    exact HI.out _ _ _ _ HSR.out (by rw [HSL.out]; omega) hgt.out (HL.out hyx)
                case measure => simp [intOf]; omega
            · have hcc2 : m + 1 < c2 := by omega
              clear hcc
              have hlJ : (s.take (m + 1)).length = m + 1 := by rw [List.length_take, HSL.out]; omega
              have HLJ := Lib.hid hlJ
              have HOWN := l00Own_any (.slice (some ⟨g, 0, none⟩) (m + 1) c2) (s.take (m + 1)) (wr.drewN q) (by have h := slI_sub (k := 0) (m := m + 1) (c' := c2) (OwI.sl HOW2.out) HSL.out (by omega); simpa using h) (by omega)
              rw [hlJ] at HOWN
              have HOWN := Lib.hid HOWN
              clear hlJ
              go_wp2_with fail
              refine HOWN.out.mono ?_
              rintro e w3 ⟨A3, c3, rfl, hown3, hb3⟩
              have HO3 := Lib.hid hown3; have HB3 := Lib.hid hb3
              clear hown3 hb3
              go_wp2_with (first | (at_builtin; refine wpList_appI w3 rfl (.tmp 37) (.tmp 39) rfl (wr.drewN q).heap.size (wr.drewN q).heap.size (wr.drewN q) A3 (m + 1) c3 _ _ _ _ rfl HO3.out HLJ.out rfl HB3.out (Nat.le_refl _) HB3.out.size (by omega) ?_; intro A4 c4 w4 hown4 hg4 hsz4 hb4; have HO4 : Hid (Ow w4 (wr.drewN q).heap.size 2 1 (.slice A4 (m + 1 + 1) c4) (m + 1 + 1) ((s.take (m + 1) ++ [x]).map (Value.int .i64))) := Lib.hid (by have h := hown4; unfold OwI at h; rwa [show (s.take (m + 1) ++ [x]).length = m + 1 + 1 by rw [List.length_append, HLJ.out]; rfl] at h); have HB4 := Lib.hid hb4; have hr := slI_sub (k := m + 1) (m := k - (m + 1)) (c' := c2 - (m + 1)) (OwI.sl (HOW2.out.ex hb4)) HSL.out (by omega); have HR : Hid (Sl w4 1 (.slice (some ⟨g, m + 1, none⟩) (k - (m + 1)) (c2 - (m + 1))) (k - (m + 1)) ((s.drop (m + 1)).map (Value.int .i64))) := Lib.hid (by have h := hr; unfold SlI at h; have hz := HSL.out; have e : (s.drop (m + 1)).take (k - (m + 1)) = s.drop (m + 1) := List.take_of_length_le (by simp; omega); rw [e, show (s.drop (m + 1)).length = k - (m + 1) by simp; omega] at h; simpa using h); have HR0 : Hid (k ≤ m + 1 → Sl w4 1 (.slice (some ⟨g, 0, none⟩) (k - (m + 1)) 0) (k - (m + 1)) ((s.drop (m + 1)).map (Value.int .i64))) := Lib.hid (fun hkj => ⟨_, 0, rfl, by have := HSL.out; simp; omega, by omega, fun h0 => by have := HSL.out; simp at h0; omega⟩); have HLO4 := Lib.hid HB4.out.size; clear hr hown4 hg4 hsz4 hb4) | (at_builtin; (first | refine wpList_cat w4 rfl (.tmp 41) (.tmp 44) _ rfl (wr.drewN q).heap.size 2 (.int .i64 0) 1 8 Tryd.underlying42 infoI64 rfl (by omega) (.slice A4 (m + 1 + 1) c4) (m + 1 + 1) _ rfl HO4.out (.slice (some ⟨g, m + 1, none⟩) (k - (m + 1)) (c2 - (m + 1))) (k - (m + 1)) _ rfl HR.out ?_ (by omega) (by omega) HLO4.out ?_ | refine wpList_cat w4 rfl (.tmp 41) (.tmp 44) _ rfl (wr.drewN q).heap.size 2 (.int .i64 0) 1 8 Tryd.underlying42 infoI64 rfl (by omega) (.slice A4 (m + 1 + 1) c4) (m + 1 + 1) _ rfl HO4.out (.slice (some ⟨g, 0, none⟩) (k - (m + 1)) 0) (k - (m + 1)) _ rfl (HR0.out (by omega)) ?_ (by omega) (by omega) HLO4.out ?_); rotate_left; intro A5 c5 w5 _ hown5 hg5 hsz5; rw [show m + 1 + 1 + (k - (m + 1)) = k + 1 by omega] at hown5 ⊢; have HB5 := Lib.hid (below_own (below_next0 HB2.out HB4.out) HO4.out hg5 (below_next0 HB2.out HB4.out).size (HB2.out.size)); have HO5 := Lib.hid hown5; clear hown5 hg5 hsz5) | fail)
              all_goals try (intro u hu; obtain ⟨y, _, rfl⟩ := List.mem_map.1 hu; rfl)
              all_goals
                rcases Ow.form HO5.out with ⟨_, h0, _⟩ | ⟨g5, c6, hA5, _, _, _⟩
                · omega
                injection hA5 with hA5 _ hc5
                subst hA5 hc5
                have hcp5 := Ow.cap HO5.out _ _ _ rfl
                go_roundw
                case rel =>
                  refine ⟨k + 1, g5, _, s.take (m + 1) ++ [x] ++ s.drop (m + 1), by omega, by go_num, rfl, hcp5, Lib.hid (by rw [List.length_append, List.length_append, HLJ.out, List.length_drop, HSL.out]; simp; omega), Lib.hid ?_, Lib.hid ?_, HB5⟩
                  · have h := Ow.mono HO5.out HB2.out.size
                    unfold OwI
                    rw [show (s.take (m + 1) ++ [x] ++ s.drop (m + 1)).length = k + 1 by rw [List.length_append, List.length_append, HLJ.out, List.length_drop, HSL.out]; simp; omega]
                    simpa using h
                  · rw [HT.out]
                    exact HI.out _ _ _ _ HSR.out (by rw [HSL.out]; omega) hgt.out (HL.out hyx)
                case measure => simp [intOf]; omega
    · have hkn : k = ts.length := by omega
      subst hkn
      go_wp2
      go_ret
      exact ⟨_, _, s, rfl, HOW.out, by have := HSR.out; rwa [List.take_of_length_le (Nat.le_refl _)] at this, HB.out⟩
end Go.Proofs.YthpijecjifmnbaaDoor
