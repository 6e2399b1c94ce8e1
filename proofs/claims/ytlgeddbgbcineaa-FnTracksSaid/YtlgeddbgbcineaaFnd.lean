/-
find of the program: the search for a follower. Condition: the table reads as a graph's, the rows in front and the tried ones are rows of the caller's own.
-/
import Derived.Test.YtlgeddbgbcineaaRep
import Derived.Test.YtlgeddbgbcineaaTab
import Derived.Test.YtlgeddbgbcineaaGrs
import Derived.Test.YtlgeddbgbcineaaBox
import Derived.Deep.CutRange
namespace Go.Proofs.Ytlgeddbgbcineaa
open Go.RowKit
set_option linter.unusedVariables false

/-- the rows in front, and the tried places: two rows in blocks g1 and g2 -/
structure Two (w : World) (lo g1 g2 n : Nat) (of : List Int) (tr : List Bool) : Prop where
  o : Ow w lo 3 1 (.slice (some ⟨g1, 0, none⟩) n n) n (of.map (Value.int .i64))
  t : Ow w lo 4 1 (.slice (some ⟨g2, 0, none⟩) n n) n (tr.map Value.bool)
  lo1 : of.length = n
  lt1 : tr.length = n
  ne : g1 ≠ g2
def R2 (g1 g2 : Nat) : Nat → Prop := fun k => k = g1 ∨ k = g2
section
variable {w w' : World} {lo g1 g2 n : Nat} {of : List Int} {tr : List Bool}
theorem Two.ex (h : Two w lo g1 g2 n of tr) (hb : Below w.heap.size w w') : Two w' lo g1 g2 n of tr := ⟨h.o.ex hb, h.t.ex hb, h.lo1, h.lt1, h.ne⟩
theorem Two.g1lo (h : Two w lo g1 g2 n of tr) : lo ≤ g1 ∧ g1 < w.heap.size := Ow.lt h.o g1 rfl
theorem Two.g2lo (h : Two w lo g1 g2 n of tr) : lo ≤ g2 ∧ g2 < w.heap.size := Ow.lt h.t g2 rfl
theorem Two.oc (h : Two w lo g1 g2 n of tr) {b : Nat} (hb : b < n) : w.cell? ⟨g1, b, none⟩ = some (.int .i64 (iAt of b)) := by
  have hl : b < of.length := by rw [h.lo1]; exact hb
  have := Ow.cell h.o (k := b) (by simpa using hl)
  rw [this, iAt_eq hl]; simp
theorem Two.tc (h : Two w lo g1 g2 n of tr) {b : Nat} (hb : b < n) : w.cell? ⟨g2, b, none⟩ = some (.bool (bAt tr b)) := by
  have hl : b < tr.length := by rw [h.lt1]; exact hb
  have := Ow.cell h.t (k := b) (by simpa using hl)
  rw [this, bAt_eq hl]; simp
theorem Two.of_ (h : Two w lo g1 g2 n of tr) (b : Nat) : w.frozen? ⟨g1, b, none⟩ = false := Ow.free h.o b
theorem Two.tf (h : Two w lo g1 g2 n of tr) (b : Nat) : w.frozen? ⟨g2, b, none⟩ = false := Ow.free h.t b
theorem Two.setT (h : Two w lo g1 g2 n of tr) (b : Nat) : Two (w.setCell ⟨g2, b, none⟩ (.bool true)) lo g1 g2 n of (tr.set b true) := by
  refine ⟨?_, ?_, h.lo1, by simp [h.lt1], h.ne⟩
  · exact Ow.off h.o (R := fun k => k = g2) (GrS.set (R := fun k => k = g2) (p := ⟨g2, b, none⟩) rfl _) (fun g hg hr => h.ne (by
      have e : g1 = g := by simpa [Value.ownBlock] using hg
      exact e.trans hr))
  · have := Ow.set h.t b (.bool true)
    rwa [← List.map_set] at this
theorem Two.setO (h : Two w lo g1 g2 n of tr) (b : Nat) (x : Int) : Two (w.setCell ⟨g1, b, none⟩ (.int .i64 x)) lo g1 g2 n (of.set b x) tr := by
  refine ⟨?_, ?_, by simp [h.lo1], h.lt1, h.ne⟩
  · have := Ow.set h.o b (.int .i64 x)
    rwa [← List.map_set] at this
  · exact Ow.off h.t (R := fun k => k = g1) (GrS.set (R := fun k => k = g1) (p := ⟨g1, b, none⟩) rfl _) (fun g hg hr => h.ne (by
      have e : g2 = g := by simpa [Value.ownBlock] using hg
      exact (e.trans hr).symm))
theorem Two.drewN (h : Two w lo g1 g2 n of tr) (q : Nat) : Two (w.drewN q) lo g1 g2 n of tr := ⟨⟨h.o.own, h.o.le⟩, ⟨h.t.own, h.t.le⟩, h.lo1, h.lt1, h.ne⟩
theorem Two.drew (h : Two w lo g1 g2 n of tr) : Two w.drew lo g1 g2 n of tr := ⟨⟨h.o.own, h.o.le⟩, ⟨h.t.own, h.t.le⟩, h.lo1, h.lt1, h.ne⟩
end
theorem Box2.gr {R : Nat → Prop} {w w' : World} {g : Nat} {x y : Value} (h : Box2 w g x y) (hg : GrS R w w') (hn : ¬ R g) : Box2 w' g x y :=
  ⟨Nat.lt_of_lt_of_le h.lt hg.size, (hg.cell h.lt hn).trans h.c0, (hg.cell h.lt hn).trans h.c1⟩
theorem scan_at {E : Nat → Nat → Bool} {fx : Nat → Bool} {n k : Nat} {rec : Nat → List Int → List Bool → Bool × List Int × List Bool} {a : Nat} {of : List Int} {tr : List Bool} (hk : k < n) :
    scanK E fx n rec a (n - k) of tr = if E a k = false ∨ bAt tr k = true then scanK E fx n rec a (n - (k + 1)) of tr
    else if iAt of k < 0 then (true, of.set k (a : Int), tr.set k true)
    else if fx (iAt of k).toNat = true then scanK E fx n rec a (n - (k + 1)) of (tr.set k true)
    else if (rec (iAt of k).toNat of (tr.set k true)).1 = true then (true, (rec (iAt of k).toNat of (tr.set k true)).2.1.set k (a : Int), (rec (iAt of k).toNat of (tr.set k true)).2.2)
    else scanK E fx n rec a (n - (k + 1)) (rec (iAt of k).toNat of (tr.set k true)).2.1 (rec (iAt of k).toNat of (tr.set k true)).2.2 := by
  have e : n - k = (n - (k + 1)) + 1 := by omega
  have e2 : n - (n - (k + 1) + 1) = k := by omega
  rw [e, scanK, e2]

set_option maxRecDepth 100000 in
set_option maxHeartbeats 4000000 in
theorem find_any (v : Value) (E : Nat → Nat → Bool) (n : Nat) (hn : n ≤ 14) (w0 : World) (hv : SlTab w0 v E n) (lo g1 g2 : Nat) (hlo : w0.heap.size ≤ lo) : ∀ (fuel a : Nat) (of : List Int) (tr : List Bool) (w : World),
    Below w0.heap.size w0 w → Two w lo g1 g2 n of tr → a < n → Ed E n of → untr tr < fuel →
    Calls Try.prog 86 #[.agg #[v, .slice (some ⟨g1, 0, none⟩) n n], .int .i64 (a : Int), .slice (some ⟨g2, 0, none⟩) n n] w fun e w' =>
      e = .returned (.bool (growK E noF n fuel a of tr).1) ∧ Two w' lo g1 g2 n (growK E noF n fuel a of tr).2.1 (growK E noF n fuel a of tr).2.2 ∧ GrS (R2 g1 g2) w w'
  | 0, a, of, tr, w, _, _, _, _, hf => absurd hf (Nat.not_lt_zero _)
  | fuel + 1, a, of, tr, w, hb, ht, ha, he, hf => by
    have IH := find_any v E n hn w0 hv lo g1 g2 hlo fuel
    have HIH := Lib.hid IH
    clear IH
    have HGO : Hid (∀ (r : Nat) (of : List Int) (tr : List Bool), r < n → of.length = n → tr.length = n → Ed E n of → GOut E n r of tr (growK E noF n fuel r of tr)) := Lib.hid (fun r of tr hr h1 h2 h3 => grow_out E noF n fuel r of tr hr h1 h2 h3)
    obtain ⟨A, c, rfl, hrow⟩ := hv.op
    obtain ⟨b0, o0, b1, o1, c1, rfl, hb0, hb1, hc0, hsl, hc1⟩ := hrow a ha
    have hai : (a : Int) < (n : Int) := by omega
    have HB := Lib.hid hb; have HT := Lib.hid ht
    have hx0 := (hb.cell (p := ⟨b0, o0 + a, none⟩) hb0).trans hc0
    have HC1 : Hid (∀ W, Below w0.heap.size w0 W → ∀ j, j < n → W.cell? ⟨b1, o1 + j, none⟩ = some (.bool (E a j))) := Lib.hid (fun W hW j hj => (hW.cell (p := ⟨b1, o1 + j, none⟩) hb1).trans (hc1 j hj))
    have hg1 := ht.g1lo; have hg2 := ht.g2lo
    have HQ : Hid (growK E noF n (fuel + 1) a of tr = scanK E noF n (growK E noF n fuel) a n of tr) := Lib.hid rfl
    have hbw := below_alloc w (.cells #[.slice (some ⟨b0, o0, none⟩) n c, .slice (some ⟨g1, 0, none⟩) n n] 100)
    have HBX := Lib.hid (Box2.new w (.slice (some ⟨b0, o0, none⟩) n c) (.slice (some ⟨g1, 0, none⟩) n n) 100)
    have hxw := (hbw.cell (p := ⟨b0, o0 + a, none⟩) (by have := hb.size; show b0 < w.heap.size; omega)).trans hx0
    have HTW := Lib.hid (ht.ex hbw)
    have HBB : Hid (∀ W, GrS (R2 g1 g2) (w.alloc (.cells #[.slice (some ⟨b0, o0, none⟩) n c, .slice (some ⟨g1, 0, none⟩) n n] 100)) W → Below w0.heap.size w0 W ∧ GrS (R2 g1 g2) w W) := Lib.hid (fun W hW => by
      have hG : GrS (R2 g1 g2) w W := (GrS.ofBelow hbw).trans hW
      exact ⟨hb.trans (GrS.below hG (fun k _ hk => by rcases hk with rfl | rfl <;> omega) hb.size), hG⟩)
    have hnR : ¬ R2 g1 g2 w.heap.size := by rintro (h | h) <;> omega
    obtain ⟨hg1a, hg1b⟩ := hg1
    obtain ⟨hg2a, hg2b⟩ := hg2
    generalize hqq : growK E noF n (fuel + 1) a of tr = Q at HQ
    clear hqq hrow hc0 hc1 hb ht hv hx0 hbw hsl
    have hbx0 := HBX.out.c0; have hbx1 := HBX.out.c1
    have HED := Lib.hid he; have HUN : Hid (untr tr ≤ fuel) := Lib.hid (by omega)
    clear he hf
    go_enter Try.func86, Try.ntmps86
    go_wp2
    clear hbx0 hbx1 hxw
    go_loopw [7, 8, 15] (fun _ _ v15 wr => ∃ (k : Nat) (of' : List Int) (tr' : List Bool), v15 = .int .i64 k ∧ k ≤ n ∧ Hid (scanK E noF n (growK E noF n fuel) a (n - k) of' tr' = Q) ∧ Hid (Ed E n of') ∧ Hid (untr tr' ≤ fuel) ∧ Hid (Two wr lo g1 g2 n of' tr') ∧ Hid (GrS (R2 g1 g2) (w.alloc (.cells #[.slice (some ⟨b0, o0, none⟩) n c, .slice (some ⟨g1, 0, none⟩) n n] 100)) wr)) (fun _ _ v15 _ => n - (intOf v15).toNat)
    case atStart => exact ⟨0, of, tr, rfl, by omega, Lib.hid (by rw [HQ.out]; rfl), HED, HUN, HTW, Lib.hid (GrS.refl _ _)⟩
    case round =>
      clear HTW HQ HED HUN HT HB
      obtain ⟨k, of', tr', rfl, hk, HS, HED, HUN, HT, HG⟩ := hrel
      by_cases hlt : k < n
      · have hki : (k : Int) < (n : Int) := by omega
        have HSS := Lib.hid (scan_at (E := E) (fx := noF) (rec := growK E noF n fuel) (a := a) (of := of') (tr := tr') hlt)
        have hx1 := HC1.out wr (HBB.out wr HG.out).1 k hlt
        have hxt := HT.out.tc hlt
        have hft := HT.out.tf k
        cases hE : E a k with
        | false =>
          rw [hE] at hx1
          have HN := Lib.hid (show scanK E noF n (growK E noF n fuel) a (n - (k + 1)) of' tr' = Q by rw [← HS.out, HSS.out, if_pos (.inl hE)])
          clear hE hxt hft
          go_wp2
          go_roundw
          case rel => exact ⟨k + 1, of', tr', by go_num, by omega, HN, HED, HUN, HT, HG⟩
          case measure => simp [intOf]; omega
        | true =>
          rw [hE] at hx1
          cases hT : bAt tr' k with
          | true =>
            rw [hT] at hxt
            have HN := Lib.hid (show scanK E noF n (growK E noF n fuel) a (n - (k + 1)) of' tr' = Q by rw [← HS.out, HSS.out, if_pos (.inr hT)])
            clear hE hT hft
            go_wp2
            go_roundw
            case rel => exact ⟨k + 1, of', tr', by go_num, by omega, HN, HED, HUN, HT, HG⟩
            case measure => simp [intOf]; omega
          | false =>
            rw [hT] at hxt
            have HSN := Lib.hid (show _ = Q from by rw [← HS.out, HSS.out, if_neg (by rw [hE, hT]; simp)])
            have HT1 := Lib.hid (HT.out.setT k)
            have HG1 : Hid (GrS (R2 g1 g2) (w.alloc (.cells #[.slice (some ⟨b0, o0, none⟩) n c, .slice (some ⟨g1, 0, none⟩) n n] 100)) (wr.setCell ⟨g2, k, none⟩ (.bool true))) := Lib.hid (HG.out.trans (GrS.set (.inr rfl) _))
            have hu1 := untr_set (tr := tr') (b := k) (by rw [HT.out.lt1]; exact hlt) hT
            have HU1 : Hid (untr (tr'.set k true) < fuel) := Lib.hid (by have := HUN.out; omega)
            have hed := HED.out k hlt
            have HBX1 := Lib.hid (HBX.out.gr HG1.out hnR)
            have hxo := HT1.out.oc hlt
            have hxb0 := HBX1.out.c0; have hxb1 := HBX1.out.c1
            clear hE hT hu1
            by_cases hneg : iAt of' k < 0
            · have HN : Hid ((true, of'.set k (a : Int), tr'.set k true) = Q) := Lib.hid (by rw [← HSN.out, if_pos hneg])
              have hd : decide (iAt of' k < 0) = true := decide_eq_true hneg
              have HOQ : Hid (∀ q, Two (((wr.setCell ⟨g2, k, none⟩ (.bool true)).drewN q).setCell ⟨g1, k, none⟩ (.int .i64 (a : Int))) lo g1 g2 n (of'.set k (a : Int)) (tr'.set k true)) := Lib.hid (fun q => (HT1.out.drewN q).setO k _)
              have HGQ : Hid (∀ q, GrS (R2 g1 g2) w (((wr.setCell ⟨g2, k, none⟩ (.bool true)).drewN q).setCell ⟨g1, k, none⟩ (.int .i64 (a : Int)))) := Lib.hid (fun q => (HBB.out _ ((HG1.out.drewN q).trans (GrS.set (.inl rfl) _))).2)
              have HQ0 : Hid (∀ q, ((wr.setCell ⟨g2, k, none⟩ (.bool true)).drewN q).cell? ⟨w.heap.size, 1, none⟩ = some (.slice (some ⟨g1, 0, none⟩) n n) ∧ ((wr.setCell ⟨g2, k, none⟩ (.bool true)).drewN q).cell? ⟨g1, k, none⟩ = some (.int .i64 (iAt of' k)) ∧ ((wr.setCell ⟨g2, k, none⟩ (.bool true)).drewN q).frozen? ⟨g1, k, none⟩ = false) := Lib.hid (fun q => ⟨HBX1.out.c1, (HT1.out.drewN q).oc hlt, (HT1.out.drewN q).of_ k⟩)
              go_wp2
              go_quiet (fail)
              obtain ⟨hz0, hz1, hz2⟩ := HQ0.out nq
              clear hxo hxb0 hxb1 hxt hft
              go_wp2
              go_ret
              rw [← HN.out]
              exact ⟨rfl, HOQ.out nq, HGQ.out nq⟩
            · obtain ⟨r, hr, hrk, hrE⟩ : ∃ r : Nat, r < n ∧ iAt of' k = (r : Int) ∧ E r k = true := by
                rcases hed with h | h
                · omega
                · exact h
              have hd : decide (iAt of' k < 0) = false := decide_eq_false hneg
              have hrt : (iAt of' k).toNat = r := by omega
              rw [hrk] at hxo hd
              have hri : ¬ ((r : Int) < 0) := by omega
              have HSR := Lib.hid (show _ = Q from by rw [← HSN.out, if_neg hneg, if_neg (by simp [noF]), hrt])
              have HCL := Lib.hid (HIH.out r of' (tr'.set k true) (wr.setCell ⟨g2, k, none⟩ (.bool true)).drew (HBB.out _ HG1.out).1.drew HT1.out.drew hr HED.out HU1.out)
              have HOU := Lib.hid (HGO.out r of' (tr'.set k true) hr HT1.out.lo1 HT1.out.lt1 HED.out)
              generalize growK E noF n fuel r of' (tr'.set k true) = q at HCL HOU HSR
              obtain ⟨q1, q2, q3⟩ := q
              clear hneg hrk hrt hed
              go_wp2
              go_region_law (first | (go_simp; go_at_call 86; refine Calls.mono HCL.out ?_; rintro eA wA ⟨rfl, htA, hgA⟩; have HTA := Lib.hid htA; have HGA := Lib.hid hgA; clear htA hgA) | fail)
              all_goals
                have HGW : Hid (GrS (R2 g1 g2) (w.alloc (.cells #[.slice (some ⟨b0, o0, none⟩) n c, .slice (some ⟨g1, 0, none⟩) n n] 100)) wA) := Lib.hid ((HG1.out.drewN 1).trans HGA.out)
                have hyb := (HBX.out.gr HGW.out hnR).c1
                have hyf := HTA.out.of_ k; have hyc := HTA.out.oc hlt
                clear hx1 hxt hft hxo hxb0 hxb1
                cases q1 with
                | true =>
                  have HN : Hid ((true, q2.set k (a : Int), q3) = Q) := Lib.hid (by rw [← HSR.out]; rfl)
                  have HT2 := Lib.hid (HTA.out.setO k (a : Int))
                  have HGF : Hid (GrS (R2 g1 g2) w (wA.setCell ⟨g1, k, none⟩ (.int .i64 (a : Int)))) := Lib.hid (HBB.out _ (HGW.out.trans (GrS.set (.inl rfl) _))).2
                  go_wp2
                  go_ret
                  rw [← HN.out]
                  exact ⟨rfl, HT2.out, HGF.out⟩
                | false =>
                  have HN : Hid (scanK E noF n (growK E noF n fuel) a (n - (k + 1)) q2 q3 = Q) := Lib.hid (by rw [← HSR.out]; rfl)
                  have HU2 : Hid (untr q3 ≤ fuel) := Lib.hid (by have h1 := HOU.out.un; have h2 := HU1.out; dsimp only at h1; omega)
                  have HED2 := Lib.hid (show Ed E n q2 from HOU.out.ed)
                  go_wp2
                  go_roundw
                  case rel => exact ⟨k + 1, q2, q3, by go_num, by omega, HN, HED2, HU2, HTA, HGW⟩
                  case measure => simp [intOf]; omega
      · obtain rfl : k = n := by omega
        have HE : Hid ((false, of', tr') = Q) := Lib.hid (by rw [← HS.out, Nat.sub_self]; rfl)
        have HGF := Lib.hid (HBB.out wr HG.out).2
        go_wp2
        go_ret
        rw [← HE.out]
        exact ⟨rfl, HT.out, HGF.out⟩
end Go.Proofs.Ytlgeddbgbcineaa
