/-
The reference's draws of trips, each by its contract: some trips, some number. Condition: a source.
-/
import Derived.Test.YthpijecjifmnbaaDoorDr
import Derived.Test.YthpijecjifmnbaaDoorDelA
import Derived.Deep.RegionHeld3
import Derived.Deep.CutRange
namespace Go.Proofs.YthpijecjifmnbaaDoor
open Go.RowKit
set_option linter.unusedVariables false
set_option linter.unusedSimpArgs false

/-- numbers, three to a trip -/
theorem group3 : ∀ (n : Nat) (ns : List Int), ns.length = n * 3 → ∃ ts : List Trip, ts.length = n ∧ ts.flatMap Trip.vals = ns.map (Value.int .i64)
  | 0, ns, h => by
    have h0 : ns = [] := List.eq_nil_of_length_eq_zero (by omega)
    subst h0; exact ⟨[], rfl, rfl⟩
  | n + 1, ns, h => by
    match ns, h with
    | a :: b :: c :: rest, h =>
      obtain ⟨ts, h1, h2⟩ := group3 n rest (by simp at h; omega)
      exact ⟨⟨a, b, c⟩ :: ts, by simp [h1], by simp [List.flatMap_cons, Trip.vals, h2]⟩
    | [], h => simp at h
    | [a], h => simp at h; omega
    | [a, b], h => simp at h; omega
/-- a trip is drawn -/
def ChoT (g hi m : Nat) (w : World) (e : Ending) (w' : World) : Prop := ∃ a b c : Int, e = .returned (.agg #[.int .i64 a, .int .i64 b, .int .i64 c]) ∧ Src w' g hi m ∧ Gr1 g w w'
theorem l00Max_tr (x y : Int) (w : World) : Calls Tryd.prog 68 #[.int .i64 x, .int .i64 y] w fun e w' => e = .returned (.int .i64 (max x y)) ∧ w = w' := by
  go_enter Tryd.func68, Tryd.ntmps68
  go_wp2
  all_goals go_ret
  all_goals exact ⟨ret_int (by omega), rfl⟩
set_option maxRecDepth 100000 in
set_option maxHeartbeats 4000000 in
theorem newTrip_any (g hi m : Nat) (w : World) (h : Src w g hi m) (hm : m ≤ 1000000) :
    Calls Tryd.prog 56 #[.pointer (some ⟨g, 0, none⟩)] w (ChoT g hi (m + 6) w) := by
  have hgw : g < w.heap.size := Nat.lt_of_lt_of_le h.gh h.hw
  have hhw := h.hw
  have hb0 := below_alloc w (.cells #[.int .i64 0, .int .i64 0, .int .i64 0] 25)
  have HS0 := Lib.hid (h.ex hb0)
  have HG0 : Hid (Gr1 g w _) := Lib.hid (GrS.ofBelow (R := fun k => k = g) hb0)
  have HX0 := Lib.hid (Ow.lay w (lo := w.heap.size) (sz := 3) 25 #[.int .i64 0, .int .i64 0, .int .i64 0] 1 (Nat.le_refl _) (by omega) rfl)
  clear h hb0
  go_enter Tryd.func56, Tryd.ntmps56
  go_wp2_with fail
  refine (pick_pos g hi m 4 _ HS0.out (by omega) (by omega)).mono ?_
  rintro e w1 ⟨a, ⟨ha0, ha1⟩, rfl, hs1, hg1⟩
  have HS1 := Lib.hid hs1; have HG1 := Lib.hid (HG0.out.trans hg1); have HX1 := Lib.hid (HX0.out.gr1 hg1 hgw)
  clear hs1 hg1
  go_wp2_with fail
  refine (pick_pos g hi _ 200 _ HS1.out (by omega) (by omega)).mono ?_
  rintro e w2 ⟨b, ⟨hb0, hb1⟩, rfl, hs2, hg2⟩
  have hba := below_alloc w2 (.cells #[.int .i64 a, .int .i64 b, .int .i64 0] 25)
  have HS2 := Lib.hid (hs2.ex hba); have HG2 := Lib.hid ((HG1.out.trans hg2).bl hba (HG1.out.trans hg2).size); have HX2 := Lib.hid ((HX1.out.gr1 hg2 hgw).ex hba)
  have HY2 := Lib.hid (Ow.lay w2 (lo := w.heap.size) (sz := 3) 25 #[.int .i64 a, .int .i64 b, .int .i64 0] 1 (HG1.out.trans hg2).size (by omega) rfl)
  have hne : w.heap.size ≠ w2.heap.size := by have h9 := (HX1.out.gr1 hg2 hgw).lt w.heap.size rfl; omega
  clear hs2 hg2 hba
  go_upto_region 2 with fail
  refine wp_gen (fun W3 hW3 => ?_)
  obtain ⟨HS3, HG3, HX3, HY3⟩ : Hid (Src W3 g hi (m + 2 + 2)) ∧ Hid (Gr1 g w W3) ∧ Hid (Ow W3 w.heap.size 25 3 (.slice (some ⟨w.heap.size, 0, none⟩) 1 1) 1 [.int .i64 0, .int .i64 0, .int .i64 0]) ∧ Hid (Ow W3 w.heap.size 25 3 (.slice (some ⟨w2.heap.size, 0, none⟩) 1 1) 1 [.int .i64 a, .int .i64 b, .int .i64 0]) := by
    rw [hW3]; exact ⟨HS2, HG2, HX2, HY2⟩
  clear hW3 HS2 HG2 HX2 HY2
  have hdr : Gr1 g W3 W3.drew := GrS.ofBelow (Below.refl _ _).drew
  have HDR := Lib.hid hdr
  have HSD := Lib.hid (HS3.out.ex (Below.refl _ _).drew)
  have hbc := Ow.cell HY3.out (k := 1) (by simp)
  simp only [List.getElem_cons_zero, List.getElem_cons_succ] at hbc
  have HKJ : Hid (∀ W, Gr1 g W3 W → W.cell? ⟨w2.heap.size, 1, none⟩ = some (.int .i64 b)) := Lib.hid fun W hW => Ow.cell (HY3.out.gr1 hW hgw) (k := 1) (by simp)
  have HKY : Hid (∀ W, Gr1 g W3 W → Ow W w.heap.size 25 3 (.slice (some ⟨w2.heap.size, 0, none⟩) 1 1) 1 [.int .i64 a, .int .i64 b, .int .i64 0]) := Lib.hid fun W hW => HY3.out.gr1 hW hgw
  have HKU : Hid (∀ W, Gr1 g W3 W → ∀ u, (W.setCell ⟨w2.heap.size, 2, none⟩ u).cell? ⟨w2.heap.size, 1, none⟩ = some (.int .i64 b)) := Lib.hid fun W hW u => by
    have q1 := Ow.cell (Ow.set (HKY.out W hW) 2 u) (k := 1) (by simp)
    simpa using q1
  have HBD : Hid (∀ x : Int, 0 ≤ x → x < 30 → IntKind.i64.wrap (b + x) = b + x ∧ IntKind.i64.wrap (b + x - 8) = b + x - 8) := Lib.hid fun x h1 h2 => ⟨IntWalk.i64_in _ (by omega), IntWalk.i64_in _ (by omega)⟩
  clear hbc hdr
  go_region_held3 (fun w' => w'.cell? ⟨w2.heap.size, 1, none⟩ = some (.int .i64 b)) (first | (exact HKJ.out _ HDR.out) | (exact HKJ.out _ HGA.out) | (exact HKU.out _ HGA.out _) | go_keep) (first | (go_at_call 38; refine (pick_pos g hi _ 30 _ HSD.out (by omega) (by omega)).mono ?_; rintro eA wA ⟨x, ⟨hx0, hx1⟩, rfl, hsA, hgA⟩; have HGA : Hid (Gr1 g W3 wA) := Lib.hid (HDR.out.trans hgA); have HSA := Lib.hid hsA; have ht2 := Ow.cell (HKY.out _ HGA.out) (k := 2) (by simp); have hf2 := Ow.free (HKY.out _ HGA.out) 2; simp only [List.getElem_cons_zero, List.getElem_cons_succ] at ht2; obtain ⟨hy1, hy2⟩ := HBD.out x hx0 hx1) | (go_at_call 68; refine (l00Max_tr 0 _ _).mono ?_; rintro eB wB ⟨rfl, rfl⟩))
  go_upto_region 3 with fail
  refine wp_gen (fun W5 hW5 => ?_)
  obtain ⟨y, hy⟩ : ∃ y, max 0 (b + x - 8) = y := ⟨_, rfl⟩
  rw [hy] at hW5
  have HY5 : Hid (Ow W5 w.heap.size 25 3 (.slice (some ⟨w2.heap.size, 0, none⟩) 1 1) 1 [.int .i64 a, .int .i64 b, .int .i64 y]) := Lib.hid (by rw [hW5]; exact Ow.set (HKY.out _ HGA.out) 2 (.int .i64 y))
  have HX5 : Hid (Ow W5 w.heap.size 25 3 (.slice (some ⟨w.heap.size, 0, none⟩) 1 1) 1 [.int .i64 0, .int .i64 0, .int .i64 0]) := Lib.hid (by
    rw [hW5]
    exact (HX3.out.gr1 HGA.out hgw).keptS (u := .slice (some ⟨w2.heap.size, 0, none⟩) 1 1) (Ow.grow (k := 2) (HKY.out _ HGA.out) (.int .i64 y)) (.inr (by simp [Value.ownBlock]; exact hne)))
  have HS5 : Hid (Src W5 g hi (m + 2 + 2 + 2)) := Lib.hid (by rw [hW5]; exact HSA.out.row (v := .slice (some ⟨w2.heap.size, 0, none⟩) 1 1) (Ow.grow (k := 2) (HKY.out _ HGA.out) (.int .i64 y)) (HKY.out _ HGA.out) hhw)
  have HG5 : Hid (Gr1 g w W5) := Lib.hid (by rw [hW5]; exact (HG3.out.trans HGA.out).bl (below_own (Below.refl w.heap.size wA) (HKY.out _ HGA.out) (Ow.grow (k := 2) (HKY.out _ HGA.out) (.int .i64 y)) (HG3.out.trans HGA.out).size (Nat.le_refl _)) (Nat.le_refl _))
  clear hW5 ht2 hf2 hy1 hy2 hy
  have c0 := Ow.cell HY5.out (k := 0) (by simp); have c1 := Ow.cell HY5.out (k := 1) (by simp); have c2 := Ow.cell HY5.out (k := 2) (by simp)
  have d0 := Ow.cell HX5.out (k := 0) (by simp); have d1 := Ow.cell HX5.out (k := 1) (by simp); have d2 := Ow.cell HX5.out (k := 2) (by simp)
  have f0 := Ow.free HX5.out 0; have f1 := Ow.free HX5.out 1; have f2 := Ow.free HX5.out 2
  simp only [List.getElem_cons_zero, List.getElem_cons_succ] at c0 c1 c2 d0 d1 d2
  have hlx := (HX5.out.lt w.heap.size rfl).2
  have g6 := Ow.grow (k := 0) HX5.out (.int .i64 a)
  have HX6 := Lib.hid (Ow.set HX5.out 0 (.int .i64 a))
  have HS6 := Lib.hid (HS5.out.row (v := .slice (some ⟨w.heap.size, 0, none⟩) 1 1) g6 HX5.out hhw)
  have HG6 := Lib.hid (HG5.out.bl (below_own (Below.refl w.heap.size W5) HX5.out g6 HG5.out.size (Nat.le_refl _)) (Nat.le_refl _))
  have g7 := Ow.grow (k := 1) HX6.out (.int .i64 b)
  have HX7 := Lib.hid (Ow.set HX6.out 1 (.int .i64 b))
  have HS7 := Lib.hid (HS6.out.row (v := .slice (some ⟨w.heap.size, 0, none⟩) 1 1) g7 HX6.out hhw)
  have HG7 := Lib.hid (HG6.out.bl (below_own (Below.refl w.heap.size _) HX6.out g7 HG6.out.size (Nat.le_refl _)) (Nat.le_refl _))
  have g8 := Ow.grow (k := 2) HX7.out (.int .i64 y)
  have HX8 := Lib.hid (Ow.set HX7.out 2 (.int .i64 y))
  have HS8 := Lib.hid (HS7.out.row (v := .slice (some ⟨w.heap.size, 0, none⟩) 1 1) g8 HX7.out hhw)
  have HG8 := Lib.hid (HG7.out.bl (below_own (Below.refl w.heap.size _) HX7.out g8 HG7.out.size (Nat.le_refl _)) (Nat.le_refl _))
  have e0 := Ow.cell HX8.out (k := 0) (by simp); have e1 := Ow.cell HX8.out (k := 1) (by simp); have e2 := Ow.cell HX8.out (k := 2) (by simp)
  simp at e0 e1 e2
  clear g6 g7 g8
  go_wp2
  exact bodyPost_ret (v := .agg #[.int .i64 a, .int .i64 b, .int .i64 y]) (by simp [results, Tryd.results56, go_sem, e0, e1, e2]) rfl ⟨a, b, y, rfl, HS8.out, HG8.out⟩

/-- a trip of a row is spoilt: the row keeps its length -/
def SpT (w0 : World) (g hi m gl n c : Nat) (e : Ending) (w' : World) : Prop :=
  ∃ ns : List Int, ns.length = n * 3 ∧ e = .returned (.tuple #[]) ∧ Ow w' w0.heap.size 25 3 (.slice (some ⟨gl, 0, none⟩) n c) n (ns.map (Value.int .i64)) ∧ Src w' g hi m ∧ Gr1 g w0 w'
set_option maxRecDepth 100000 in
set_option maxHeartbeats 4000000 in
theorem spoilT_any (w0 : World) (g hi m gl n c j : Nat) (ns : List Int) (w : World) (h : Src w g hi m) (hm : m ≤ 1000000) (hhw : hi ≤ w0.heap.size) (hgw : g < w0.heap.size) (hg : Gr1 g w0 w) (hl : ns.length = n * 3) (hj : j < n) (ho : Ow w w0.heap.size 25 3 (.slice (some ⟨gl, 0, none⟩) n c) n (ns.map (Value.int .i64))) :
    Calls Tryd.prog 57 #[.pointer (some ⟨g, 0, none⟩), .pointer (some ⟨gl, j * 3, none⟩)] w (SpT w0 g hi (m + 4) gl n c) := by
  have HS := Lib.hid h; have HG := Lib.hid hg; have HO := Lib.hid ho; have HNL := Lib.hid hl
  clear h hg ho hl
  go_enter Tryd.func57, Tryd.ntmps57
  go_wp2_with fail
  refine (pick_pos g hi m 3 _ HS.out (by omega) (by omega)).mono ?_
  rintro e wb ⟨q, ⟨hq0, hq1⟩, rfl, hsb, hgb⟩
  have HSb := Lib.hid hsb; have HGb := Lib.hid (HG.out.trans hgb); have HOb := Lib.hid (HO.out.gr1 hgb hgw)
  clear hsb hgb HS HG HO
  by_cases hq0 : q = 0
  · subst hq0
    have hbc := below_alloc wb (.cells #[.int .i64 (-1), .int .i64 0, .int .i64 9, .int .i64 10] 2)
    have HSc := Lib.hid (HSb.out.ex hbc); have HGc := Lib.hid (HGb.out.bl hbc HGb.out.size); have HOc := Lib.hid (HOb.out.ex hbc)
    have HLc : Hid (OwI (wb.alloc (.cells #[.int .i64 (-1), .int .i64 0, .int .i64 9, .int .i64 10] 2)) w0.heap.size (.slice (some ⟨wb.heap.size, 0, none⟩) 4 4) [(-1), 0, 9, 10]) := Lib.hid (Ow.lay wb (lo := w0.heap.size) (sz := 1) 2 #[.int .i64 (-1), .int .i64 0, .int .i64 9, .int .i64 10] 4 HGb.out.size (by omega) rfl)
    clear hbc
    go_wp2_with fail
    refine (among_any g hi _ w0.heap.size _ [(-1), 0, 9, 10] _ HSc.out (by omega) HLc.out hgw (by simp)).mono ?_
    rintro e wd ⟨y, -, rfl, hsd, hgd⟩
    have HSd := Lib.hid hsd; have HGd := Lib.hid (HGc.out.trans hgd); have HOd := Lib.hid (HOc.out.gr1 hgd hgw)
    have hcd := Ow.cell HOd.out (k := j * 3 + 0) (by rw [List.length_map, HNL.out]; omega)
    have hfd := Ow.free HOd.out (j * 3 + 0)
    simp only [Nat.add_zero] at hcd hfd
    have hgr := Ow.grow (k := j * 3) HOd.out (.int .i64 y)
    have HOe : Hid (Ow (wd.setCell ⟨gl, j * 3, none⟩ (.int .i64 y)) w0.heap.size 25 3 (.slice (some ⟨gl, 0, none⟩) n c) n ((ns.set (j * 3) y).map (Value.int .i64))) := Lib.hid (by rw [List.map_set]; exact Ow.set HOd.out (j * 3) (.int .i64 y))
    have HSe := Lib.hid (HSd.out.row (v := .slice (some ⟨gl, 0, none⟩) n c) hgr HOd.out hhw)
    have HGe := Lib.hid (HGd.out.bl (below_own (Below.refl w0.heap.size wd) HOd.out hgr HGd.out.size (Nat.le_refl _)) (Nat.le_refl _))
    clear hsd hgd hgr
    go_wp2
    refine bodyPost_end (v := .tuple #[]) (by simp [results, Tryd.results57]) rfl ?_
    exact ⟨_, by rw [List.length_set]; exact HNL.out, rfl, HOe.out, HSe.out.mono (by omega), HGe.out⟩
  by_cases hq1 : q = 1
  · subst hq1
    have hbc := below_alloc wb (.cells #[.int .i64 (-1), .int .i64 0, .int .i64 10000, .int .i64 10001, .int .i64 (-9223372036854775808)] 2)
    have HSc := Lib.hid (HSb.out.ex hbc); have HGc := Lib.hid (HGb.out.bl hbc HGb.out.size); have HOc := Lib.hid (HOb.out.ex hbc)
    have HLc : Hid (OwI (wb.alloc (.cells #[.int .i64 (-1), .int .i64 0, .int .i64 10000, .int .i64 10001, .int .i64 (-9223372036854775808)] 2)) w0.heap.size (.slice (some ⟨wb.heap.size, 0, none⟩) 5 5) [(-1), 0, 10000, 10001, (-9223372036854775808)]) := Lib.hid (Ow.lay wb (lo := w0.heap.size) (sz := 1) 2 #[.int .i64 (-1), .int .i64 0, .int .i64 10000, .int .i64 10001, .int .i64 (-9223372036854775808)] 5 HGb.out.size (by omega) rfl)
    clear hbc
    go_wp2_with fail
    refine (among_any g hi _ w0.heap.size _ [(-1), 0, 10000, 10001, (-9223372036854775808)] _ HSc.out (by omega) HLc.out hgw (by simp)).mono ?_
    rintro e wd ⟨y, -, rfl, hsd, hgd⟩
    have HSd := Lib.hid hsd; have HGd := Lib.hid (HGc.out.trans hgd); have HOd := Lib.hid (HOc.out.gr1 hgd hgw)
    have hcd := Ow.cell HOd.out (k := j * 3 + 1) (by rw [List.length_map, HNL.out]; omega)
    have hfd := Ow.free HOd.out (j * 3 + 1)
    have hgr := Ow.grow (k := j * 3 + 1) HOd.out (.int .i64 y)
    have HOe : Hid (Ow (wd.setCell ⟨gl, j * 3 + 1, none⟩ (.int .i64 y)) w0.heap.size 25 3 (.slice (some ⟨gl, 0, none⟩) n c) n ((ns.set (j * 3 + 1) y).map (Value.int .i64))) := Lib.hid (by rw [List.map_set]; exact Ow.set HOd.out (j * 3 + 1) (.int .i64 y))
    have HSe := Lib.hid (HSd.out.row (v := .slice (some ⟨gl, 0, none⟩) n c) hgr HOd.out hhw)
    have HGe := Lib.hid (HGd.out.bl (below_own (Below.refl w0.heap.size wd) HOd.out hgr HGd.out.size (Nat.le_refl _)) (Nat.le_refl _))
    clear hsd hgd hgr
    go_wp2
    refine bodyPost_end (v := .tuple #[]) (by simp [results, Tryd.results57]) rfl ?_
    exact ⟨_, by rw [List.length_set]; exact HNL.out, rfl, HOe.out, HSe.out.mono (by omega), HGe.out⟩
  by_cases hq2 : q = 2
  · subst hq2
    have hbc := below_alloc wb (.cells #[.int .i64 (-1), .int .i64 0, .int .i64 10000, .int .i64 10001] 2)
    have HSc := Lib.hid (HSb.out.ex hbc); have HGc := Lib.hid (HGb.out.bl hbc HGb.out.size); have HOc := Lib.hid (HOb.out.ex hbc)
    have HLc : Hid (OwI (wb.alloc (.cells #[.int .i64 (-1), .int .i64 0, .int .i64 10000, .int .i64 10001] 2)) w0.heap.size (.slice (some ⟨wb.heap.size, 0, none⟩) 4 4) [(-1), 0, 10000, 10001]) := Lib.hid (Ow.lay wb (lo := w0.heap.size) (sz := 1) 2 #[.int .i64 (-1), .int .i64 0, .int .i64 10000, .int .i64 10001] 4 HGb.out.size (by omega) rfl)
    clear hbc
    go_wp2_with fail
    refine (among_any g hi _ w0.heap.size _ [(-1), 0, 10000, 10001] _ HSc.out (by omega) HLc.out hgw (by simp)).mono ?_
    rintro e wd ⟨y, -, rfl, hsd, hgd⟩
    have HSd := Lib.hid hsd; have HGd := Lib.hid (HGc.out.trans hgd); have HOd := Lib.hid (HOc.out.gr1 hgd hgw)
    have hcd := Ow.cell HOd.out (k := j * 3 + 2) (by rw [List.length_map, HNL.out]; omega)
    have hfd := Ow.free HOd.out (j * 3 + 2)
    have hgr := Ow.grow (k := j * 3 + 2) HOd.out (.int .i64 y)
    have HOe : Hid (Ow (wd.setCell ⟨gl, j * 3 + 2, none⟩ (.int .i64 y)) w0.heap.size 25 3 (.slice (some ⟨gl, 0, none⟩) n c) n ((ns.set (j * 3 + 2) y).map (Value.int .i64))) := Lib.hid (by rw [List.map_set]; exact Ow.set HOd.out (j * 3 + 2) (.int .i64 y))
    have HSe := Lib.hid (HSd.out.row (v := .slice (some ⟨gl, 0, none⟩) n c) hgr HOd.out hhw)
    have HGe := Lib.hid (HGd.out.bl (below_own (Below.refl w0.heap.size wd) HOd.out hgr HGd.out.size (Nat.le_refl _)) (Nat.le_refl _))
    clear hsd hgd hgr
    go_wp2
    refine bodyPost_end (v := .tuple #[]) (by simp [results, Tryd.results57]) rfl ?_
    exact ⟨_, by rw [List.length_set]; exact HNL.out, rfl, HOe.out, HSe.out.mono (by omega), HGe.out⟩
  exfalso; omega
end Go.Proofs.YthpijecjifmnbaaDoor
