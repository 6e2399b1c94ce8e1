/-
What FnDelays draws: DrawDelayAtShare, DrawDelayClasses, DrawDelayOfTrip. Condition: the code is no longer than 1048576.
-/
import Derived.Test.YthpijecjifmnbaaDoorDrE
namespace Go.Proofs.YthpijecjifmnbaaDoor
open Go.RowKit Go.Deep
set_option linter.unusedVariables false

theorem drawDas_any (v : Value) (bs : List Int) (w : World) (hv : SlB w v bs) (hl : bs.length ≤ 1048576) : Calls Tryd.prog 9 #[v] w (TsPost w) := by
  have HV := Lib.hid hv
  clear hv
  go_enter Tryd.func9, Tryd.ntmps9
  go_wp2_with fail
  refine (from_any v bs _ HV.out hl).mono ?_
  rintro e w1 ⟨rfl, hs1, hb1⟩
  have HS1 := Lib.hid hs1; have HB1 := Lib.hid hb1
  clear hs1 hb1
  go_wp2_with fail
  refine (drawTs_any _ _ _ _ HS1.out (by omega)).mono ?_
  rintro e w2 ⟨A2, n, c2, ns, hn, hnl, rfl, ho2, hs2, hg2⟩
  obtain ⟨ts, ht1, ht2⟩ := group3 n ns hnl
  have HS2 := Lib.hid hs2; have HG2 := Lib.hid hg2
  have HO2 : Hid (Ow w2 w1.heap.size 25 3 (.slice A2 n c2) n (ts.flatMap Trip.vals)) := Lib.hid (by rw [ht2]; exact ho2)
  have HLO := Lib.hid HS1.out
  have hgl : w.heap.size < w1.heap.size := Nat.lt_of_lt_of_le HLO.out.gh HLO.out.hw
  clear hs2 hg2 ho2 ht2 hnl
  go_wp2_with fail
  refine (one_any _ _ _ 6 _ HS2.out (by omega)).mono ?_
  rintro e w3 ⟨b, rfl, hs3, hg3⟩
  have HO3 : Hid (Ow w3 w1.heap.size 25 3 (.slice A2 n c2) n (ts.flatMap Trip.vals)) := Lib.hid (Ow.gr1 HO2.out hg3 hgl)
  have HS3 := Lib.hid hs3; have HG3 := Lib.hid (HG2.out.trans hg3)
  clear hs3 hg3
  cases b with
  | true =>
    have hbc := below_alloc w3 (.cells #[.int .i64 (-1), .int .i64 0, .int .i64 1, .int .i64 1000, .int .i64 1001] 2)
    have HSc := Lib.hid (HS3.out.ex hbc); have HGc := Lib.hid (HG3.out.bl hbc HG3.out.size); have HOc := Lib.hid (HO3.out.ex hbc)
    have HLc : Hid (OwI (w3.alloc (.cells #[.int .i64 (-1), .int .i64 0, .int .i64 1, .int .i64 1000, .int .i64 1001] 2)) w1.heap.size (.slice (some ⟨w3.heap.size, 0, none⟩) 5 5) [(-1), 0, 1, 1000, 1001]) := Lib.hid (Ow.lay w3 (lo := w1.heap.size) (sz := 1) 2 #[.int .i64 (-1), .int .i64 0, .int .i64 1, .int .i64 1000, .int .i64 1001] 5 HG3.out.size (by omega) rfl)
    clear hbc
    go_wp2_with fail
    refine (among_any _ _ _ w1.heap.size _ [(-1), 0, 1, 1000, 1001] _ HSc.out (by omega) HLc.out hgl (by simp)).mono ?_
    rintro e w4 ⟨y, hy, rfl, hsd, hgd⟩
    have HY := Lib.hid hy; clear hy
    have HOd := Lib.hid (HOc.out.gr1 hgd hgl)
    have HB4 : Hid (Below w.heap.size w w4) := Lib.hid (GrS.belowNew (HGc.out.trans hgd) (Nat.le_refl _) HB1.out)
    clear hsd hgd
    go_wp2
    go_ret2
    exact ⟨A2, n, c2, ts, y, (by have h := HY.out; simp at h; omega), ht1, hn, rfl, HOd.out.cap, by have := HOd.out.sl; rw [← ht1] at this ⊢; exact this, HB4.out⟩
  | false =>
    go_wp2_with fail
    refine (pick_pos _ _ _ 1000 _ HS3.out (by omega) (by omega)).mono ?_
    rintro e w4 ⟨y, ⟨hy0, hy1⟩, rfl, hsd, hgd⟩
    have HOd := Lib.hid (HO3.out.gr1 hgd hgl)
    have HB4 : Hid (Below w.heap.size w w4) := Lib.hid (GrS.belowNew (HG3.out.trans hgd) (Nat.le_refl _) HB1.out)
    clear hsd hgd
    go_wp2
    go_ret2
    exact ⟨A2, n, c2, ts, _, (by omega), ht1, hn, rfl, HOd.out.cap, by have := HOd.out.sl; rw [← ht1] at this ⊢; exact this, HB4.out⟩
/-- trips and two numbers -/
def ClPost (w : World) (e : Ending) (w' : World) : Prop :=
  ∃ (A : Option Addr) (n c : Nat) (ts : List Trip) (x y : Int), (-9223372036854775808 ≤ x ∧ x ≤ 9223372036854775807) ∧ (-9223372036854775808 ≤ y ∧ y ≤ 9223372036854775807) ∧ ts.length = n ∧ n ≤ 101 ∧ e = .returned (.tuple #[.slice A n c, .int .i64 x, .int .i64 y]) ∧ SlTrip w' (.slice A n c) ts ∧ Below w.heap.size w w'
set_option maxHeartbeats 2000000 in
theorem drawCls_any (v : Value) (bs : List Int) (w : World) (hv : SlB w v bs) (hl : bs.length ≤ 1048576) : Calls Tryd.prog 17 #[v] w (ClPost w) := by
  have HV := Lib.hid hv
  clear hv
  go_enter Tryd.func17, Tryd.ntmps17
  go_wp2_with fail
  refine (from_any v bs _ HV.out hl).mono ?_
  rintro e w1 ⟨rfl, hs1, hb1⟩
  have HS1 := Lib.hid hs1; have HB1 := Lib.hid hb1
  clear hs1 hb1
  go_wp2_with fail
  refine (drawTs_any _ _ _ _ HS1.out (by omega)).mono ?_
  rintro e w2 ⟨A2, n, c2, ns, hn, hnl, rfl, ho2, hs2, hg2⟩
  obtain ⟨ts, ht1, ht2⟩ := group3 n ns hnl
  have HS2 := Lib.hid hs2; have HG2 := Lib.hid hg2
  have HO2 : Hid (Ow w2 w1.heap.size 25 3 (.slice A2 n c2) n (ts.flatMap Trip.vals)) := Lib.hid (by rw [ht2]; exact ho2)
  have HLO := Lib.hid HS1.out
  have hgl : w.heap.size < w1.heap.size := Nat.lt_of_lt_of_le HLO.out.gh HLO.out.hw
  clear hs2 hg2 ho2 ht2 hnl
  go_wp2_with fail
  refine (pick_pos _ _ _ 9 _ HS2.out (by omega) (by omega)).mono ?_
  rintro e w3 ⟨x, ⟨hx0, hx1⟩, rfl, hs3, hg3⟩
  have HO3 := Lib.hid (HO2.out.gr1 hg3 hgl); have HS3 := Lib.hid hs3; have HG3 := Lib.hid (HG2.out.trans hg3)
  clear hs3 hg3
  go_wp2_with fail
  refine (one_any _ _ _ 8 _ HS3.out (by omega)).mono ?_
  rintro e w4 ⟨b, rfl, hs4, hg4⟩
  have HO4 := Lib.hid (HO3.out.gr1 hg4 hgl); have HS4 := Lib.hid hs4; have HG4 := Lib.hid (HG3.out.trans hg4)
  clear hs4 hg4 HO2 HO3 HS2 HS3 HG2 HG3
  cases b with
  | true =>
    have hbc := below_alloc w4 (.cells #[.int .i64 (-1), .int .i64 0, .int .i64 1, .int .i64 10000, .int .i64 10001] 2)
    have HSc := Lib.hid (HS4.out.ex hbc); have HGc := Lib.hid (HG4.out.bl hbc HG4.out.size); have HOc := Lib.hid (HO4.out.ex hbc)
    have HLc : Hid (OwI (w4.alloc (.cells #[.int .i64 (-1), .int .i64 0, .int .i64 1, .int .i64 10000, .int .i64 10001] 2)) w1.heap.size (.slice (some ⟨w4.heap.size, 0, none⟩) 5 5) [(-1), 0, 1, 10000, 10001]) := Lib.hid (Ow.lay w4 (lo := w1.heap.size) (sz := 1) 2 #[.int .i64 (-1), .int .i64 0, .int .i64 1, .int .i64 10000, .int .i64 10001] 5 HG4.out.size (by omega) rfl)
    clear hbc
    go_wp2_with fail
    refine (among_any _ _ _ w1.heap.size _ [(-1), 0, 1, 10000, 10001] _ HSc.out (by omega) HLc.out hgl (by simp)).mono ?_
    rintro e w5 ⟨y, hmm, rfl, hsd, hgd⟩
    have hy : -1 ≤ y ∧ y ≤ 10001 := by simp at hmm; omega
    have HO5 := Lib.hid (HOc.out.gr1 hgd hgl); have HS5 := Lib.hid hsd; have HG5 := Lib.hid (HGc.out.trans hgd)
    clear hsd hgd hmm HLc HSc HGc HOc
    go_wp2_with fail
    refine (one_any _ _ _ 8 _ HS5.out (by omega)).mono ?_
    rintro e w6 ⟨b, rfl, hs, hg⟩
    have HO6 := Lib.hid (HO5.out.gr1 hg hgl); have HS6 := Lib.hid hs; have HG6 := Lib.hid (HG5.out.trans hg)
    clear hs hg
    cases b with
    | true =>
      have hbc := below_alloc w6 (.cells #[.int .i64 (-1), .int .i64 0, .int .i64 1, .int .i64 20, .int .i64 21] 2)
      have HSc := Lib.hid (HS6.out.ex hbc); have HGc := Lib.hid (HG6.out.bl hbc HG6.out.size); have HOc := Lib.hid (HO6.out.ex hbc)
      have HLc : Hid (OwI (w6.alloc (.cells #[.int .i64 (-1), .int .i64 0, .int .i64 1, .int .i64 20, .int .i64 21] 2)) w1.heap.size (.slice (some ⟨w6.heap.size, 0, none⟩) 5 5) [(-1), 0, 1, 20, 21]) := Lib.hid (Ow.lay w6 (lo := w1.heap.size) (sz := 1) 2 #[.int .i64 (-1), .int .i64 0, .int .i64 1, .int .i64 20, .int .i64 21] 5 HG6.out.size (by omega) rfl)
      clear hbc
      go_wp2_with fail
      refine (among_any _ _ _ w1.heap.size _ [(-1), 0, 1, 20, 21] _ HSc.out (by omega) HLc.out hgl (by simp)).mono ?_
      rintro e w7 ⟨z, hmm, rfl, hsd, hgd⟩
      have hz : -1 ≤ z ∧ z ≤ 10001 := by simp at hmm; omega
      have HO7 := Lib.hid (HOc.out.gr1 hgd hgl); have HS7 := Lib.hid hsd; have HG7 := Lib.hid (HGc.out.trans hgd)
      clear hsd hgd hmm HLc HSc HGc HOc
      have HB := Lib.hid (GrS.belowNew (w0 := w) HG7.out (Nat.le_refl _) HB1.out)
      go_wp2
      go_ret3
      exact ⟨A2, n, c2, ts, y, z, (by omega), (by omega), ht1, hn, rfl, by have := HO7.out.sl; rw [← ht1] at this ⊢; exact this, HB.out⟩
    | false =>
      go_wp2_with fail
      refine (pick_pos _ _ _ 6 _ HS6.out (by omega) (by omega)).mono ?_
      rintro e w7 ⟨z, ⟨hz0, hz1⟩, rfl, hs, hg⟩
      have HO7 := Lib.hid (HO6.out.gr1 hg hgl); have HS7 := Lib.hid hs; have HG7 := Lib.hid (HG6.out.trans hg)
      clear hs hg
      have HB := Lib.hid (GrS.belowNew (w0 := w) HG7.out (Nat.le_refl _) HB1.out)
      go_wp2
      go_ret3
      exact ⟨A2, n, c2, ts, y, _, (by omega), (by omega), ht1, hn, rfl, by have := HO7.out.sl; rw [← ht1] at this ⊢; exact this, HB.out⟩
  | false =>
    go_wp2_with fail
    refine (one_any _ _ _ 8 _ HS4.out (by omega)).mono ?_
    rintro e w5 ⟨b, rfl, hs, hg⟩
    have HO5 := Lib.hid (HO4.out.gr1 hg hgl); have HS5 := Lib.hid hs; have HG5 := Lib.hid (HG4.out.trans hg)
    clear hs hg
    cases b with
    | true =>
      have hbc := below_alloc w5 (.cells #[.int .i64 (-1), .int .i64 0, .int .i64 1, .int .i64 20, .int .i64 21] 2)
      have HSc := Lib.hid (HS5.out.ex hbc); have HGc := Lib.hid (HG5.out.bl hbc HG5.out.size); have HOc := Lib.hid (HO5.out.ex hbc)
      have HLc : Hid (OwI (w5.alloc (.cells #[.int .i64 (-1), .int .i64 0, .int .i64 1, .int .i64 20, .int .i64 21] 2)) w1.heap.size (.slice (some ⟨w5.heap.size, 0, none⟩) 5 5) [(-1), 0, 1, 20, 21]) := Lib.hid (Ow.lay w5 (lo := w1.heap.size) (sz := 1) 2 #[.int .i64 (-1), .int .i64 0, .int .i64 1, .int .i64 20, .int .i64 21] 5 HG5.out.size (by omega) rfl)
      clear hbc
      go_wp2_with fail
      refine (among_any _ _ _ w1.heap.size _ [(-1), 0, 1, 20, 21] _ HSc.out (by omega) HLc.out hgl (by simp)).mono ?_
      rintro e w6 ⟨z, hmm, rfl, hsd, hgd⟩
      have hz : -1 ≤ z ∧ z ≤ 10001 := by simp at hmm; omega
      have HO6 := Lib.hid (HOc.out.gr1 hgd hgl); have HS6 := Lib.hid hsd; have HG6 := Lib.hid (HGc.out.trans hgd)
      clear hsd hgd hmm HLc HSc HGc HOc
      have HB := Lib.hid (GrS.belowNew (w0 := w) HG6.out (Nat.le_refl _) HB1.out)
      go_wp2
      go_ret3
      exact ⟨A2, n, c2, ts, _, z, (by omega), (by omega), ht1, hn, rfl, by have := HO6.out.sl; rw [← ht1] at this ⊢; exact this, HB.out⟩
    | false =>
      go_wp2_with fail
      refine (pick_pos _ _ _ 6 _ HS5.out (by omega) (by omega)).mono ?_
      rintro e w6 ⟨z, ⟨hz0, hz1⟩, rfl, hs, hg⟩
      have HO6 := Lib.hid (HO5.out.gr1 hg hgl); have HS6 := Lib.hid hs; have HG6 := Lib.hid (HG5.out.trans hg)
      clear hs hg
      have HB := Lib.hid (GrS.belowNew (w0 := w) HG6.out (Nat.le_refl _) HB1.out)
      go_wp2
      go_ret3
      exact ⟨A2, n, c2, ts, _, _, (by omega), (by omega), ht1, hn, rfl, by have := HO6.out.sl; rw [← ht1] at this ⊢; exact this, HB.out⟩
/-- a trip -/
def TrPost (w : World) (e : Ending) (w' : World) : Prop := ∃ x y z : Int, e = .returned (.agg #[.int .i64 x, .int .i64 y, .int .i64 z]) ∧ Below w.heap.size w w'
set_option maxHeartbeats 2000000 in
theorem drawTrip_any (v : Value) (bs : List Int) (w : World) (hv : SlB w v bs) (hl : bs.length ≤ 1048576) : Calls Tryd.prog 22 #[v] w (TrPost w) := by
  have hb0 := below_alloc w (.cells #[.int .i64 0, .int .i64 0, .int .i64 0] 25)
  have HV := Lib.hid (hv.ex hb0)
  have HX0 := Lib.hid (Ow.lay w (lo := w.heap.size) (sz := 3) 25 #[.int .i64 0, .int .i64 0, .int .i64 0] 1 (Nat.le_refl _) (by omega) rfl)
  have HB0 := Lib.hid hb0
  obtain ⟨W0, hW0⟩ : ∃ x : World, x = w.alloc (.cells #[.int .i64 0, .int .i64 0, .int .i64 0] 25) := ⟨_, rfl⟩
  have hs0 : W0.heap.size = w.heap.size + 1 := by rw [hW0]; simp [go_sem]
  rw [← hW0] at HV HX0 HB0
  clear hv hb0
  go_enter Tryd.func22, Tryd.ntmps22
  go_wp2_with fail
  rw [← hW0]
  refine (from_any v bs _ HV.out hl).mono ?_
  rintro e w1 ⟨rfl, hs1, hb1⟩
  have HS1 := Lib.hid hs1; have HB1 := Lib.hid (below_next0 HB0.out hb1); have HX1 := Lib.hid (HX0.out.ex hb1)
  have hg0 : W0.heap.size < w1.heap.size := Nat.lt_of_lt_of_le HS1.out.gh HS1.out.hw
  have hne : ∀ g, (Value.slice (some ⟨w.heap.size, 0, none⟩) 1 1).ownBlock = some g → ¬ g = W0.heap.size := fun g hg h => by
    have : w.heap.size = g := by simpa [Value.ownBlock] using hg
    omega
  have HNE : Hid (Off (fun k => k = W0.heap.size) (.slice (some ⟨w.heap.size, 0, none⟩) 1 1)) := Lib.hid hne
  have hwg : w.heap.size ≤ W0.heap.size := by omega
  generalize W0.heap.size = g at HS1 HNE hwg hg0
  clear hs1 hb1 hne hs0 hW0 HV HX0 HB0
  go_wp2_with fail
  refine (newTrip_any g _ _ _ HS1.out (by omega)).mono ?_
  rintro e w2 ⟨a, b, c, rfl, hs2, hg2⟩
  have HS2 := Lib.hid hs2; have HG2 := Lib.hid hg2; have HX2 := Lib.hid (HX1.out.off hg2 HNE.out)
  have hgw : g < w2.heap.size := Nat.lt_of_lt_of_le hg0 hg2.size
  have hlw := HG2.out.size
  have hba := below_alloc w2 (.cells #[.int .i64 a, .int .i64 b, .int .i64 c] 25)
  have HS3 := Lib.hid (hs2.ex hba); have HG3 : Hid (Gr1 g w2 _) := Lib.hid (GrS.alloc w2 (.cells #[.int .i64 a, .int .i64 b, .int .i64 c] 25)); have HX3 := Lib.hid (HX2.out.ex hba)
  have HY3 := Lib.hid (Ow.lay w2 (lo := w2.heap.size) (sz := 3) 25 #[.int .i64 a, .int .i64 b, .int .i64 c] 1 (Nat.le_refl _) (by omega) rfl)
  clear hs2 hg2 hba
  go_wp2_with fail
  refine (one_any g _ _ 4 _ HS3.out (by omega)).mono ?_
  rintro e w4 ⟨q, rfl, hs4, hg4⟩
  have HS4 := Lib.hid hs4; have HG4 := Lib.hid (HG3.out.trans hg4); have HX4 := Lib.hid (HX3.out.off hg4 HNE.out); have HY4 := Lib.hid (HY3.out.gr1 hg4 hgw)
  clear hs4 hg4 HS3 HG3 HX3 HY3
  cases q with
  | true =>
    go_wp2_with fail
    refine (spoilT_any w2 g _ _ w2.heap.size 1 1 0 [a, b, c] _ HS4.out (by omega) HS2.out.hw hgw HG4.out rfl (by omega) HY4.out).mono ?_
    rintro e w5 ⟨ns, hns, rfl, hy5, hs5, hg5⟩
    have HX5 := Lib.hid (HX2.out.off hg5 HNE.out); have HG5 := Lib.hid hg5
    match ns, hns, hy5 with
    | [x2, y2, z2], _, hy5 =>
    have HY5 := Lib.hid hy5
    clear hy5 hs5 hg5
    have HB := Lib.hid (GrS.belowNew (w0 := w) (HG2.out.trans HG5.out) hwg HB1.out)
    have c0 := Ow.cell HY5.out (k := 0) (by simp); have c1 := Ow.cell HY5.out (k := 1) (by simp); have c2 := Ow.cell HY5.out (k := 2) (by simp)
    have d0 := Ow.cell HX5.out (k := 0) (by simp); have d1 := Ow.cell HX5.out (k := 1) (by simp); have d2 := Ow.cell HX5.out (k := 2) (by simp)
    have f0 := Ow.free HX5.out 0; have f1 := Ow.free HX5.out 1; have f2 := Ow.free HX5.out 2
    simp at c0 c1 c2 d0 d1 d2
    have g6 := Ow.grow (k := 0) HX5.out (.int .i64 x2)
    have HX6 := Lib.hid (Ow.set HX5.out 0 (.int .i64 x2))
    have HB6 := Lib.hid (below_own HB.out HX5.out g6 HB.out.size (Nat.le_refl _))
    have g7 := Ow.grow (k := 1) HX6.out (.int .i64 y2)
    have HX7 := Lib.hid (Ow.set HX6.out 1 (.int .i64 y2))
    have HB7 := Lib.hid (below_own HB6.out HX6.out g7 HB6.out.size (Nat.le_refl _))
    have g8 := Ow.grow (k := 2) HX7.out (.int .i64 z2)
    have HX8 := Lib.hid (Ow.set HX7.out 2 (.int .i64 z2))
    have HB8 := Lib.hid (below_own HB7.out HX7.out g8 HB7.out.size (Nat.le_refl _))
    have e0 := Ow.cell HX8.out (k := 0) (by simp); have e1 := Ow.cell HX8.out (k := 1) (by simp); have e2 := Ow.cell HX8.out (k := 2) (by simp)
    simp at e0 e1 e2
    clear g6 g7 g8
    go_wp2
    exact bodyPost_ret (v := .agg #[.int .i64 x2, .int .i64 y2, .int .i64 z2]) (by simp [results, Tryd.results22, go_sem, e0, e1, e2]) rfl ⟨x2, y2, z2, rfl, HB8.out⟩
  | false =>
    have HB := Lib.hid (GrS.belowNew (w0 := w) (HG2.out.trans HG4.out) hwg HB1.out)
    have c0 := Ow.cell HY4.out (k := 0) (by simp); have c1 := Ow.cell HY4.out (k := 1) (by simp); have c2 := Ow.cell HY4.out (k := 2) (by simp)
    have d0 := Ow.cell HX4.out (k := 0) (by simp); have d1 := Ow.cell HX4.out (k := 1) (by simp); have d2 := Ow.cell HX4.out (k := 2) (by simp)
    have f0 := Ow.free HX4.out 0; have f1 := Ow.free HX4.out 1; have f2 := Ow.free HX4.out 2
    simp at c0 c1 c2 d0 d1 d2
    have g6 := Ow.grow (k := 0) HX4.out (.int .i64 a)
    have HX6 := Lib.hid (Ow.set HX4.out 0 (.int .i64 a))
    have HB6 := Lib.hid (below_own HB.out HX4.out g6 HB.out.size (Nat.le_refl _))
    have g7 := Ow.grow (k := 1) HX6.out (.int .i64 b)
    have HX7 := Lib.hid (Ow.set HX6.out 1 (.int .i64 b))
    have HB7 := Lib.hid (below_own HB6.out HX6.out g7 HB6.out.size (Nat.le_refl _))
    have g8 := Ow.grow (k := 2) HX7.out (.int .i64 c)
    have HX8 := Lib.hid (Ow.set HX7.out 2 (.int .i64 c))
    have HB8 := Lib.hid (below_own HB7.out HX7.out g8 HB7.out.size (Nat.le_refl _))
    have e0 := Ow.cell HX8.out (k := 0) (by simp); have e1 := Ow.cell HX8.out (k := 1) (by simp); have e2 := Ow.cell HX8.out (k := 2) (by simp)
    simp at e0 e1 e2
    clear g6 g7 g8
    go_wp2
    exact bodyPost_ret (v := .agg #[.int .i64 a, .int .i64 b, .int .i64 c]) (by simp [results, Tryd.results22, go_sem, e0, e1, e2]) rfl ⟨a, b, c, rfl, HB8.out⟩
end Go.Proofs.YthpijecjifmnbaaDoor
