/-
The reference's draws of trips and limits, each by its contract: some trips, some number. Condition: a source.
-/
import Derived.Test.YthpijecjifmnbaaDoorDrD
import Derived.Test.YthpijecjifmnbaaDoorSub
namespace Go.Proofs.YthpijecjifmnbaaDoor
open Go.RowKit
set_option linter.unusedVariables false
set_option linter.unusedSimpArgs false

/-- trips were drawn -/
def ChoTs (g hi m : Nat) (w : World) (e : Ending) (w' : World) : Prop :=
  ∃ (A : Option Addr) (n c : Nat) (ns : List Int), n ≤ 101 ∧ ns.length = n * 3 ∧ e = .returned (.slice A n c) ∧ Ow w' w.heap.size 25 3 (.slice A n c) n (ns.map (Value.int .i64)) ∧ Src w' g hi m ∧ Gr1 g w w'
set_option maxRecDepth 100000 in
set_option maxHeartbeats 8000000 in
theorem drawTs_any (g hi m : Nat) (w : World) (h : Src w g hi m) (hm : m ≤ 100000) :
    Calls Tryd.prog 35 #[.pointer (some ⟨g, 0, none⟩)] w (ChoTs g hi (m + 1000) w) := by
  have hgw : g < w.heap.size := Nat.lt_of_lt_of_le h.gh h.hw
  have hhw := h.hw
  have hb0 := below_alloc w (.cells #[] 25)
  have HS0 := Lib.hid (h.ex hb0)
  have HO0 := Lib.hid (ow_empty w w.heap.size 25 3 (Nat.le_refl _))
  have HG0 : Hid (Gr1 g w _) := Lib.hid (GrS.ofBelow (R := fun k => k = g) hb0)
  clear h hb0
  go_enter Tryd.func35, Tryd.ntmps35
  go_wp2_with fail
  refine (pick_pos g hi m 12 _ HS0.out (by omega) (by omega)).mono ?_
  rintro e w1 ⟨x, ⟨hx0, hx1⟩, rfl, hs1, hg1⟩
  have HS1 := Lib.hid hs1; have HG1 := Lib.hid (HG0.out.trans hg1); have HO1 := Lib.hid (HO0.out.gr1 hg1 hgw)
  clear hs1 hg1
  go_wp2_with fail
  refine (one_any g hi _ 20 _ HS1.out (by omega)).mono ?_
  rintro e w2 ⟨b, rfl, hs2, hg2⟩
  have HS2 := Lib.hid hs2; have HG2 := Lib.hid (HG1.out.trans hg2); have HO2 := Lib.hid (HO1.out.gr1 hg2 hgw)
  clear hs2 hg2
  cases b with
  | false =>
    obtain ⟨n, rfl⟩ := Int.eq_ofNat_of_zero_le hx0
    have hn101 : n ≤ 101 := by omega
    clear HS1 HG1 HO1
    go_wp2
    go_loopw [3, 5] (fun v3 v5 wr => ∃ (k ln c : Nat) (A : Option Addr) (ns : List Int), v3 = .slice A ln c ∧ v5 = .int .i64 k ∧ k ≤ 101 ∧ Hid (k + ln = n) ∧ Hid (ns.length = ln * 3) ∧ Hid (Ow wr w.heap.size 25 3 (.slice A ln c) ln (ns.map (Value.int .i64))) ∧ Hid (Src wr g hi (m + 6 + 6 * ln)) ∧ Hid (Gr1 g w wr)) (fun _ v5 _ => (intOf v5).toNat)
    case atStart => exact ⟨n, 0, 0, _, [], rfl, rfl, by omega, Lib.hid (by omega), Lib.hid rfl, HO2, Lib.hid (HS2.out.mono (by omega)), HG2⟩
    case round =>
      clear HS2 HG2 HO2
      obtain ⟨k, ln, c, A, ns, rfl, rfl, hk101, HKL, HNL, HO, HS, HG⟩ := hrel
      by_cases h0 : 0 < k
      · have hki : (0 : Int) < (k : Int) := by omega
        have hln : ln ≤ 100 := by have := HKL.out; omega
        go_wp2_with fail
        refine (newTrip_any g hi _ _ HS.out (by omega)).mono ?_
        rintro e W6 ⟨a, b, d, rfl, hs3, hg3⟩
        have HS6 := Lib.hid hs3; have HG6 := Lib.hid (HG.out.trans hg3); have HO6 := Lib.hid (HO.out.gr1 hg3 hgw)
        have HSZ := Lib.hid (HG.out.trans hg3).size
        clear hs3 hg3
        go_wp2_with (first | (at_builtin; refine wpList_app W6 rfl (.tmp 19) (.tmp 22) 30 rfl w.heap.size 25 (.agg #[.int .i64 0, .int .i64 0, .int .i64 0]) 3 24 Tryd.underlying30 infoTrip rfl (by omega) (.slice A ln c) ln _ rfl HO6.out #[.int .i64 a, .int .i64 b, .int .i64 d] 25 1 rfl rfl (by intro v hv; simp at hv; rcases hv with rfl | rfl | rfl <;> rfl) (by omega) (by omega) HSZ.out ?_; intro A7 c7 w7 ho7 hg7 hsz7 hor7; have HO7 : Hid (Ow w7 w.heap.size 25 3 (.slice A7 (ln + 1) c7) (ln + 1) ((ns ++ [a, b, d]).map (Value.int .i64))) := Lib.hid (by rw [List.map_append]; exact ho7); have HS7 := Lib.hid (HS6.out.row hg7 HO6.out hhw); have HG7 := Lib.hid (HG6.out.bl (below_own (Below.refl w.heap.size W6) HO6.out hg7 HSZ.out (Nat.le_refl _)) (Nat.le_refl _)); clear ho7 hg7 hsz7 hor7) | fail)
        go_roundw
        case rel => exact ⟨k - 1, ln + 1, c7, A7, _, rfl, dec_num h0, by omega, Lib.hid (by have := HKL.out; omega), Lib.hid (by simp [HNL.out]; omega), HO7, Lib.hid (HS7.out.mono (by omega)), HG7⟩
        case measure => simp [intOf]; omega
      · obtain rfl : k = 0 := by omega
        obtain rfl : ln = n := by have := HKL.out; omega
        clear HKL
        by_cases hz : ln = 0
        · have hq : ¬ (0 : Int) < (ln : Int) := by omega
          subst hz
          go_wp2
          go_ret
          exact ⟨A, 0, c, ns, by omega, HNL.out, rfl, HO.out, HS.out.mono (by omega), HG.out⟩
        · have hq : (0 : Int) < (ln : Int) := by omega
          go_wp2_with fail
          refine (one_any g hi _ 10 _ HS.out (by omega)).mono ?_
          rintro e w7 ⟨b, rfl, hs7, hg7⟩
          have HS7 := Lib.hid hs7; have HG7 := Lib.hid (HG.out.trans hg7); have HO7 := Lib.hid (HO.out.gr1 hg7 hgw)
          clear hs7 hg7
          cases b with
          | false =>
            go_wp2
            go_ret
            exact ⟨A, ln, c, ns, by omega, HNL.out, rfl, HO7.out, HS7.out.mono (by omega), HG7.out⟩
          | true =>
            rcases Ow.form HO7.out with ⟨_, h9, _⟩ | ⟨gl, c9, hA9, _, _, _⟩
            · exact absurd h9 hz
            injection hA9 with hA9 hn9 hc9
            clear hn9
            subst hA9 hc9
            go_wp2_with fail
            refine (pick_pos g hi _ ((ln : Int)) _ HS7.out (by omega) (by omega)).mono ?_
            rintro e wa ⟨x, ⟨hx0, hx1⟩, rfl, hsa, hga⟩
            obtain ⟨j, rfl⟩ := Int.eq_ofNat_of_zero_le hx0
            have HSa := Lib.hid hsa; have HGa := Lib.hid (HG7.out.trans hga); have HOa := Lib.hid (HO7.out.gr1 hga hgw)
            have hjl : j < ln := by omega
            have hjl2 : (j : Int) < (ln : Int) := by omega
            clear hsa hga hx0
            go_wp2_with fail
            refine (spoilT_any w g hi _ gl ln c j ns _ HSa.out (by omega) hhw hgw HGa.out HNL.out hjl HOa.out).mono ?_
            rintro e wb ⟨ns', hnl', rfl, hob, hsb, hgb⟩
            have HNLb := Lib.hid hnl'; have HOb := Lib.hid hob; have HSb := Lib.hid hsb; have HGb := Lib.hid hgb
            clear hnl' hob hsb hgb
            go_wp2
            go_ret
            exact ⟨_, ln, c, ns', by omega, HNLb.out, rfl, HOb.out, HSb.out.mono (by omega), HGb.out⟩
  | true =>
    clear HS1 HG1 HO1
    go_wp2_with fail
    refine (pick_pos g hi _ 2 _ HS2.out (by omega) (by omega)).mono ?_
    rintro e w3 ⟨z, ⟨hz0, hz1⟩, rfl, hs3, hg3⟩
    have HS3 := Lib.hid hs3; have HG3 := Lib.hid (HG2.out.trans hg3); have HO3 := Lib.hid (HO2.out.gr1 hg3 hgw)
    clear hs3 hg3
    obtain ⟨n, HNN⟩ : ∃ n : Nat, Hid (100 + z = (n : Int)) := ⟨(100 + z).toNat, Lib.hid (by omega)⟩
    have hn101 : n ≤ 101 := by have := HNN.out; omega
    clear HS2 HG2 HO2
    go_wp2
    go_loopw [3, 5] (fun v3 v5 wr => ∃ (k ln c : Nat) (A : Option Addr) (ns : List Int), v3 = .slice A ln c ∧ v5 = .int .i64 k ∧ k ≤ 101 ∧ Hid (k + ln = n) ∧ Hid (ns.length = ln * 3) ∧ Hid (Ow wr w.heap.size 25 3 (.slice A ln c) ln (ns.map (Value.int .i64))) ∧ Hid (Src wr g hi (m + 6 + 6 * ln)) ∧ Hid (Gr1 g w wr)) (fun _ v5 _ => (intOf v5).toNat)
    case atStart => exact ⟨n, 0, 0, _, [], rfl, by rw [← HNN.out], by omega, Lib.hid (by omega), Lib.hid rfl, HO3, Lib.hid (HS3.out.mono (by omega)), HG3⟩
    case round =>
      clear HS3 HG3 HO3
      obtain ⟨k, ln, c, A, ns, rfl, rfl, hk101, HKL, HNL, HO, HS, HG⟩ := hrel
      by_cases h0 : 0 < k
      · have hki : (0 : Int) < (k : Int) := by omega
        have hln : ln ≤ 100 := by have := HKL.out; omega
        go_wp2_with fail
        refine (newTrip_any g hi _ _ HS.out (by omega)).mono ?_
        rintro e W6 ⟨a, b, d, rfl, hs3, hg3⟩
        have HS6 := Lib.hid hs3; have HG6 := Lib.hid (HG.out.trans hg3); have HO6 := Lib.hid (HO.out.gr1 hg3 hgw)
        have HSZ := Lib.hid (HG.out.trans hg3).size
        clear hs3 hg3
        go_wp2_with (first | (at_builtin; refine wpList_app W6 rfl (.tmp 19) (.tmp 22) 30 rfl w.heap.size 25 (.agg #[.int .i64 0, .int .i64 0, .int .i64 0]) 3 24 Tryd.underlying30 infoTrip rfl (by omega) (.slice A ln c) ln _ rfl HO6.out #[.int .i64 a, .int .i64 b, .int .i64 d] 25 1 rfl rfl (by intro v hv; simp at hv; rcases hv with rfl | rfl | rfl <;> rfl) (by omega) (by omega) HSZ.out ?_; intro A7 c7 w7 ho7 hg7 hsz7 hor7; have HO7 : Hid (Ow w7 w.heap.size 25 3 (.slice A7 (ln + 1) c7) (ln + 1) ((ns ++ [a, b, d]).map (Value.int .i64))) := Lib.hid (by rw [List.map_append]; exact ho7); have HS7 := Lib.hid (HS6.out.row hg7 HO6.out hhw); have HG7 := Lib.hid (HG6.out.bl (below_own (Below.refl w.heap.size W6) HO6.out hg7 HSZ.out (Nat.le_refl _)) (Nat.le_refl _)); clear ho7 hg7 hsz7 hor7) | fail)
        go_roundw
        case rel => exact ⟨k - 1, ln + 1, c7, A7, _, rfl, dec_num h0, by omega, Lib.hid (by have := HKL.out; omega), Lib.hid (by simp [HNL.out]; omega), HO7, Lib.hid (HS7.out.mono (by omega)), HG7⟩
        case measure => simp [intOf]; omega
      · obtain rfl : k = 0 := by omega
        obtain rfl : ln = n := by have := HKL.out; omega
        clear HKL
        by_cases hz : ln = 0
        · have hq : ¬ (0 : Int) < 100 + z := by have hNN := HNN.out; omega
          subst hz
          go_wp2
          go_ret
          exact ⟨A, 0, c, ns, by omega, HNL.out, rfl, HO.out, HS.out.mono (by omega), HG.out⟩
        · have hq : (0 : Int) < 100 + z := by have hNN := HNN.out; omega
          go_wp2_with fail
          refine (one_any g hi _ 10 _ HS.out (by omega)).mono ?_
          rintro e w7 ⟨b, rfl, hs7, hg7⟩
          have HS7 := Lib.hid hs7; have HG7 := Lib.hid (HG.out.trans hg7); have HO7 := Lib.hid (HO.out.gr1 hg7 hgw)
          clear hs7 hg7
          cases b with
          | false =>
            go_wp2
            go_ret
            exact ⟨A, ln, c, ns, by omega, HNL.out, rfl, HO7.out, HS7.out.mono (by omega), HG7.out⟩
          | true =>
            rcases Ow.form HO7.out with ⟨_, h9, _⟩ | ⟨gl, c9, hA9, _, _, _⟩
            · exact absurd h9 hz
            injection hA9 with hA9 hn9 hc9
            clear hn9
            subst hA9 hc9
            go_wp2_with fail
            refine (pick_pos g hi _ (100 + z) _ HS7.out (by omega) (by have hNN := HNN.out; omega)).mono ?_
            rintro e wa ⟨x, ⟨hx0, hx1⟩, rfl, hsa, hga⟩
            obtain ⟨j, rfl⟩ := Int.eq_ofNat_of_zero_le hx0
            have HSa := Lib.hid hsa; have HGa := Lib.hid (HG7.out.trans hga); have HOa := Lib.hid (HO7.out.gr1 hga hgw)
            have hjl : j < ln := by have hNN := HNN.out; omega
            have hjl2 : (j : Int) < (ln : Int) := by omega
            clear hsa hga hx0
            go_wp2_with fail
            refine (spoilT_any w g hi _ gl ln c j ns _ HSa.out (by omega) hhw hgw HGa.out HNL.out hjl HOa.out).mono ?_
            rintro e wb ⟨ns', hnl', rfl, hob, hsb, hgb⟩
            have HNLb := Lib.hid hnl'; have HOb := Lib.hid hob; have HSb := Lib.hid hsb; have HGb := Lib.hid hgb
            clear hnl' hob hsb hgb
            go_wp2
            go_ret
            exact ⟨_, ln, c, ns', by omega, HNLb.out, rfl, HOb.out, HSb.out.mono (by omega), HGb.out⟩

theorem limit_any (g hi m : Nat) (w : World) (h : Src w g hi m) (hm : m ≤ 100000) :
    Calls Tryd.prog 50 #[.pointer (some ⟨g, 0, none⟩)] w (Cho (fun x => -9223372036854775808 ≤ x ∧ x ≤ 9223372036854775807) g hi (m + 4) w) := by
  have hgw : g < w.heap.size := Nat.lt_of_lt_of_le h.gh h.hw
  have HS0 := Lib.hid h
  clear h
  go_enter Tryd.func50, Tryd.ntmps50
  go_wp2_with fail
  refine (one_any g hi m 8 _ HS0.out (by omega)).mono ?_
  rintro e w1 ⟨b, rfl, hs1, hg1⟩
  have HS1 := Lib.hid hs1; have HG1 := Lib.hid hg1
  clear hs1 hg1
  cases b with
  | true =>
    have hbc := below_alloc w1 (.cells #[.int .i64 (-1), .int .i64 0, .int .i64 10000, .int .i64 10001, .int .i64 (-9223372036854775808)] 2)
    have HSc := Lib.hid (HS1.out.ex hbc); have HGc := Lib.hid (HG1.out.bl hbc HG1.out.size)
    have HLc : Hid (OwI (w1.alloc (.cells #[.int .i64 (-1), .int .i64 0, .int .i64 10000, .int .i64 10001, .int .i64 (-9223372036854775808)] 2)) w.heap.size (.slice (some ⟨w1.heap.size, 0, none⟩) 5 5) [(-1), 0, 10000, 10001, (-9223372036854775808)]) := Lib.hid (Ow.lay w1 (lo := w.heap.size) (sz := 1) 2 #[.int .i64 (-1), .int .i64 0, .int .i64 10000, .int .i64 10001, .int .i64 (-9223372036854775808)] 5 HG1.out.size (by omega) rfl)
    clear hbc
    go_wp2_with fail
    refine (among_any g hi _ w.heap.size _ [(-1), 0, 10000, 10001, (-9223372036854775808)] _ HSc.out (by omega) HLc.out hgw (by simp)).mono ?_
    rintro e w2 ⟨y, hy, rfl, hsd, hgd⟩
    have HSd := Lib.hid hsd; have HGd := Lib.hid (HGc.out.trans hgd); have HY := Lib.hid hy
    clear hsd hgd hy
    go_wp2
    go_ret
    exact ⟨y, (by have h := HY.out; simp at h; omega), rfl, HSd.out.mono (by omega), HGd.out⟩
  | false =>
    go_wp2_with fail
    refine (pick_pos g hi _ 25 _ HS1.out (by omega) (by omega)).mono ?_
    rintro e w2 ⟨x, ⟨hx0, hx1⟩, rfl, hs2, hg2⟩
    have HS2 := Lib.hid hs2; have HG2 := Lib.hid (HG1.out.trans hg2)
    clear hs2 hg2
    go_wp2
    go_ret
    exact ⟨x, (by omega), rfl, HS2.out.mono (by omega), HG2.out⟩
/-- trips and a number -/
def TsPost (w : World) (e : Ending) (w' : World) : Prop :=
  ∃ (A : Option Addr) (n c : Nat) (ts : List Trip) (x : Int), (-9223372036854775808 ≤ x ∧ x ≤ 9223372036854775807) ∧ ts.length = n ∧ n ≤ 101 ∧ e = .returned (.tuple #[.slice A n c, .int .i64 x]) ∧ capOk (.slice A n c) ∧ SlTrip w' (.slice A n c) ts ∧ Below w.heap.size w w'
theorem drawSh_any (v : Value) (bs : List Int) (w : World) (hv : SlB w v bs) (hl : bs.length ≤ 1048576) : Calls Tryd.prog 14 #[v] w (TsPost w) := by
  have HV := Lib.hid hv
  clear hv
  go_enter Tryd.func14, Tryd.ntmps14
  go_wp2_with fail
  refine (from_any v bs _ HV.out hl).mono ?_
  rintro e w1 ⟨rfl, hs1, hb1⟩
  have HS1 := Lib.hid hs1; have HB1 := Lib.hid hb1
  clear hs1 hb1
  go_wp2_with fail
  refine (drawTs_any _ _ _ _ HS1.out (by omega)).mono ?_
  rintro e w2 ⟨A2, n, c2, ns, hn, hnl, rfl, ho2, hs2, hg2⟩
  obtain ⟨ts, ht1, ht2⟩ := group3 n ns hnl
  have HS2 := Lib.hid hs2; have HG2 := Lib.hid hg2
  have HO2 : Hid (Ow w2 w1.heap.size 25 3 (.slice A2 n c2) n (ts.flatMap Trip.vals)) := Lib.hid (by rw [ht2]; exact ho2)
  have HLO := Lib.hid HS1.out
  clear hs2 hg2 ho2 ht2 hnl
  go_wp2_with fail
  refine (limit_any _ _ _ _ HS2.out (by omega)).mono ?_
  rintro e w3 ⟨x, hx, rfl, hs3, hg3⟩
  have hgl : w.heap.size < w1.heap.size := Nat.lt_of_lt_of_le HLO.out.gh HLO.out.hw
  have HO3 : Hid (Ow w3 w1.heap.size 25 3 (.slice A2 n c2) n (ts.flatMap Trip.vals)) := Lib.hid (Ow.gr1 HO2.out hg3 hgl)
  have HB3 : Hid (Below w.heap.size w w3) := Lib.hid (GrS.belowNew (HG2.out.trans hg3) (Nat.le_refl _) HB1.out)
  clear hs3 hg3
  go_wp2
  go_ret2
  exact ⟨A2, n, c2, ts, x, hx, ht1, hn, rfl, HO3.out.cap, by have := HO3.out.sl; rw [← ht1] at this ⊢; exact this, HB3.out⟩
end Go.Proofs.YthpijecjifmnbaaDoor
