/-
The reference's draws of blowers that are seldom not valid, of sets, hours and one blower, each by its contract. Condition: a source.
-/
import Derived.Test.YtjleabgoajoegaaDrB
namespace Go.Proofs.Ytjleabgoajoegaa
open Go.RowKit
set_option linter.unusedVariables false
set_option linter.unusedSimpArgs false

set_option maxRecDepth 100000 in
set_option maxHeartbeats 8000000 in
theorem bentBl_any (g hi m : Nat) (w : World) (h : Src w g hi m) (hm : m ≤ 1000000) :
    Calls Try.prog 78 #[.pointer (some ⟨g, 0, none⟩)] w (ChoBl g hi (m + 40) w) := by
  have hgw : g < w.heap.size := Nat.lt_of_lt_of_le h.gh h.hw
  have hhw := h.hw
  have HS0 := Lib.hid h
  clear h
  go_enter Try.func78, Try.ntmps78
  go_wp2_with fail
  refine (drawBl_any g hi m _ HS0.out (by omega)).mono ?_
  rintro e w1 ⟨A, n, c, ns, hn5, hnl, rfl, ho1, hs1, hg1⟩
  have HNL := Lib.hid hnl; have HO1 := Lib.hid ho1; have HS1 := Lib.hid hs1; have HG1 := Lib.hid hg1
  clear hnl ho1 hs1 hg1
  go_wp2_with fail
  refine (one_any g hi _ 24 _ HS1.out (by omega)).mono ?_
  rintro e w2 ⟨b, rfl, hs2, hg2⟩
  have HS := Lib.hid hs2; have HG := Lib.hid (HG1.out.trans hg2); have HO := Lib.hid (HO1.out.gr1 hg2 hgw)
  clear hs2 hg2 HO1 HS1 HG1 HS0
  cases b with
  | false =>
    by_cases hz : n = 0
    · subst hz
      go_wp2
      go_ret
      exact ⟨A, 0, c, ns, by omega, HNL.out, rfl, HO.out, HS.out.mono (by omega), HG.out⟩
    · have hnz : ((n : Int) == 0) = false := by simpa using hz
      rcases Ow.form HO.out with ⟨_, h9, _⟩ | ⟨gl, c9, hA9, _, _, _⟩
      · exact absurd h9 hz
      injection hA9 with hA9 hn9 hc9
      clear hn9
      subst hA9 hc9
      go_wp2_with fail
      refine (pick_pos g hi _ (n : Int) _ HS.out (by omega) (by omega)).mono ?_
      rintro e wa ⟨x, ⟨hx0, hx1⟩, rfl, hsa, hga⟩
      obtain ⟨j, rfl⟩ := Int.eq_ofNat_of_zero_le hx0
      have HSa := Lib.hid hsa; have HGa := Lib.hid (HG.out.trans hga); have HOa := Lib.hid (HO.out.gr1 hga hgw)
      clear hsa hga hx0
      go_wp2_with fail
      refine (pick_pos g hi _ 24 _ HSa.out (by omega) (by omega)).mono ?_
      rintro e wb ⟨q, ⟨hq0, hq1⟩, rfl, hsb, hgb⟩
      have HSb := Lib.hid hsb; have HGb := Lib.hid (HGa.out.trans hgb); have HOb := Lib.hid (HOa.out.gr1 hgb hgw)
      clear hsb hgb
      by_cases hq0 : q = 0
      · subst hq0
        have hbc := below_alloc wb (.cells #[.int .i64 (-1), .int .i64 0, .int .i64 1, .int .i64 1000, .int .i64 1001, .int .i64 (-9223372036854775808)] 2)
        have HSc := Lib.hid (HSb.out.ex hbc); have HGc := Lib.hid (HGb.out.bl hbc HGb.out.size); have HOc := Lib.hid (HOb.out.ex hbc)
        have HLc : Hid (OwI (wb.alloc (.cells #[.int .i64 (-1), .int .i64 0, .int .i64 1, .int .i64 1000, .int .i64 1001, .int .i64 (-9223372036854775808)] 2)) w.heap.size (.slice (some ⟨wb.heap.size, 0, none⟩) 6 6) [(-1), 0, 1, 1000, 1001, (-9223372036854775808)]) := Lib.hid (Ow.lay wb (lo := w.heap.size) (sz := 1) 2 #[.int .i64 (-1), .int .i64 0, .int .i64 1, .int .i64 1000, .int .i64 1001, .int .i64 (-9223372036854775808)] 6 HGb.out.size (by omega) rfl)
        clear hbc
        go_wp2_with fail
        refine (among_any g hi _ w.heap.size _ [(-1), 0, 1, 1000, 1001, (-9223372036854775808)] _ HSc.out (by omega) HLc.out hgw (by simp)).mono ?_
        rintro e wd ⟨y, -, rfl, hsd, hgd⟩
        have HSd := Lib.hid hsd; have HGd := Lib.hid (HGc.out.trans hgd); have HOd := Lib.hid (HOc.out.gr1 hgd hgw)
        have hcd := Ow.cell HOd.out (k := j * 3 + 0) (by rw [List.length_map, HNL.out]; omega)
        have hfd := Ow.free HOd.out (j * 3 + 0)
        simp only [Nat.add_zero] at hcd hfd
        have hgr := Ow.grow (k := j * 3) HOd.out (.int .i64 y)
        have HOe : Hid (Ow (wd.setCell ⟨gl, j * 3, none⟩ (.int .i64 y)) w.heap.size 62 3 (.slice (some ⟨gl, 0, none⟩) n c) n ((ns.set (j * 3) y).map (Value.int .i64))) := Lib.hid (by rw [List.map_set]; exact Ow.set HOd.out (j * 3) (.int .i64 y))
        have HSe := Lib.hid (HSd.out.row (v := .slice (some ⟨gl, 0, none⟩) n c) hgr HOd.out hhw)
        have HGe := Lib.hid (HGd.out.bl (below_own (Below.refl w.heap.size wd) HOd.out hgr HGd.out.size (Nat.le_refl _)) (Nat.le_refl _))
        clear hsd hgd hgr
        go_wp2
        go_ret
        exact ⟨_, n, c, _, by omega, by rw [List.length_set]; exact HNL.out, rfl, HOe.out, HSe.out.mono (by omega), HGe.out⟩
      by_cases hq1 : q = 1
      · subst hq1
        have hbc := below_alloc wb (.cells #[.int .i64 (-1), .int .i64 0, .int .i64 10000, .int .i64 10001] 2)
        have HSc := Lib.hid (HSb.out.ex hbc); have HGc := Lib.hid (HGb.out.bl hbc HGb.out.size); have HOc := Lib.hid (HOb.out.ex hbc)
        have HLc : Hid (OwI (wb.alloc (.cells #[.int .i64 (-1), .int .i64 0, .int .i64 10000, .int .i64 10001] 2)) w.heap.size (.slice (some ⟨wb.heap.size, 0, none⟩) 4 4) [(-1), 0, 10000, 10001]) := Lib.hid (Ow.lay wb (lo := w.heap.size) (sz := 1) 2 #[.int .i64 (-1), .int .i64 0, .int .i64 10000, .int .i64 10001] 4 HGb.out.size (by omega) rfl)
        clear hbc
        go_wp2_with fail
        refine (among_any g hi _ w.heap.size _ [(-1), 0, 10000, 10001] _ HSc.out (by omega) HLc.out hgw (by simp)).mono ?_
        rintro e wd ⟨y, -, rfl, hsd, hgd⟩
        have HSd := Lib.hid hsd; have HGd := Lib.hid (HGc.out.trans hgd); have HOd := Lib.hid (HOc.out.gr1 hgd hgw)
        have hcd := Ow.cell HOd.out (k := j * 3 + 1) (by rw [List.length_map, HNL.out]; omega)
        have hfd := Ow.free HOd.out (j * 3 + 1)
        have hgr := Ow.grow (k := j * 3 + 1) HOd.out (.int .i64 y)
        have HOe : Hid (Ow (wd.setCell ⟨gl, j * 3 + 1, none⟩ (.int .i64 y)) w.heap.size 62 3 (.slice (some ⟨gl, 0, none⟩) n c) n ((ns.set (j * 3 + 1) y).map (Value.int .i64))) := Lib.hid (by rw [List.map_set]; exact Ow.set HOd.out (j * 3 + 1) (.int .i64 y))
        have HSe := Lib.hid (HSd.out.row (v := .slice (some ⟨gl, 0, none⟩) n c) hgr HOd.out hhw)
        have HGe := Lib.hid (HGd.out.bl (below_own (Below.refl w.heap.size wd) HOd.out hgr HGd.out.size (Nat.le_refl _)) (Nat.le_refl _))
        clear hsd hgd hgr
        go_wp2
        go_ret
        exact ⟨_, n, c, _, by omega, by rw [List.length_set]; exact HNL.out, rfl, HOe.out, HSe.out.mono (by omega), HGe.out⟩
      by_cases hq2 : q = 2
      · subst hq2
        have hbc := below_alloc wb (.cells #[.int .i64 (-1), .int .i64 0, .int .i64 10000, .int .i64 10001] 2)
        have HSc := Lib.hid (HSb.out.ex hbc); have HGc := Lib.hid (HGb.out.bl hbc HGb.out.size); have HOc := Lib.hid (HOb.out.ex hbc)
        have HLc : Hid (OwI (wb.alloc (.cells #[.int .i64 (-1), .int .i64 0, .int .i64 10000, .int .i64 10001] 2)) w.heap.size (.slice (some ⟨wb.heap.size, 0, none⟩) 4 4) [(-1), 0, 10000, 10001]) := Lib.hid (Ow.lay wb (lo := w.heap.size) (sz := 1) 2 #[.int .i64 (-1), .int .i64 0, .int .i64 10000, .int .i64 10001] 4 HGb.out.size (by omega) rfl)
        clear hbc
        go_wp2_with fail
        refine (among_any g hi _ w.heap.size _ [(-1), 0, 10000, 10001] _ HSc.out (by omega) HLc.out hgw (by simp)).mono ?_
        rintro e wd ⟨y, -, rfl, hsd, hgd⟩
        have HSd := Lib.hid hsd; have HGd := Lib.hid (HGc.out.trans hgd); have HOd := Lib.hid (HOc.out.gr1 hgd hgw)
        have hcd := Ow.cell HOd.out (k := j * 3 + 2) (by rw [List.length_map, HNL.out]; omega)
        have hfd := Ow.free HOd.out (j * 3 + 2)
        have hgr := Ow.grow (k := j * 3 + 2) HOd.out (.int .i64 y)
        have HOe : Hid (Ow (wd.setCell ⟨gl, j * 3 + 2, none⟩ (.int .i64 y)) w.heap.size 62 3 (.slice (some ⟨gl, 0, none⟩) n c) n ((ns.set (j * 3 + 2) y).map (Value.int .i64))) := Lib.hid (by rw [List.map_set]; exact Ow.set HOd.out (j * 3 + 2) (.int .i64 y))
        have HSe := Lib.hid (HSd.out.row (v := .slice (some ⟨gl, 0, none⟩) n c) hgr HOd.out hhw)
        have HGe := Lib.hid (HGd.out.bl (below_own (Below.refl w.heap.size wd) HOd.out hgr HGd.out.size (Nat.le_refl _)) (Nat.le_refl _))
        clear hsd hgd hgr
        go_wp2
        go_ret
        exact ⟨_, n, c, _, by omega, by rw [List.length_set]; exact HNL.out, rfl, HOe.out, HSe.out.mono (by omega), HGe.out⟩
      go_wp2
      go_ret
      exact ⟨_, n, c, ns, by omega, HNL.out, rfl, HOb.out, HSb.out.mono (by omega), HGb.out⟩
  | true =>
    clear HNL HO
    go_wp2_with (first | (at_make; refine wpList_makeK w2 rfl (.const (.int .i64 5)) (.const (.int .i64 5)) _ rfl w.heap.size 62 (.agg #[.int .i64 0, .int .i64 0, .int .i64 0]) (.int .i64 0) 3 24 Try.underlying29 infoBlower zeroBlower0 zeroBlower .i64 .i64 5 ?_ ?_ (by omega) (by omega) HG.out.size ?_; rfl; rfl; intro w3 hown3 hb3 hsz3; have HO3 := Lib.hid hown3; have HS3 := Lib.hid (HS.out.ex hb3); have HG3 := Lib.hid (HG.out.bl hb3 HG.out.size); clear hown3 hb3 hsz3) | fail)
    go_loopw [4] (fun v4 wr => ∃ (k : Nat) (ns : List Int), v4 = .int .i64 k ∧ k ≤ 5 ∧ Hid (ns.length = 5 * 3) ∧ Hid (Ow wr w.heap.size 62 3 (.slice (some ⟨w2.heap.size, 0, none⟩) 5 5) 5 (ns.map (Value.int .i64))) ∧ Hid (Src wr g hi (m + 32)) ∧ Hid (Gr1 g w wr)) (fun v4 _ => 5 - (intOf v4).toNat)
    case atStart => exact ⟨0, List.replicate 15 0, rfl, by omega, Lib.hid (by simp), Lib.hid (by rw [List.map_replicate]; exact HO3.out), Lib.hid (HS3.out.mono (by omega)), HG3⟩
    case round =>
      clear HO3 HS3 HG3 HS HG
      obtain ⟨k, ns, rfl, hk, HNL, HO, HS, HG⟩ := hrel
      by_cases hlt : k < 5
      · have hki : (k : Int) < 5 := by omega
        have hcd := Ow.cell HO.out (k := k * 3) (by rw [List.length_map, HNL.out]; omega)
        have hfd := Ow.free HO.out (k * 3)
        have hgr := Ow.grow (k := k * 3) HO.out (.int .i64 5)
        have HOe : Hid (Ow (wr.setCell ⟨w2.heap.size, k * 3, none⟩ (.int .i64 5)) w.heap.size 62 3 (.slice (some ⟨w2.heap.size, 0, none⟩) 5 5) 5 ((ns.set (k * 3) 5).map (Value.int .i64))) := Lib.hid (by rw [List.map_set]; exact Ow.set HO.out (k * 3) (.int .i64 5))
        have HSe := Lib.hid (HS.out.row (v := .slice (some ⟨w2.heap.size, 0, none⟩) 5 5) hgr HO.out hhw)
        have HGe := Lib.hid (HG.out.bl (below_own (Below.refl w.heap.size wr) HO.out hgr HG.out.size (Nat.le_refl _)) (Nat.le_refl _))
        clear hgr
        go_wp2
        go_roundw
        case rel => exact ⟨k + 1, _, by go_num, by omega, Lib.hid (by rw [List.length_set]; exact HNL.out), HOe, HSe, HGe⟩
        case measure => simp [intOf]; omega
      · have hki : ¬ ((k : Int) < 5) := by omega
        go_wp2_with fail
        refine (pick_pos g hi _ (5 : Int) _ HS.out (by omega) (by omega)).mono ?_
        rintro e wa ⟨x, ⟨hx0, hx1⟩, rfl, hsa, hga⟩
        obtain ⟨j, rfl⟩ := Int.eq_ofNat_of_zero_le hx0
        have HSa := Lib.hid hsa; have HGa := Lib.hid (HG.out.trans hga); have HOa := Lib.hid (HO.out.gr1 hga hgw)
        clear hsa hga hx0
        go_wp2_with fail
        refine (pick_pos g hi _ 24 _ HSa.out (by omega) (by omega)).mono ?_
        rintro e wb ⟨q, ⟨hq0, hq1⟩, rfl, hsb, hgb⟩
        have HSb := Lib.hid hsb; have HGb := Lib.hid (HGa.out.trans hgb); have HOb := Lib.hid (HOa.out.gr1 hgb hgw)
        clear hsb hgb
        by_cases hq0 : q = 0
        · subst hq0
          have hbc := below_alloc wb (.cells #[.int .i64 (-1), .int .i64 0, .int .i64 1, .int .i64 1000, .int .i64 1001, .int .i64 (-9223372036854775808)] 2)
          have HSc := Lib.hid (HSb.out.ex hbc); have HGc := Lib.hid (HGb.out.bl hbc HGb.out.size); have HOc := Lib.hid (HOb.out.ex hbc)
          have HLc : Hid (OwI (wb.alloc (.cells #[.int .i64 (-1), .int .i64 0, .int .i64 1, .int .i64 1000, .int .i64 1001, .int .i64 (-9223372036854775808)] 2)) w.heap.size (.slice (some ⟨wb.heap.size, 0, none⟩) 6 6) [(-1), 0, 1, 1000, 1001, (-9223372036854775808)]) := Lib.hid (Ow.lay wb (lo := w.heap.size) (sz := 1) 2 #[.int .i64 (-1), .int .i64 0, .int .i64 1, .int .i64 1000, .int .i64 1001, .int .i64 (-9223372036854775808)] 6 HGb.out.size (by omega) rfl)
          clear hbc
          go_wp2_with fail
          refine (among_any g hi _ w.heap.size _ [(-1), 0, 1, 1000, 1001, (-9223372036854775808)] _ HSc.out (by omega) HLc.out hgw (by simp)).mono ?_
          rintro e wd ⟨y, -, rfl, hsd, hgd⟩
          have HSd := Lib.hid hsd; have HGd := Lib.hid (HGc.out.trans hgd); have HOd := Lib.hid (HOc.out.gr1 hgd hgw)
          have hcd := Ow.cell HOd.out (k := j * 3 + 0) (by rw [List.length_map, HNL.out]; omega)
          have hfd := Ow.free HOd.out (j * 3 + 0)
          simp only [Nat.add_zero] at hcd hfd
          have hgr := Ow.grow (k := j * 3) HOd.out (.int .i64 y)
          have HOe : Hid (Ow (wd.setCell ⟨w2.heap.size, j * 3, none⟩ (.int .i64 y)) w.heap.size 62 3 (.slice (some ⟨w2.heap.size, 0, none⟩) 5 5) 5 ((ns.set (j * 3) y).map (Value.int .i64))) := Lib.hid (by rw [List.map_set]; exact Ow.set HOd.out (j * 3) (.int .i64 y))
          have HSe := Lib.hid (HSd.out.row (v := .slice (some ⟨w2.heap.size, 0, none⟩) 5 5) hgr HOd.out hhw)
          have HGe := Lib.hid (HGd.out.bl (below_own (Below.refl w.heap.size wd) HOd.out hgr HGd.out.size (Nat.le_refl _)) (Nat.le_refl _))
          clear hsd hgd hgr
          go_wp2
          go_ret
          exact ⟨_, 5, 5, _, by omega, by rw [List.length_set]; exact HNL.out, rfl, HOe.out, HSe.out.mono (by omega), HGe.out⟩
        by_cases hq1 : q = 1
        · subst hq1
          have hbc := below_alloc wb (.cells #[.int .i64 (-1), .int .i64 0, .int .i64 10000, .int .i64 10001] 2)
          have HSc := Lib.hid (HSb.out.ex hbc); have HGc := Lib.hid (HGb.out.bl hbc HGb.out.size); have HOc := Lib.hid (HOb.out.ex hbc)
          have HLc : Hid (OwI (wb.alloc (.cells #[.int .i64 (-1), .int .i64 0, .int .i64 10000, .int .i64 10001] 2)) w.heap.size (.slice (some ⟨wb.heap.size, 0, none⟩) 4 4) [(-1), 0, 10000, 10001]) := Lib.hid (Ow.lay wb (lo := w.heap.size) (sz := 1) 2 #[.int .i64 (-1), .int .i64 0, .int .i64 10000, .int .i64 10001] 4 HGb.out.size (by omega) rfl)
          clear hbc
          go_wp2_with fail
          refine (among_any g hi _ w.heap.size _ [(-1), 0, 10000, 10001] _ HSc.out (by omega) HLc.out hgw (by simp)).mono ?_
          rintro e wd ⟨y, -, rfl, hsd, hgd⟩
          have HSd := Lib.hid hsd; have HGd := Lib.hid (HGc.out.trans hgd); have HOd := Lib.hid (HOc.out.gr1 hgd hgw)
          have hcd := Ow.cell HOd.out (k := j * 3 + 1) (by rw [List.length_map, HNL.out]; omega)
          have hfd := Ow.free HOd.out (j * 3 + 1)
          have hgr := Ow.grow (k := j * 3 + 1) HOd.out (.int .i64 y)
          have HOe : Hid (Ow (wd.setCell ⟨w2.heap.size, j * 3 + 1, none⟩ (.int .i64 y)) w.heap.size 62 3 (.slice (some ⟨w2.heap.size, 0, none⟩) 5 5) 5 ((ns.set (j * 3 + 1) y).map (Value.int .i64))) := Lib.hid (by rw [List.map_set]; exact Ow.set HOd.out (j * 3 + 1) (.int .i64 y))
          have HSe := Lib.hid (HSd.out.row (v := .slice (some ⟨w2.heap.size, 0, none⟩) 5 5) hgr HOd.out hhw)
          have HGe := Lib.hid (HGd.out.bl (below_own (Below.refl w.heap.size wd) HOd.out hgr HGd.out.size (Nat.le_refl _)) (Nat.le_refl _))
          clear hsd hgd hgr
          go_wp2
          go_ret
          exact ⟨_, 5, 5, _, by omega, by rw [List.length_set]; exact HNL.out, rfl, HOe.out, HSe.out.mono (by omega), HGe.out⟩
        by_cases hq2 : q = 2
        · subst hq2
          have hbc := below_alloc wb (.cells #[.int .i64 (-1), .int .i64 0, .int .i64 10000, .int .i64 10001] 2)
          have HSc := Lib.hid (HSb.out.ex hbc); have HGc := Lib.hid (HGb.out.bl hbc HGb.out.size); have HOc := Lib.hid (HOb.out.ex hbc)
          have HLc : Hid (OwI (wb.alloc (.cells #[.int .i64 (-1), .int .i64 0, .int .i64 10000, .int .i64 10001] 2)) w.heap.size (.slice (some ⟨wb.heap.size, 0, none⟩) 4 4) [(-1), 0, 10000, 10001]) := Lib.hid (Ow.lay wb (lo := w.heap.size) (sz := 1) 2 #[.int .i64 (-1), .int .i64 0, .int .i64 10000, .int .i64 10001] 4 HGb.out.size (by omega) rfl)
          clear hbc
          go_wp2_with fail
          refine (among_any g hi _ w.heap.size _ [(-1), 0, 10000, 10001] _ HSc.out (by omega) HLc.out hgw (by simp)).mono ?_
          rintro e wd ⟨y, -, rfl, hsd, hgd⟩
          have HSd := Lib.hid hsd; have HGd := Lib.hid (HGc.out.trans hgd); have HOd := Lib.hid (HOc.out.gr1 hgd hgw)
          have hcd := Ow.cell HOd.out (k := j * 3 + 2) (by rw [List.length_map, HNL.out]; omega)
          have hfd := Ow.free HOd.out (j * 3 + 2)
          have hgr := Ow.grow (k := j * 3 + 2) HOd.out (.int .i64 y)
          have HOe : Hid (Ow (wd.setCell ⟨w2.heap.size, j * 3 + 2, none⟩ (.int .i64 y)) w.heap.size 62 3 (.slice (some ⟨w2.heap.size, 0, none⟩) 5 5) 5 ((ns.set (j * 3 + 2) y).map (Value.int .i64))) := Lib.hid (by rw [List.map_set]; exact Ow.set HOd.out (j * 3 + 2) (.int .i64 y))
          have HSe := Lib.hid (HSd.out.row (v := .slice (some ⟨w2.heap.size, 0, none⟩) 5 5) hgr HOd.out hhw)
          have HGe := Lib.hid (HGd.out.bl (below_own (Below.refl w.heap.size wd) HOd.out hgr HGd.out.size (Nat.le_refl _)) (Nat.le_refl _))
          clear hsd hgd hgr
          go_wp2
          go_ret
          exact ⟨_, 5, 5, _, by omega, by rw [List.length_set]; exact HNL.out, rfl, HOe.out, HSe.out.mono (by omega), HGe.out⟩
        go_wp2
        go_ret
        exact ⟨_, 5, 5, ns, by omega, HNL.out, rfl, HOb.out, HSb.out.mono (by omega), HGb.out⟩

theorem hours_any (g hi m : Nat) (w : World) (h : Src w g hi m) (hm : m ≤ 1000000) :
    Calls Try.prog 89 #[.pointer (some ⟨g, 0, none⟩)] w (Cho (fun x => 0 ≤ x ∧ x ≤ 25) g hi (m + 4) w) := by
  have HS0 := Lib.hid h
  clear h
  go_enter Try.func89, Try.ntmps89
  go_wp2_with fail
  refine (one_any g hi m 20 _ HS0.out (by omega)).mono ?_
  rintro e w1 ⟨b, rfl, hs1, hg1⟩
  have HS1 := Lib.hid hs1; have HG1 := Lib.hid hg1
  clear hs1 hg1
  cases b with
  | true =>
    go_wp2_with fail
    refine (pick_pos g hi _ 2 _ HS1.out (by omega) (by omega)).mono ?_
    rintro e w2 ⟨x, ⟨hx0, hx1⟩, rfl, hs2, hg2⟩
    have HS2 := Lib.hid hs2; have HG2 := Lib.hid (HG1.out.trans hg2)
    clear hs2 hg2
    go_wp2
    go_ret
    exact ⟨_, ⟨by omega, by omega⟩, rfl, HS2.out.mono (by omega), HG2.out⟩
  | false =>
    go_wp2_with fail
    refine (pick_pos g hi _ 10 _ HS1.out (by omega) (by omega)).mono ?_
    rintro e w2 ⟨x, ⟨hx0, hx1⟩, rfl, hs2, hg2⟩
    have HS2 := Lib.hid hs2; have HG2 := Lib.hid (HG1.out.trans hg2)
    clear hs2 hg2
    go_wp2
    go_ret
    exact ⟨_, ⟨by omega, by omega⟩, rfl, HS2.out.mono (by omega), HG2.out⟩

theorem l00Min_bl (x y : Int) (w : World) : Calls Try.prog 84 #[.int .i64 x, .int .i64 y] w fun e w' => e = .returned (.int .i64 (min x y)) ∧ w = w' := by
  go_enter Try.func84, Try.ntmps84
  go_wp2
  all_goals go_ret
  all_goals exact ⟨ret_int (by omega), rfl⟩
set_option maxRecDepth 100000 in
set_option maxHeartbeats 4000000 in
theorem drawSets_any (g hi m n c h : Nat) (A : Option Addr) (w : World) (hs : Src w g hi m) (hm : m ≤ 1000000) (hn5 : n ≤ 5) (hh : h ≤ 26) :
    Calls Try.prog 83 #[.pointer (some ⟨g, 0, none⟩), .slice A n c, .int .i64 (h : Int)] w (ChoI (fun xs => xs.length = h) g hi (m + 60) w) := by
  have hgw : g < w.heap.size := Nat.lt_of_lt_of_le hs.gh hs.hw
  have hhw := hs.hw
  have hb0 := below_alloc w (.cells #[] 2)
  have HS0 := Lib.hid (hs.ex hb0)
  have HO0 := Lib.hid (owI_empty w w.heap.size (Nat.le_refl _))
  have HG0 : Hid (Gr1 g w _) := Lib.hid (GrS.ofBelow (R := fun k => k = g) hb0)
  obtain ⟨q, hq4, hqm⟩ : ∃ q : Nat, q ≤ 4 ∧ min (n : Int) 4 = (q : Int) := ⟨min n 4, by omega, by omega⟩
  have HMN := Lib.hid (l00Min_bl (n : Int) 4)
  rw [hqm] at HMN
  obtain ⟨h2a, h2b, h2c, -⟩ := two_pow hq4
  clear hs hb0 hqm
  go_enter Try.func83, Try.ntmps83
  go_wp2_with fail
  refine (HMN.out _).mono ?_
  rintro e w1 ⟨rfl, rfl⟩
  obtain ⟨N, hN⟩ : ∃ N : Nat, 2 ^ q = N := ⟨_, rfl⟩
  rw [hN] at h2a h2b h2c
  have HN := Lib.hid hN; have H2A := Lib.hid h2a
  clear hN h2a
  go_wp2
  rw [H2A.out]
  go_loopw [7, 9] (fun v7 v9 wr => ∃ (k ln c : Nat) (A : Option Addr) (xs : List Int), v7 = .slice A ln c ∧ v9 = .int .i64 k ∧ k + ln ≤ 26 ∧ Hid (k + ln = h) ∧ Hid (xs.length = ln) ∧ Hid (OwI wr w.heap.size (.slice A ln c) xs) ∧ Hid (Src wr g hi (m + 2 * ln)) ∧ Hid (Gr1 g w wr)) (fun _ v9 _ => (intOf v9).toNat)
  case atStart => exact ⟨h, 0, 0, _, [], rfl, rfl, by omega, Lib.hid (by omega), Lib.hid rfl, HO0, HS0, HG0⟩
  case round =>
    clear HO0 HS0 HG0
    obtain ⟨k, ln, c1, A1, xs, rfl, rfl, hk, HKL, HXL, HO, HS, HG⟩ := hrel
    by_cases h0 : 0 < k
    · have hki : (0 : Int) < (k : Int) := by omega
      go_wp2_with fail
      refine (pick_pos g hi _ (N : Int) _ HS.out (by omega) (by omega)).mono ?_
      rintro e w2 ⟨x, -, rfl, hs2, hg2⟩
      have HS2 := Lib.hid hs2; have HG2 := Lib.hid (HG.out.trans hg2); have HO2 : Hid (OwI w2 w.heap.size (.slice A1 ln c1) xs) := Lib.hid (Ow.gr1 HO.out hg2 hgw)
      have HSZ := Lib.hid (HG.out.trans hg2).size
      clear hs2 hg2
      go_wp2_with (first | (at_builtin; refine wpList_appI w2 rfl (.tmp 21) (.tmp 25) rfl w.heap.size w.heap.size w2 A1 ln c1 _ _ _ _ rfl HO2.out HXL.out rfl (Below.refl _ _) (Nat.le_refl _) HSZ.out (by omega) ?_; intro A3 c3 w3 hown3 hg3 hsz3 hb3; have HO3 := Lib.hid hown3; have HS3 := Lib.hid (HS2.out.bl hb3 hhw); have HG3 := Lib.hid (HG2.out.bl hb3 (Nat.le_refl _)); clear hown3 hg3 hsz3 hb3) | fail)
      go_roundw
      case rel => exact ⟨k - 1, ln + 1, c3, A3, _, rfl, dec_num h0, by omega, Lib.hid (by have h9 := HKL.out; omega), Lib.hid (by simp [HXL.out]), HO3, Lib.hid (HS3.out.mono (by omega)), HG3⟩
      case measure => simp [intOf]; omega
    · obtain rfl : k = 0 := by omega
      obtain rfl : ln = h := by have h9 := HKL.out; omega
      clear HKL
      by_cases hz : ¬ 0 < ln
      · have hzi : ¬ ((0 : Int) < (ln : Int)) := by omega
        go_wp2
        go_ret
        have hl := HXL.out
        subst hl
        exact ⟨A1, c1, xs, rfl, rfl, HO.out, HS.out.mono (by omega), HG.out⟩
      · have hzi : (0 : Int) < (ln : Int) := by omega
        go_wp2_with fail
        refine (one_any g hi _ 12 _ HS.out (by omega)).mono ?_
        rintro e w2 ⟨b, rfl, hs2, hg2⟩
        have HS2 := Lib.hid hs2; have HG2 := Lib.hid (HG.out.trans hg2); have HO2 : Hid (OwI w2 w.heap.size (.slice A1 ln c1) xs) := Lib.hid (Ow.gr1 HO.out hg2 hgw)
        clear hs2 hg2
        cases b with
        | false =>
          go_wp2
          go_ret
          have hl := HXL.out
          subst hl
          exact ⟨A1, c1, xs, rfl, rfl, HO2.out, HS2.out.mono (by omega), HG2.out⟩
        | true =>
          rcases Ow.form (OwI.ow HO2.out HXL.out) with ⟨_, h9, _⟩ | ⟨gl, c9, hA9, _, _, _⟩
          · exact absurd h9 (by omega)
          injection hA9 with hA9 hn9 hc9
          clear hn9
          subst hA9 hc9
          have hbc := below_alloc w2 (.cells #[.int .i64 (-1), .int .i64 0, .int .i64 ((N : Int) - 1), .int .i64 (N : Int), .int .i64 9223372036854775807] 2)
          have HSc := Lib.hid (HS2.out.ex hbc); have HGc := Lib.hid (HG2.out.bl hbc HG2.out.size); have HOc := Lib.hid ((OwI.ow HO2.out HXL.out).ex hbc)
          have HLc : Hid (OwI (w2.alloc (.cells #[.int .i64 (-1), .int .i64 0, .int .i64 ((N : Int) - 1), .int .i64 (N : Int), .int .i64 9223372036854775807] 2)) w.heap.size (.slice (some ⟨w2.heap.size, 0, none⟩) 5 5) [(-1), 0, (N : Int) - 1, (N : Int), 9223372036854775807]) := Lib.hid (Ow.lay w2 (lo := w.heap.size) (sz := 1) 2 #[.int .i64 (-1), .int .i64 0, .int .i64 ((N : Int) - 1), .int .i64 (N : Int), .int .i64 9223372036854775807] 5 HG2.out.size (by omega) rfl)
          clear hbc
          go_wp2_with fail
          refine (among_any g hi _ w.heap.size _ _ _ HSc.out (by omega) HLc.out hgw (by simp)).mono ?_
          rintro e wd ⟨y, -, rfl, hsd, hgd⟩
          have HSd := Lib.hid hsd; have HGd := Lib.hid (HGc.out.trans hgd); have HOd := Lib.hid (HOc.out.gr1 hgd hgw)
          have hcd := Ow.cell HOd.out (k := 0) (by rw [List.length_map, HXL.out]; omega)
          have hfd := Ow.free HOd.out 0
          have hgr := Ow.grow (k := 0) HOd.out (.int .i64 y)
          have HOe : Hid (Ow (wd.setCell ⟨gl, 0, none⟩ (.int .i64 y)) w.heap.size 2 1 (.slice (some ⟨gl, 0, none⟩) ln c1) ln ((xs.set 0 y).map (Value.int .i64))) := Lib.hid (by rw [List.map_set]; exact Ow.set HOd.out 0 (.int .i64 y))
          have HSe := Lib.hid (HSd.out.row (v := .slice (some ⟨gl, 0, none⟩) ln c1) hgr HOd.out hhw)
          have HGe := Lib.hid (HGd.out.bl (below_own (Below.refl w.heap.size wd) HOd.out hgr HGd.out.size (Nat.le_refl _)) (Nat.le_refl _))
          clear hsd hgd hgr
          go_wp2
          go_ret
          have hl : (xs.set 0 y).length = ln := by rw [List.length_set]; exact HXL.out
          have HOf : OwI (wd.setCell ⟨gl, 0, none⟩ (.int .i64 y)) w.heap.size (.slice (some ⟨gl, 0, none⟩) ln c1) (xs.set 0 y) := by unfold OwI; rw [hl]; exact HOe.out
          have hse := HSe.out; have hge := HGe.out
          clear HOe HSe HGe
          generalize xs.set 0 y = zs at hl HOf
          subst hl
          exact ⟨_, c1, zs, rfl, rfl, HOf, hse.mono (by omega), hge⟩

/-- blowers, sets and one blower are drawn -/
def BlPost (w : World) (e : Ending) (w' : World) : Prop :=
  ∃ (v u : Value) (ts : List Blower) (ss : List Int) (kb : Int), (-1 ≤ kb ∧ kb ≤ 5) ∧ (∃ A c, v = .slice A ts.length c) ∧ (∃ B d, u = .slice B ss.length d) ∧ e = .returned (.tuple #[v, u, .int .i64 kb]) ∧ SlBlower w' v ts ∧ SlI w' u ss ∧ Below w.heap.size w w'
set_option maxHeartbeats 1000000 in
theorem l11Pick_any (v : Value) (bs : List Int) (w : World) (hv : SlB w v bs) (hl : bs.length ≤ 1048576) : Calls Try.prog 76 #[v] w (BlPost w) := by
  have HV := Lib.hid hv
  clear hv
  go_enter Try.func76, Try.ntmps76
  go_wp2_with fail
  refine (from_any v bs _ HV.out hl).mono ?_
  rintro e w1 ⟨rfl, hs1, hb1⟩
  have HS1 := Lib.hid hs1; have HB1 := Lib.hid hb1
  have hgl : w.heap.size < w1.heap.size := Nat.lt_of_lt_of_le hs1.gh hs1.hw
  clear hs1 hb1
  go_wp2_with fail
  refine (bentBl_any _ _ _ _ HS1.out (by omega)).mono ?_
  rintro e w2 ⟨A, n, c, ns, hn5, hnl, rfl, ho2, hs2, hg2⟩
  have HS2 := Lib.hid hs2; have HG2 := Lib.hid hg2; have HO2 := Lib.hid ho2; have HNL := Lib.hid hnl
  clear hs2 hg2 ho2 hnl
  go_wp2_with fail
  refine (hours_any _ _ _ _ HS2.out (by omega)).mono ?_
  rintro e w3 ⟨x, ⟨hx0, hx1⟩, rfl, hs3, hg3⟩
  obtain ⟨h, rfl⟩ := Int.eq_ofNat_of_zero_le hx0
  have HS3 := Lib.hid hs3; have HG3 := Lib.hid (HG2.out.trans hg3); have HO3 := Lib.hid (HO2.out.gr1 hg3 hgl)
  clear hs3 hg3 hx0
  go_wp2_with fail
  refine (drawSets_any _ _ _ n c h A _ HS3.out (by omega) hn5 (by omega)).mono ?_
  rintro e w4 ⟨A4, c4, ss, hsl, rfl, ho4, hs4, hg4⟩
  have HS4 := Lib.hid hs4; have HG4 := Lib.hid (HG3.out.trans hg4); have HO4 := Lib.hid (HO3.out.gr1 hg4 hgl)
  have hg34 : w.heap.size < w3.heap.size := Nat.lt_of_lt_of_le hgl HG3.out.size
  have HU4 := Lib.hid ho4
  clear hs4 hg4 ho4 hsl
  go_wp2_with fail
  refine (pick_pos _ _ _ ((n : Int) + 1) _ HS4.out (by omega) (by omega)).mono ?_
  rintro e w5 ⟨y, ⟨hy0, hy1⟩, rfl, hs5, hg5⟩
  have HS5 := Lib.hid hs5; have HG5 := Lib.hid (HG4.out.trans hg5); have HO5 := Lib.hid (HO4.out.gr1 hg5 hgl); have HU5 := Lib.hid (Ow.gr1 HU4.out hg5 hg34)
  clear hs5 hg5
  go_wp2_with fail
  refine (pick_pos _ _ _ 16 _ HS5.out (by omega) (by omega)).mono ?_
  rintro e w6 ⟨z, ⟨hz0, hz1⟩, rfl, hs6, hg6⟩
  have HG6 := Lib.hid (HG5.out.trans hg6); have HO6 := Lib.hid (HO5.out.gr1 hg6 hgl); have HU6 := Lib.hid (Ow.gr1 HU5.out hg6 hg34)
  have HB6 : Hid (Below w.heap.size w w6) := Lib.hid (GrS.belowNew HG6.out (Nat.le_refl _) HB1.out)
  clear hs6 hg6
  obtain ⟨ts, htl, hts⟩ := group3 n ns HNL.out
  have HT : Hid (SlBlower w6 (.slice A n c) ts) := Lib.hid (by unfold SlBlower; rw [htl, hts]; exact HO6.out.sl)
  have HTL := Lib.hid htl
  clear htl hts
  go_wp2
  go_ret3
  exact ⟨.slice A n c, .slice A4 ss.length c4, ts, ss, y - z / 15, ⟨by omega, by omega⟩, ⟨A, c, by rw [HTL.out]⟩, ⟨A4, c4, rfl⟩, rfl, HT.out, Ow.sl HU6.out, HB6.out⟩
theorem drawLong_any (v : Value) (bs : List Int) (w : World) (hv : SlB w v bs) (hl : bs.length ≤ 1048576) : Calls Try.prog 44 #[v] w (BlPost w) := by
  have HV := Lib.hid hv
  clear hv
  go_enter Try.func44, Try.ntmps44
  go_wp2_with fail
  refine (l11Pick_any v bs _ HV.out hl).mono ?_
  rintro e w1 ⟨x, u, ts, ss, kb, hk, ⟨A, c, rfl⟩, ⟨B, d, rfl⟩, rfl, hx, hu, hb⟩
  have HX := Lib.hid hx; have HU := Lib.hid hu; have HB := Lib.hid hb; have HK := Lib.hid hk
  clear hx hu hb hk
  go_wp2
  go_ret3
  exact ⟨_, _, ts, ss, kb, HK.out, ⟨A, c, rfl⟩, ⟨B, d, rfl⟩, rfl, HX.out, HU.out, HB.out⟩
end Go.Proofs.Ytjleabgoajoegaa
