/-
The reference's draws for FnBlowers: needs; blowers with needs, with one need, with sets, with one set: each by its contract. Condition: a source, or the bytes.
-/
import Derived.Test.YtjleabgoajoegaaDrB2
namespace Go.Proofs.Ytjleabgoajoegaa
open Go.RowKit
set_option linter.unusedVariables false
set_option linter.unusedSimpArgs false

set_option maxRecDepth 100000 in
set_option maxHeartbeats 8000000 in
theorem drawNeeds_any (g hi m : Nat) (w : World) (hs : Src w g hi m) (hm : m ≤ 1000000) :
    Calls Try.prog 79 #[.pointer (some ⟨g, 0, none⟩)] w (ChoI (fun xs => xs.length ≤ 25) g hi (m + 90) w) := by
  have hgw : g < w.heap.size := Nat.lt_of_lt_of_le hs.gh hs.hw
  have hhw := hs.hw
  have hb0 := below_alloc w (.cells #[] 2)
  have HS0 := Lib.hid (hs.ex hb0)
  have HO0 := Lib.hid (owI_empty w w.heap.size (Nat.le_refl _))
  have HG0 : Hid (Gr1 g w _) := Lib.hid (GrS.ofBelow (R := fun k => k = g) hb0)
  clear hs hb0
  go_enter Try.func79, Try.ntmps79
  go_wp2_with fail
  refine (pick_pos g hi _ 9 _ HS0.out (by omega) (by omega)).mono ?_
  rintro e w1 ⟨x, ⟨hx0, hx1⟩, rfl, hs1, hg1⟩
  obtain ⟨h, rfl⟩ := Int.eq_ofNat_of_zero_le hx0
  have HS1 := Lib.hid hs1; have HG1 := Lib.hid (HG0.out.trans hg1); have HO1 : Hid (OwI w1 w.heap.size _ []) := Lib.hid (Ow.gr1 HO0.out hg1 hgw)
  clear hs1 hg1 hx0 HS0 HG0 HO0
  go_wp2_with fail
  refine (one_any g hi _ 20 _ HS1.out (by omega)).mono ?_
  rintro e w2 ⟨b, rfl, hs2, hg2⟩
  have HS2 := Lib.hid hs2; have HG2 := Lib.hid (HG1.out.trans hg2); have HO2 : Hid (OwI w2 w.heap.size _ []) := Lib.hid (Ow.gr1 HO1.out hg2 hgw)
  clear hs2 hg2 HS1 HG1 HO1
  cases b with
  | false =>
    have hh25 : h ≤ 25 := by omega
    have HS0 := Lib.hid (HS2.out.mono (m' := m + 6) (by omega)); have HG0 := HG2; have HO0 := HO2
    clear HS2 HG2 HO2 hx1
    go_wp2
    go_loopw [3, 5] (fun v3 v5 wr => ∃ (k ln c : Nat) (A : Option Addr) (xs : List Int), v3 = .slice A ln c ∧ v5 = .int .i64 k ∧ k + ln ≤ 25 ∧ Hid (k + ln = h) ∧ Hid (xs.length = ln) ∧ Hid (OwI wr w.heap.size (.slice A ln c) xs) ∧ Hid (Src wr g hi (m + 6 + 2 * ln)) ∧ Hid (Gr1 g w wr)) (fun _ v5 _ => (intOf v5).toNat)
    case atStart => exact ⟨h, 0, 0, _, [], rfl, rfl, by omega, Lib.hid (by omega), Lib.hid rfl, HO0, HS0, HG0⟩
    case round =>
      clear HO0 HS0 HG0
      obtain ⟨k, ln, c1, A1, xs, rfl, rfl, hk, HKL, HXL, HO, HS, HG⟩ := hrel
      by_cases h0 : 0 < k
      · have hki : (0 : Int) < (k : Int) := by omega
        go_wp2_with fail
        refine (pick_pos g hi _ 16 _ HS.out (by omega) (by omega)).mono ?_
        rintro e w2 ⟨x, ⟨hx0, hx1⟩, rfl, hs2, hg2⟩
        have HS2 := Lib.hid hs2; have HG2 := Lib.hid (HG.out.trans hg2); have HO2 : Hid (OwI w2 w.heap.size (.slice A1 ln c1) xs) := Lib.hid (Ow.gr1 HO.out hg2 hgw)
        have HSZ := Lib.hid (HG.out.trans hg2).size
        clear hs2 hg2
        go_wp2_with (first | (at_builtin; refine wpList_appI w2 rfl (.tmp 19) (.tmp 23) rfl w.heap.size w.heap.size w2 A1 ln c1 _ _ _ _ rfl HO2.out HXL.out rfl (Below.refl _ _) (Nat.le_refl _) HSZ.out (by omega) ?_; intro A3 c3 w3 hown3 hg3 hsz3 hb3; have HO3 := Lib.hid hown3; have HS3 := Lib.hid (HS2.out.bl hb3 hhw); have HG3 := Lib.hid (HG2.out.bl hb3 (Nat.le_refl _)); clear hown3 hg3 hsz3 hb3) | fail)
        go_roundw
        case rel => exact ⟨k - 1, ln + 1, c3, A3, _, rfl, dec_num h0, by omega, Lib.hid (by have h9 := HKL.out; omega), Lib.hid (by simp [HXL.out]), HO3, Lib.hid (HS3.out.mono (by omega)), HG3⟩
        case measure => simp [intOf]; omega
      · obtain rfl : k = 0 := by omega
        obtain rfl : ln = h := by have h9 := HKL.out; omega
        clear HKL
        by_cases hz : ¬ 0 < ln
        · have hzi : ¬ ((0 : Int) < (ln : Int)) := by omega
          go_wp2
          go_ret
          have hl := HXL.out
          subst hl
          exact ⟨A1, c1, xs, by omega, rfl, HO.out, HS.out.mono (by omega), HG.out⟩
        · have hzi : (0 : Int) < (ln : Int) := by omega
          go_wp2_with fail
          refine (one_any g hi _ 12 _ HS.out (by omega)).mono ?_
          rintro e w2 ⟨b, rfl, hs2, hg2⟩
          have HS2 := Lib.hid hs2; have HG2 := Lib.hid (HG.out.trans hg2); have HO2 : Hid (OwI w2 w.heap.size (.slice A1 ln c1) xs) := Lib.hid (Ow.gr1 HO.out hg2 hgw)
          clear hs2 hg2
          cases b with
          | false =>
            go_wp2
            go_ret
            have hl := HXL.out
            subst hl
            exact ⟨A1, c1, xs, by omega, rfl, HO2.out, HS2.out.mono (by omega), HG2.out⟩
          | true =>
            rcases Ow.form (OwI.ow HO2.out HXL.out) with ⟨_, h9, _⟩ | ⟨gl, c9, hA9, _, _, _⟩
            · exact absurd h9 (by omega)
            injection hA9 with hA9 hn9 hc9
            clear hn9
            subst hA9 hc9
            go_wp2_with fail
            refine (pick_pos g hi _ (ln : Int) _ HS2.out (by omega) (by omega)).mono ?_
            rintro e w5 ⟨z, ⟨hz0, hz1⟩, rfl, hs5, hg5⟩
            obtain ⟨q, rfl⟩ := Int.eq_ofNat_of_zero_le hz0
            have hql : q < ln := by omega
            have HS5 := Lib.hid hs5; have HG5 := Lib.hid (HG2.out.trans hg5); have HO5 : Hid (OwI w5 w.heap.size (.slice (some ⟨gl, 0, none⟩) ln c1) xs) := Lib.hid (Ow.gr1 HO2.out hg5 hgw)
            clear hs5 hg5 hz0
            have hbc := below_alloc w5 (.cells #[.int .i64 (-1), .int .i64 0, .int .i64 1000, .int .i64 1001] 2)
            have HSc := Lib.hid (HS5.out.ex hbc); have HGc := Lib.hid (HG5.out.bl hbc HG5.out.size); have HOc := Lib.hid ((OwI.ow HO5.out HXL.out).ex hbc)
            have HLc : Hid (OwI (w5.alloc (.cells #[.int .i64 (-1), .int .i64 0, .int .i64 1000, .int .i64 1001] 2)) w.heap.size (.slice (some ⟨w5.heap.size, 0, none⟩) 4 4) [(-1), 0, 1000, 1001]) := Lib.hid (Ow.lay w5 (lo := w.heap.size) (sz := 1) 2 #[.int .i64 (-1), .int .i64 0, .int .i64 1000, .int .i64 1001] 4 HG5.out.size (by omega) rfl)
            clear hbc
            go_wp2_with fail
            refine (among_any g hi _ w.heap.size _ _ _ HSc.out (by omega) HLc.out hgw (by simp)).mono ?_
            rintro e wd ⟨y, -, rfl, hsd, hgd⟩
            have HSd := Lib.hid hsd; have HGd := Lib.hid (HGc.out.trans hgd); have HOd := Lib.hid (HOc.out.gr1 hgd hgw)
            have hcd := Ow.cell HOd.out (k := q) (by rw [List.length_map, HXL.out]; omega)
            have hfd := Ow.free HOd.out q
            have hgr := Ow.grow (k := q) HOd.out (.int .i64 y)
            have HOe : Hid (Ow (wd.setCell ⟨gl, q, none⟩ (.int .i64 y)) w.heap.size 2 1 (.slice (some ⟨gl, 0, none⟩) ln c1) ln ((xs.set q y).map (Value.int .i64))) := Lib.hid (by rw [List.map_set]; exact Ow.set HOd.out q (.int .i64 y))
            have HSe := Lib.hid (HSd.out.row (v := .slice (some ⟨gl, 0, none⟩) ln c1) hgr HOd.out hhw)
            have HGe := Lib.hid (HGd.out.bl (below_own (Below.refl w.heap.size wd) HOd.out hgr HGd.out.size (Nat.le_refl _)) (Nat.le_refl _))
            clear hsd hgd hgr
            have hqi : (q : Int) < (ln : Int) := by omega
            go_wp2
            go_ret
            have hl : (xs.set q y).length = ln := by rw [List.length_set]; exact HXL.out
            have HOf : OwI (wd.setCell ⟨gl, q, none⟩ (.int .i64 y)) w.heap.size (.slice (some ⟨gl, 0, none⟩) ln c1) (xs.set q y) := by unfold OwI; rw [hl]; exact HOe.out
            have hse := HSe.out; have hge := HGe.out
            clear HOe HSe HGe
            generalize xs.set q y = zs at hl HOf
            subst hl
            exact ⟨_, c1, zs, by omega, rfl, HOf, hse.mono (by omega), hge⟩
  | true =>
    go_wp2_with fail
    refine (pick_pos g hi _ 2 _ HS2.out (by omega) (by omega)).mono ?_
    rintro e w3 ⟨y, ⟨hy0, hy1⟩, rfl, hs3, hg3⟩
    have HS0 := Lib.hid hs3; have HG0 := Lib.hid (HG2.out.trans hg3); have HO0 : Hid (OwI w3 w.heap.size _ []) := Lib.hid (Ow.gr1 HO2.out hg3 hgw)
    clear hs3 hg3 HS2 HG2 HO2
    obtain ⟨h', hh', hh25⟩ : ∃ h' : Nat, (24 : Int) + y = (h' : Int) ∧ h' ≤ 25 := ⟨(24 + y).toNat, by omega, by omega⟩
    have HH := Lib.hid hh'
    clear hh' hx1
    go_wp2
    rw [HH.out]
    clear HH
    generalize h' = h at hh25 ⊢
    go_loopw [3, 5] (fun v3 v5 wr => ∃ (k ln c : Nat) (A : Option Addr) (xs : List Int), v3 = .slice A ln c ∧ v5 = .int .i64 k ∧ k + ln ≤ 25 ∧ Hid (k + ln = h) ∧ Hid (xs.length = ln) ∧ Hid (OwI wr w.heap.size (.slice A ln c) xs) ∧ Hid (Src wr g hi (m + 6 + 2 * ln)) ∧ Hid (Gr1 g w wr)) (fun _ v5 _ => (intOf v5).toNat)
    case atStart => exact ⟨h, 0, 0, _, [], rfl, rfl, by omega, Lib.hid (by omega), Lib.hid rfl, HO0, HS0, HG0⟩
    case round =>
      clear HO0 HS0 HG0
      obtain ⟨k, ln, c1, A1, xs, rfl, rfl, hk, HKL, HXL, HO, HS, HG⟩ := hrel
      by_cases h0 : 0 < k
      · have hki : (0 : Int) < (k : Int) := by omega
        go_wp2_with fail
        refine (pick_pos g hi _ 16 _ HS.out (by omega) (by omega)).mono ?_
        rintro e w2 ⟨x, ⟨hx0, hx1⟩, rfl, hs2, hg2⟩
        have HS2 := Lib.hid hs2; have HG2 := Lib.hid (HG.out.trans hg2); have HO2 : Hid (OwI w2 w.heap.size (.slice A1 ln c1) xs) := Lib.hid (Ow.gr1 HO.out hg2 hgw)
        have HSZ := Lib.hid (HG.out.trans hg2).size
        clear hs2 hg2
        go_wp2_with (first | (at_builtin; refine wpList_appI w2 rfl (.tmp 19) (.tmp 23) rfl w.heap.size w.heap.size w2 A1 ln c1 _ _ _ _ rfl HO2.out HXL.out rfl (Below.refl _ _) (Nat.le_refl _) HSZ.out (by omega) ?_; intro A3 c3 w3 hown3 hg3 hsz3 hb3; have HO3 := Lib.hid hown3; have HS3 := Lib.hid (HS2.out.bl hb3 hhw); have HG3 := Lib.hid (HG2.out.bl hb3 (Nat.le_refl _)); clear hown3 hg3 hsz3 hb3) | fail)
        go_roundw
        case rel => exact ⟨k - 1, ln + 1, c3, A3, _, rfl, dec_num h0, by omega, Lib.hid (by have h9 := HKL.out; omega), Lib.hid (by simp [HXL.out]), HO3, Lib.hid (HS3.out.mono (by omega)), HG3⟩
        case measure => simp [intOf]; omega
      · obtain rfl : k = 0 := by omega
        obtain rfl : ln = h := by have h9 := HKL.out; omega
        clear HKL
        by_cases hz : ¬ 0 < ln
        · have hzi : ¬ ((0 : Int) < (ln : Int)) := by omega
          go_wp2
          go_ret
          have hl := HXL.out
          subst hl
          exact ⟨A1, c1, xs, by omega, rfl, HO.out, HS.out.mono (by omega), HG.out⟩
        · have hzi : (0 : Int) < (ln : Int) := by omega
          go_wp2_with fail
          refine (one_any g hi _ 12 _ HS.out (by omega)).mono ?_
          rintro e w2 ⟨b, rfl, hs2, hg2⟩
          have HS2 := Lib.hid hs2; have HG2 := Lib.hid (HG.out.trans hg2); have HO2 : Hid (OwI w2 w.heap.size (.slice A1 ln c1) xs) := Lib.hid (Ow.gr1 HO.out hg2 hgw)
          clear hs2 hg2
          cases b with
          | false =>
            go_wp2
            go_ret
            have hl := HXL.out
            subst hl
            exact ⟨A1, c1, xs, by omega, rfl, HO2.out, HS2.out.mono (by omega), HG2.out⟩
          | true =>
            rcases Ow.form (OwI.ow HO2.out HXL.out) with ⟨_, h9, _⟩ | ⟨gl, c9, hA9, _, _, _⟩
            · exact absurd h9 (by omega)
            injection hA9 with hA9 hn9 hc9
            clear hn9
            subst hA9 hc9
            go_wp2_with fail
            refine (pick_pos g hi _ (ln : Int) _ HS2.out (by omega) (by omega)).mono ?_
            rintro e w5 ⟨z, ⟨hz0, hz1⟩, rfl, hs5, hg5⟩
            obtain ⟨q, rfl⟩ := Int.eq_ofNat_of_zero_le hz0
            have hql : q < ln := by omega
            have HS5 := Lib.hid hs5; have HG5 := Lib.hid (HG2.out.trans hg5); have HO5 : Hid (OwI w5 w.heap.size (.slice (some ⟨gl, 0, none⟩) ln c1) xs) := Lib.hid (Ow.gr1 HO2.out hg5 hgw)
            clear hs5 hg5 hz0
            have hbc := below_alloc w5 (.cells #[.int .i64 (-1), .int .i64 0, .int .i64 1000, .int .i64 1001] 2)
            have HSc := Lib.hid (HS5.out.ex hbc); have HGc := Lib.hid (HG5.out.bl hbc HG5.out.size); have HOc := Lib.hid ((OwI.ow HO5.out HXL.out).ex hbc)
            have HLc : Hid (OwI (w5.alloc (.cells #[.int .i64 (-1), .int .i64 0, .int .i64 1000, .int .i64 1001] 2)) w.heap.size (.slice (some ⟨w5.heap.size, 0, none⟩) 4 4) [(-1), 0, 1000, 1001]) := Lib.hid (Ow.lay w5 (lo := w.heap.size) (sz := 1) 2 #[.int .i64 (-1), .int .i64 0, .int .i64 1000, .int .i64 1001] 4 HG5.out.size (by omega) rfl)
            clear hbc
            go_wp2_with fail
            refine (among_any g hi _ w.heap.size _ _ _ HSc.out (by omega) HLc.out hgw (by simp)).mono ?_
            rintro e wd ⟨y, -, rfl, hsd, hgd⟩
            have HSd := Lib.hid hsd; have HGd := Lib.hid (HGc.out.trans hgd); have HOd := Lib.hid (HOc.out.gr1 hgd hgw)
            have hcd := Ow.cell HOd.out (k := q) (by rw [List.length_map, HXL.out]; omega)
            have hfd := Ow.free HOd.out q
            have hgr := Ow.grow (k := q) HOd.out (.int .i64 y)
            have HOe : Hid (Ow (wd.setCell ⟨gl, q, none⟩ (.int .i64 y)) w.heap.size 2 1 (.slice (some ⟨gl, 0, none⟩) ln c1) ln ((xs.set q y).map (Value.int .i64))) := Lib.hid (by rw [List.map_set]; exact Ow.set HOd.out q (.int .i64 y))
            have HSe := Lib.hid (HSd.out.row (v := .slice (some ⟨gl, 0, none⟩) ln c1) hgr HOd.out hhw)
            have HGe := Lib.hid (HGd.out.bl (below_own (Below.refl w.heap.size wd) HOd.out hgr HGd.out.size (Nat.le_refl _)) (Nat.le_refl _))
            clear hsd hgd hgr
            have hqi : (q : Int) < (ln : Int) := by omega
            go_wp2
            go_ret
            have hl : (xs.set q y).length = ln := by rw [List.length_set]; exact HXL.out
            have HOf : OwI (wd.setCell ⟨gl, q, none⟩ (.int .i64 y)) w.heap.size (.slice (some ⟨gl, 0, none⟩) ln c1) (xs.set q y) := by unfold OwI; rw [hl]; exact HOe.out
            have hse := HSe.out; have hge := HGe.out
            clear HOe HSe HGe
            generalize xs.set q y = zs at hl HOf
            subst hl
            exact ⟨_, c1, zs, by omega, rfl, HOf, hse.mono (by omega), hge⟩

def BlI (w : World) (e : Ending) (w' : World) : Prop :=
  ∃ (v u : Value) (ts : List Blower) (ss : List Int), (∃ A c, v = .slice A ts.length c) ∧ (∃ B d, u = .slice B ss.length d) ∧ e = .returned (.tuple #[v, u]) ∧ SlBlower w' v ts ∧ SlI w' u ss ∧ Below w.heap.size w w'
def BlN (w : World) (e : Ending) (w' : World) : Prop :=
  ∃ (v : Value) (ts : List Blower) (x : Int), (-9223372036854775808 ≤ x ∧ x ≤ 9223372036854775807) ∧ (∃ A c, v = .slice A ts.length c) ∧ e = .returned (.tuple #[v, .int .i64 x]) ∧ SlBlower w' v ts ∧ Below w.heap.size w w'
def BlII (w : World) (e : Ending) (w' : World) : Prop :=
  ∃ (v u x : Value) (ts : List Blower) (ns ss : List Int), (∃ A c, v = .slice A ts.length c) ∧ (∃ B d, u = .slice B ns.length d) ∧ (∃ C d, x = .slice C ss.length d) ∧ e = .returned (.tuple #[v, u, x]) ∧ SlBlower w' v ts ∧ SlI w' u ns ∧ SlI w' x ss ∧ Below w.heap.size w w'
set_option maxHeartbeats 1000000 in
theorem drawBest_any (v : Value) (bs : List Int) (w : World) (hv : SlB w v bs) (hl : bs.length ≤ 1048576) : Calls Try.prog 45 #[v] w (BlI w) := by
  have HV := Lib.hid hv
  clear hv
  go_enter Try.func45, Try.ntmps45
  go_wp2_with fail
  refine (from_any v bs _ HV.out hl).mono ?_
  rintro e w1 ⟨rfl, hs1, hb1⟩
  have HS1 := Lib.hid hs1; have HB1 := Lib.hid hb1
  have hgl : w.heap.size < w1.heap.size := Nat.lt_of_lt_of_le hs1.gh hs1.hw
  clear hs1 hb1
  go_wp2_with fail
  refine (bentBl_any _ _ _ _ HS1.out (by omega)).mono ?_
  rintro e w2 ⟨A, n, c, ns, hn5, hnl, rfl, ho2, hs2, hg2⟩
  have HS2 := Lib.hid hs2; have HG2 := Lib.hid hg2; have HO2 := Lib.hid ho2; have HNL := Lib.hid hnl
  clear hs2 hg2 ho2 hnl
  go_wp2_with fail
  refine (drawNeeds_any _ _ _ _ HS2.out (by omega)).mono ?_
  rintro e w3 ⟨A3, c3, ss, hsl, rfl, ho3, hs3, hg3⟩
  have HG3 := Lib.hid (HG2.out.trans hg3); have HO3 := Lib.hid (HO2.out.gr1 hg3 hgl); have HU3 := Lib.hid ho3
  have HB3 : Hid (Below w.heap.size w w3) := Lib.hid (GrS.belowNew HG3.out (Nat.le_refl _) HB1.out)
  clear hs3 hg3 ho3
  obtain ⟨ts, htl, hts⟩ := group3 n ns HNL.out
  have HT : Hid (SlBlower w3 (.slice A n c) ts) := Lib.hid (by unfold SlBlower; rw [htl, hts]; exact HO3.out.sl)
  have HTL := Lib.hid htl
  clear htl hts
  go_wp2
  go_ret2
  exact ⟨.slice A n c, .slice A3 ss.length c3, ts, ss, ⟨A, c, by rw [HTL.out]⟩, ⟨A3, c3, rfl⟩, rfl, HT.out, Ow.sl HU3.out, HB3.out⟩
theorem drawCost_any (v : Value) (bs : List Int) (w : World) (hv : SlB w v bs) (hl : bs.length ≤ 1048576) : Calls Try.prog 47 #[v] w (BlI w) := by
  have HV := Lib.hid hv
  clear hv
  go_enter Try.func47, Try.ntmps47
  go_wp2_with fail
  refine (l11Pick_any v bs _ HV.out hl).mono ?_
  rintro e w1 ⟨x, u, ts, ss, kb, hk, ⟨A, c, rfl⟩, ⟨B, d, rfl⟩, rfl, hx, hu, hb⟩
  have HX := Lib.hid hx; have HU := Lib.hid hu; have HB := Lib.hid hb
  clear hx hu hb hk
  go_wp2
  go_ret2
  exact ⟨_, _, ts, ss, ⟨A, c, rfl⟩, ⟨B, d, rfl⟩, rfl, HX.out, HU.out, HB.out⟩
set_option maxHeartbeats 1000000 in
theorem drawCheap_any (v : Value) (bs : List Int) (w : World) (hv : SlB w v bs) (hl : bs.length ≤ 1048576) : Calls Try.prog 46 #[v] w (BlN w) := by
  have HV := Lib.hid hv
  clear hv
  go_enter Try.func46, Try.ntmps46
  go_wp2_with fail
  refine (from_any v bs _ HV.out hl).mono ?_
  rintro e w1 ⟨rfl, hs1, hb1⟩
  have HS1 := Lib.hid hs1; have HB1 := Lib.hid hb1
  have hgl : w.heap.size < w1.heap.size := Nat.lt_of_lt_of_le hs1.gh hs1.hw
  clear hs1 hb1
  go_wp2_with fail
  refine (bentBl_any _ _ _ _ HS1.out (by omega)).mono ?_
  rintro e w2 ⟨A, n, c, ns, hn5, hnl, rfl, ho2, hs2, hg2⟩
  have HS2 := Lib.hid hs2; have HG2 := Lib.hid hg2; have HO2 := Lib.hid ho2
  obtain ⟨ts, htl, hts⟩ := group3 n ns hnl
  have HTL := Lib.hid htl; have HTS := Lib.hid hts
  clear hs2 hg2 ho2 hnl htl hts
  go_wp2_with fail
  refine (one_any _ _ _ 8 _ HS2.out (by omega)).mono ?_
  rintro e w3 ⟨b, rfl, hs3, hg3⟩
  have HS3 := Lib.hid hs3; have HG3 := Lib.hid (HG2.out.trans hg3); have HO3 := Lib.hid (HO2.out.gr1 hg3 hgl)
  clear hs3 hg3 HS2 HG2 HO2
  cases b with
  | false =>
    go_wp2_with fail
    refine (pick_pos _ _ _ 30 _ HS3.out (by omega) (by omega)).mono ?_
    rintro e w4 ⟨y, ⟨hy0, hy1⟩, rfl, hs4, hg4⟩
    have HG4 := Lib.hid (HG3.out.trans hg4); have HO4 := Lib.hid (HO3.out.gr1 hg4 hgl)
    clear hs4 hg4
    have HB4 : Hid (Below w.heap.size w w4) := Lib.hid (GrS.belowNew HG4.out (Nat.le_refl _) HB1.out)
    have HT : Hid (SlBlower w4 (.slice A n c) ts) := Lib.hid (by unfold SlBlower; rw [HTL.out, HTS.out]; exact HO4.out.sl)
    go_wp2
    go_ret2
    exact ⟨.slice A n c, ts, 10 * y, by omega, ⟨A, c, by rw [HTL.out]⟩, rfl, HT.out, HB4.out⟩
  | true =>
    have hbc := below_alloc w3 (.cells #[.int .i64 (-1), .int .i64 0, .int .i64 1000, .int .i64 1001] 2)
    have HSc := Lib.hid (HS3.out.ex hbc); have HGc := Lib.hid (HG3.out.bl hbc HG3.out.size); have HOc := Lib.hid (HO3.out.ex hbc)
    have HLc : Hid (OwI (w3.alloc (.cells #[.int .i64 (-1), .int .i64 0, .int .i64 1000, .int .i64 1001] 2)) w1.heap.size (.slice (some ⟨w3.heap.size, 0, none⟩) 4 4) [(-1), 0, 1000, 1001]) := Lib.hid (Ow.lay w3 (lo := w1.heap.size) (sz := 1) 2 #[.int .i64 (-1), .int .i64 0, .int .i64 1000, .int .i64 1001] 4 HG3.out.size (by omega) rfl)
    clear hbc
    go_wp2_with fail
    refine (among_any _ _ _ w1.heap.size _ _ _ HSc.out (by omega) HLc.out hgl (by simp)).mono ?_
    rintro e w4 ⟨y, hy, rfl, hs4, hg4⟩
    have HG4 := Lib.hid (HGc.out.trans hg4); have HO4 := Lib.hid (HOc.out.gr1 hg4 hgl)
    clear hs4 hg4
    have HB4 : Hid (Below w.heap.size w w4) := Lib.hid (GrS.belowNew HG4.out (Nat.le_refl _) HB1.out)
    have HT : Hid (SlBlower w4 (.slice A n c) ts) := Lib.hid (by unfold SlBlower; rw [HTL.out, HTS.out]; exact HO4.out.sl)
    have HY : Hid (-9223372036854775808 ≤ y ∧ y ≤ 9223372036854775807) := Lib.hid (by simp at hy; omega)
    clear hy
    go_wp2
    go_ret2
    exact ⟨.slice A n c, ts, y, HY.out, ⟨A, c, by rw [HTL.out]⟩, rfl, HT.out, HB4.out⟩
set_option maxHeartbeats 1000000 in
theorem drawPow_any (v : Value) (bs : List Int) (w : World) (hv : SlB w v bs) (hl : bs.length ≤ 1048576) : Calls Try.prog 49 #[v] w (BlN w) := by
  have HV := Lib.hid hv
  clear hv
  go_enter Try.func49, Try.ntmps49
  go_wp2_with fail
  refine (from_any v bs _ HV.out hl).mono ?_
  rintro e w1 ⟨rfl, hs1, hb1⟩
  have HS1 := Lib.hid hs1; have HB1 := Lib.hid hb1
  have hgl : w.heap.size < w1.heap.size := Nat.lt_of_lt_of_le hs1.gh hs1.hw
  clear hs1 hb1
  go_wp2_with fail
  refine (bentBl_any _ _ _ _ HS1.out (by omega)).mono ?_
  rintro e w2 ⟨A, n, c, ns, hn5, hnl, rfl, ho2, hs2, hg2⟩
  have HS2 := Lib.hid hs2; have HG2 := Lib.hid hg2; have HO2 := Lib.hid ho2
  obtain ⟨ts, htl, hts⟩ := group3 n ns hnl
  have HTL := Lib.hid htl; have HTS := Lib.hid hts
  clear hs2 hg2 ho2 hnl htl hts
  go_wp2_with fail
  refine (one_any _ _ _ 8 _ HS2.out (by omega)).mono ?_
  rintro e w3 ⟨b, rfl, hs3, hg3⟩
  have HS3 := Lib.hid hs3; have HG3 := Lib.hid (HG2.out.trans hg3); have HO3 := Lib.hid (HO2.out.gr1 hg3 hgl)
  clear hs3 hg3 HS2 HG2 HO2
  cases b with
  | false =>
    obtain ⟨q, hq4, hqm⟩ : ∃ q : Nat, q ≤ 4 ∧ min (n : Int) 4 = (q : Int) := ⟨min n 4, by omega, by omega⟩
    have HMN := Lib.hid (l00Min_bl (n : Int) 4)
    rw [hqm] at HMN
    obtain ⟨h2a, h2b, h2c, -⟩ := two_pow hq4
    clear hqm
    obtain ⟨N, hN⟩ : ∃ N : Nat, 2 ^ q = N := ⟨_, rfl⟩
    rw [hN] at h2a h2b h2c
    have hwp : wrap64 (2 ^ q) = (N : Int) := h2a
    have HN := Lib.hid hN
    clear hN h2a
    go_wp2_with fail
    refine (HMN.out _).mono ?_
    rintro e w3b ⟨rfl, rfl⟩
    go_wp2_with fail
    rw [hwp]
    refine (pick_pos _ _ _ (N : Int) _ HS3.out (by omega) (by omega)).mono ?_
    rintro e w4 ⟨y, ⟨hy0, hy1⟩, rfl, hs4, hg4⟩
    have HG4 := Lib.hid (HG3.out.trans hg4); have HO4 := Lib.hid (HO3.out.gr1 hg4 hgl)
    clear hs4 hg4
    have HB4 : Hid (Below w.heap.size w w4) := Lib.hid (GrS.belowNew HG4.out (Nat.le_refl _) HB1.out)
    have HT : Hid (SlBlower w4 (.slice A n c) ts) := Lib.hid (by unfold SlBlower; rw [HTL.out, HTS.out]; exact HO4.out.sl)
    go_wp2
    go_ret2
    exact ⟨.slice A n c, ts, y, by omega, ⟨A, c, by rw [HTL.out]⟩, rfl, HT.out, HB4.out⟩
  | true =>
    have hbc := below_alloc w3 (.cells #[.int .i64 (-1), .int .i64 0, .int .i64 15, .int .i64 16, .int .i64 32] 2)
    have HSc := Lib.hid (HS3.out.ex hbc); have HGc := Lib.hid (HG3.out.bl hbc HG3.out.size); have HOc := Lib.hid (HO3.out.ex hbc)
    have HLc : Hid (OwI (w3.alloc (.cells #[.int .i64 (-1), .int .i64 0, .int .i64 15, .int .i64 16, .int .i64 32] 2)) w1.heap.size (.slice (some ⟨w3.heap.size, 0, none⟩) 5 5) [(-1), 0, 15, 16, 32]) := Lib.hid (Ow.lay w3 (lo := w1.heap.size) (sz := 1) 2 #[.int .i64 (-1), .int .i64 0, .int .i64 15, .int .i64 16, .int .i64 32] 5 HG3.out.size (by omega) rfl)
    clear hbc
    go_wp2_with fail
    refine (among_any _ _ _ w1.heap.size _ _ _ HSc.out (by omega) HLc.out hgl (by simp)).mono ?_
    rintro e w4 ⟨y, hy, rfl, hs4, hg4⟩
    have HG4 := Lib.hid (HGc.out.trans hg4); have HO4 := Lib.hid (HOc.out.gr1 hg4 hgl)
    clear hs4 hg4
    have HB4 : Hid (Below w.heap.size w w4) := Lib.hid (GrS.belowNew HG4.out (Nat.le_refl _) HB1.out)
    have HT : Hid (SlBlower w4 (.slice A n c) ts) := Lib.hid (by unfold SlBlower; rw [HTL.out, HTS.out]; exact HO4.out.sl)
    have HY : Hid (-9223372036854775808 ≤ y ∧ y ≤ 9223372036854775807) := Lib.hid (by simp at hy; omega)
    clear hy
    go_wp2
    go_ret2
    exact ⟨.slice A n c, ts, y, HY.out, ⟨A, c, by rw [HTL.out]⟩, rfl, HT.out, HB4.out⟩
set_option maxHeartbeats 1000000 in
theorem drawMeet_any (v : Value) (bs : List Int) (w : World) (hv : SlB w v bs) (hl : bs.length ≤ 1048576) : Calls Try.prog 48 #[v] w (BlII w) := by
  have HV := Lib.hid hv
  clear hv
  go_enter Try.func48, Try.ntmps48
  go_wp2_with fail
  refine (from_any v bs _ HV.out hl).mono ?_
  rintro e w1 ⟨rfl, hs1, hb1⟩
  have HS1 := Lib.hid hs1; have HB1 := Lib.hid hb1
  have hgl : w.heap.size < w1.heap.size := Nat.lt_of_lt_of_le hs1.gh hs1.hw
  clear hs1 hb1
  go_wp2_with fail
  refine (bentBl_any _ _ _ _ HS1.out (by omega)).mono ?_
  rintro e w2 ⟨A, n, c, ns, hn5, hnl, rfl, ho2, hs2, hg2⟩
  have HS2 := Lib.hid hs2; have HG2 := Lib.hid hg2; have HO2 := Lib.hid ho2
  obtain ⟨ts, htl, hts⟩ := group3 n ns hnl
  have HTL := Lib.hid htl; have HTS := Lib.hid hts
  clear hs2 hg2 ho2 hnl htl hts
  go_wp2_with fail
  refine (drawNeeds_any _ _ _ _ HS2.out (by omega)).mono ?_
  rintro e w3 ⟨A3, c3, zs, hzl, rfl, ho3, hs3, hg3⟩
  have HS3 := Lib.hid hs3; have HG3 := Lib.hid (HG2.out.trans hg3); have HO3 := Lib.hid (HO2.out.gr1 hg3 hgl); have HU3 := Lib.hid ho3
  have hg23 : w.heap.size < w2.heap.size := Nat.lt_of_lt_of_le hgl HG2.out.size
  clear hs3 hg3 ho3 HS2 HO2
  go_wp2_with fail
  refine (one_any _ _ _ 12 _ HS3.out (by omega)).mono ?_
  rintro e w4 ⟨b, rfl, hs4, hg4⟩
  have HS4 := Lib.hid hs4; have HG4 := Lib.hid (HG3.out.trans hg4); have HO4 := Lib.hid (HO3.out.gr1 hg4 hgl); have HU4 := Lib.hid (Ow.gr1 HU3.out hg4 hg23)
  have hg34 : w.heap.size < w4.heap.size := Nat.lt_of_lt_of_le hgl HG4.out.size
  clear hs4 hg4 HS3 HO3 HU3
  obtain ⟨h, hh, HHb⟩ : ∃ h : Nat, h ≤ 26 ∧ Hid ((if b then (zs.length : Int) + 1 else (zs.length : Int)) = (h : Int)) := ⟨if b then zs.length + 1 else zs.length, by split <;> omega, Lib.hid (by split <;> rfl)⟩
  have HDS := Lib.hid (drawSets_any _ _ _ n c h A _ HS4.out (by omega) hn5 hh)
  rw [← HHb.out] at HDS
  cases b
  all_goals
    simp only [if_true, if_false, Bool.false_eq_true] at HDS
    go_wp2_with fail
    refine HDS.out.mono ?_
    rintro e w5 ⟨A5, c5, ss, hsl, rfl, ho5, hs5, hg5⟩
    have HG5 := Lib.hid (HG4.out.trans hg5); have HO5 := Lib.hid (HO4.out.gr1 hg5 hgl); have HU5 := Lib.hid (Ow.gr1 HU4.out hg5 hg23); have HW5 := Lib.hid ho5
    clear hs5 hg5 ho5 hsl
    have HB5 : Hid (Below w.heap.size w w5) := Lib.hid (GrS.belowNew HG5.out (Nat.le_refl _) HB1.out)
    have HT : Hid (SlBlower w5 (.slice A n c) ts) := Lib.hid (by unfold SlBlower; rw [HTL.out, HTS.out]; exact HO5.out.sl)
    go_wp2
    go_ret3
    exact ⟨.slice A n c, .slice A3 zs.length c3, .slice A5 ss.length c5, ts, zs, ss, ⟨A, c, by rw [HTL.out]⟩, ⟨A3, c3, rfl⟩, ⟨A5, c5, rfl⟩, rfl, HT.out, Ow.sl HU5.out, Ow.sl HW5.out, HB5.out⟩
end Go.Proofs.Ytjleabgoajoegaa
