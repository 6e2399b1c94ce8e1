/-
The reference's draws of halls and ways, each by its contract: what is drawn is valid. Condition: a source.
-/
import Derived.Test.YtegabdhmfemgkaaDr
import Derived.Test.YtegabdhmfemgkaaPolA
import Derived.Test.YtegabdhmfemgkaaStepI
namespace Go.Proofs.Ytegabdhmfemgkaa
open Go.RowKit
set_option linter.unusedVariables false
set_option linter.unusedSimpArgs false

set_option maxHeartbeats 1000000 in
theorem drawHalls_any (g hi m : Nat) (w : World) (h : Src w g hi m) (hm : m ≤ 1000000) :
    Calls Try.prog 61 #[.pointer (some ⟨g, 0, none⟩)] w (ChoI (fun xs => 1 ≤ xs.length ∧ xs.length ≤ 4 ∧ ∀ x ∈ xs, 1 ≤ x ∧ x ≤ 3) g hi (m + 10) w) := by
  have hgw : g < w.heap.size := Nat.lt_of_lt_of_le h.gh h.hw
  have hhw := h.hw
  have hb0 := below_alloc w (.cells #[] 2)
  have HS0 := Lib.hid (h.ex hb0)
  have HO0 := Lib.hid (owI_empty w w.heap.size (Nat.le_refl _))
  have HG0 : Hid (Gr1 g w _) := Lib.hid (GrS.ofBelow (R := fun k => k = g) hb0)
  clear h hb0
  go_enter Try.func61, Try.ntmps61
  go_wp2_with fail
  refine (pick_pos g hi m 4 _ HS0.out (by omega) (by omega)).mono ?_
  rintro e w1 ⟨x, ⟨hx0, hx1⟩, rfl, hs1, hg1⟩
  obtain ⟨n, rfl⟩ := Int.eq_ofNat_of_zero_le hx0
  have HS1 := Lib.hid hs1; have HG1 := Lib.hid (HG0.out.trans hg1); have HO1 : Hid (OwI w1 w.heap.size (.slice (some ⟨w.heap.size, 0, none⟩) 0 0) []) := Lib.hid (Ow.gr1 HO0.out hg1 hgw)
  clear hs1 hg1 hx0
  go_wp2
  go_loopw [3, 4] (fun v3 v4 wr => ∃ (k ln c : Nat) (A : Option Addr) (xs : List Int), v3 = .slice A ln c ∧ v4 = .int .i64 k ∧ k + ln ≤ 4 ∧ 1 ≤ k + ln ∧ Hid (xs.length = ln) ∧ Hid (∀ x ∈ xs, 1 ≤ x ∧ x ≤ 3) ∧ Hid (OwI wr w.heap.size (.slice A ln c) xs) ∧ Hid (Src wr g hi (m + 2 + 2 * ln)) ∧ Hid (Gr1 g w wr)) (fun _ v4 _ => (intOf v4).toNat)
  case atStart => exact ⟨1 + n, 0, 0, _, [], rfl, by go_num, by omega, by omega, Lib.hid rfl, Lib.hid (by simp), HO1, HS1, HG1⟩
  case round =>
    obtain ⟨k, ln, c, A, xs, rfl, rfl, hk, hk1, HXL, HP, HO, HS, HG⟩ := hrel
    by_cases h0 : 0 < k
    · have hki : (0 : Int) < (k : Int) := by omega
      go_wp2_with fail
      refine (one_any g hi _ 4 _ HS.out (by omega)).mono ?_
      rintro e w2 ⟨b, rfl, hs2, hg2⟩
      have HS2 := Lib.hid hs2; have HG2 := Lib.hid (HG.out.trans hg2); have HO2 : Hid (OwI w2 w.heap.size (.slice A ln c) xs) := Lib.hid (Ow.gr1 HO.out hg2 hgw)
      have HSZ := Lib.hid (HG.out.trans hg2).size
      clear hs2 hg2
      cases b
      all_goals
        go_wp2_with (first | (at_builtin; refine wpList_appI w2 rfl (.tmp 16) (.tmp 18) rfl w.heap.size w.heap.size w2 A ln c _ _ _ _ rfl HO2.out HXL.out rfl (Below.refl _ _) (Nat.le_refl _) HSZ.out (by omega) ?_; intro A3 c3 w3 hown3 hg3 hsz3 hb3; have HO3 := Lib.hid hown3; have HS3 := Lib.hid (HS2.out.bl hb3 hhw); have HG3 := Lib.hid (HG2.out.bl hb3 (Nat.le_refl _)); clear hown3 hg3 hsz3 hb3) | fail)
        go_roundw
        case rel => exact ⟨k - 1, ln + 1, c3, A3, _, rfl, dec_num h0, by omega, by omega, Lib.hid (by simp [HXL.out]), Lib.hid (mem_snoc HP.out (by omega)), HO3, Lib.hid (HS3.out.mono (by omega)), HG3⟩
        case measure => simp [intOf]; omega
    · obtain rfl : k = 0 := by omega
      go_wp2
      go_ret
      have hl := HXL.out
      subst hl
      exact ⟨A, c, xs, ⟨by omega, by omega, HP.out⟩, rfl, HO.out, HS.out.mono (by omega), HG.out⟩

/-- a way so far -/
structure WayP (n : Nat) (xs : List Int) : Prop where
  mem : ∀ x ∈ xs, 0 ≤ x ∧ x < (n : Int)
  adj : adjB xs = false
theorem WayP.one {n : Nat} {x : Int} (h0 : 0 ≤ x) (h1 : x < (n : Int)) : WayP n [x] :=
  ⟨by intro y hy; obtain rfl := List.mem_singleton.1 hy; exact ⟨h0, h1⟩, by rw [adjB_false]; intro k hk h; simp at hk; omega⟩
theorem WayP.snoc {n : Nat} {xs : List Int} (h : WayP n xs) {z : Int} (h0 : 0 ≤ z) (h1 : z < (n : Int)) (hl : 0 < xs.length) (hz : z ≠ xs[xs.length - 1]) : WayP n (xs ++ [z]) := by
  refine ⟨mem_snoc h.mem ⟨h0, h1⟩, ?_⟩
  rw [adjB_false]
  intro k hk hk0
  by_cases e : k < xs.length
  · rw [List.getElem_append_left (by omega), List.getElem_append_left e]
    exact adjB_false.1 h.adj k e hk0
  · have hk' : k = xs.length := by simp at hk; omega
    subst hk'
    rw [List.getElem_append_left (by omega)]
    have e1 : (xs ++ [z])[xs.length]'hk = z := by simp
    rw [e1]; exact Ne.symm hz
theorem WayP.ok {n : Nat} {xs : List Int} (h : WayP n xs) (h1 : 1 ≤ xs.length) (h5 : xs.length ≤ 5) : wayOk n xs = true := by
  unfold wayOk
  rw [h.adj]
  have h2 : outB xs 0 ((n : Int) - 1) = false := outB_false.2 fun x hx => by have := h.mem x hx; omega
  rw [h2]
  have h3 : inB (xs.length : Int) 1 5 = true := inB_iff.2 (by omega)
  rw [h3]; rfl
theorem mod_step {n y x : Int} (hy0 : 0 ≤ y) (hyn : y < n) (hx0 : 0 ≤ x) (hx1 : x < n - 1) : 0 ≤ (y + 1 + x) % n ∧ (y + 1 + x) % n < n ∧ (y + 1 + x) % n ≠ y := by
  have hn : 0 < n := by omega
  refine ⟨Int.emod_nonneg _ (by omega), Int.emod_lt_of_pos _ hn, ?_⟩
  by_cases h : y + 1 + x < n
  · rw [Int.emod_eq_of_lt (by omega) h]; omega
  · have e : (y + 1 + x) % n = y + 1 + x - n := by
      have h1 : (y + 1 + x - n) % n = y + 1 + x - n := Int.emod_eq_of_lt (by omega) (by omega)
      rw [← h1, Int.sub_emod_right]
    rw [e]; omega
set_option maxRecDepth 100000 in
set_option maxHeartbeats 4000000 in
theorem drawWay_any (g hi m n : Nat) (w : World) (h : Src w g hi m) (hm : m ≤ 1000000) (hn1 : 1 ≤ n) (hn6 : n ≤ 6) :
    Calls Try.prog 95 #[.pointer (some ⟨g, 0, none⟩), .int .i64 (n : Int)] w (ChoI (fun xs => wayOk n xs = true) g hi (m + 10) w) := by
  have hgw : g < w.heap.size := Nat.lt_of_lt_of_le h.gh h.hw
  have hhw := h.hw
  have HS0 := Lib.hid h
  clear h
  go_enter Try.func95, Try.ntmps95
  go_wp2_with fail
  refine (pick_pos g hi m (n : Int) _ HS0.out (by omega) (by omega)).mono ?_
  rintro e w1 ⟨x0, ⟨hx0, hx1⟩, rfl, hs1, hg1⟩
  have hb1 := below_alloc w1 (.cells #[.int .i64 x0] 2)
  have HS1 := Lib.hid (hs1.ex hb1); have HG1 := Lib.hid (GrS.bl hg1 hb1 hg1.size)
  have HO1 : Hid (OwI (w1.alloc (.cells #[.int .i64 x0] 2)) w.heap.size (.slice (some ⟨w1.heap.size, 0, none⟩) 1 1) [x0]) := Lib.hid (Ow.lay w1 (lo := w.heap.size) (sz := 1) 2 #[.int .i64 x0] 1 hg1.size (by omega) rfl)
  have HW1 := Lib.hid (WayP.one hx0 hx1)
  clear hs1 hg1 hb1
  go_wp2_with fail
  refine (pick_pos g hi _ 4 _ HS1.out (by omega) (by omega)).mono ?_
  rintro e w2 ⟨q, ⟨hq0, hq1⟩, rfl, hs2, hg2⟩
  obtain ⟨k0, rfl⟩ := Int.eq_ofNat_of_zero_le hq0
  have HS2 := Lib.hid hs2; have HG2 := Lib.hid (HG1.out.trans hg2); have HO2 : Hid (OwI w2 w.heap.size (.slice (some ⟨w1.heap.size, 0, none⟩) 1 1) [x0]) := Lib.hid (Ow.gr1 HO1.out hg2 hgw)
  clear hs2 hg2 hq0
  go_wp2
  go_loopw [5, 6] (fun v5 v6 wr => ∃ (k ln c ga : Nat) (xs : List Int), v5 = .slice (some ⟨ga, 0, none⟩) ln c ∧ v6 = .int .i64 k ∧ k + ln ≤ 4 ∧ 1 ≤ ln ∧ Hid (xs.length = ln) ∧ Hid (WayP n xs) ∧ Hid (OwI wr w.heap.size (.slice (some ⟨ga, 0, none⟩) ln c) xs) ∧ Hid (Src wr g hi (m + 2 + 2 * ln)) ∧ Hid (Gr1 g w wr)) (fun _ v6 _ => (intOf v6).toNat)
  case atStart => exact ⟨k0, 1, _, _, [x0], rfl, rfl, by omega, by omega, Lib.hid rfl, HW1, HO2, Lib.hid (HS2.out.mono (by omega)), HG2⟩
  case round =>
    obtain ⟨k, ln, c, ga, xs, rfl, rfl, hk, hk1, HXL, HP, HO, HS, HG⟩ := hrel
    have hn0 : (0 : Int) ≤ (n : Int) := by omega
    by_cases h0 : 0 < k
    · have hki : (0 : Int) < (k : Int) := by omega
      by_cases hn : 1 < n
      · have hni : (1 : Int) < (n : Int) := by omega
        have hlx : ln - 1 < xs.length := by rw [HXL.out]; omega
        have hcell := Ow.cell (OwI.ow HO.out HXL.out) (k := ln - 1) (by rw [List.length_map]; exact hlx)
        rw [List.getElem_map] at hcell
        have HY : Hid (xs[ln - 1]'hlx = xs[xs.length - 1]'(by omega)) := Lib.hid (by congr 1; rw [HXL.out])
        obtain ⟨hy0, hy1⟩ := HP.out.mem _ (List.getElem_mem hlx)
        obtain ⟨y, hyv⟩ : ∃ y, xs[ln - 1]'hlx = y := ⟨_, rfl⟩
        rw [hyv] at hcell HY hy0 hy1
        have HYV := Lib.hid hyv
        clear hyv
        have HWN : Hid (∀ x : Int, 0 ≤ x → x < (n : Int) - 1 → 0 ≤ (y + 1 + x) % (n : Int) ∧ (y + 1 + x) % (n : Int) < (n : Int) ∧ WayP n (xs ++ [(y + 1 + x) % (n : Int)])) := Lib.hid fun x h1 h2 => by
          obtain ⟨a, b, c⟩ := mod_step hy0 hy1 h1 h2
          exact ⟨a, b, HP.out.snoc a b (by omega) (by rw [← HY.out]; exact c)⟩
        have hnz : ¬ n = 0 := by omega
        have hl0 : (1 : Int) ≤ (ln : Int) := by omega
        have hl1 : (0 : Int) ≤ (ln : Int) - 1 := by omega
        have hl2 : (ln : Int) - 1 < (ln : Int) := by omega
        have hl3 : ((ln : Int) - 1).toNat = ln - 1 := by omega
        have hx9 : IntKind.i64.wrap ((ln : Int) - 1) = (ln : Int) - 1 := IntWalk.i64_in _ (by omega)
        have hx8 : IntKind.i64.wrap (y + 1) = y + 1 := IntWalk.i64_in _ (by omega)
        have hx7 : IntKind.i64.wrap ((n : Int) - 1) = (n : Int) - 1 := IntWalk.i64_in _ (by omega)
        have HSD := Lib.hid (HS.out.ex (Below.refl _ _).drew)
        have HGD : Hid (Gr1 g wr wr.drew) := Lib.hid (GrS.ofBelow (Below.refl _ _).drew)
        have HCE : Hid (∀ W, Gr1 g wr W → W.cell? ⟨ga, ln - 1, none⟩ = some (.int .i64 y) ∧ OwI W w.heap.size (.slice (some ⟨ga, 0, none⟩) ln c) xs ∧ w.heap.size ≤ W.heap.size ∧ Gr1 g w W) := Lib.hid fun W hW => by
          have h9 : OwI W w.heap.size (.slice (some ⟨ga, 0, none⟩) ln c) xs := Ow.gr1 HO.out hW hgw
          have h8 := Ow.cell (OwI.ow h9 HXL.out) (k := ln - 1) (by rw [List.length_map]; exact hlx)
          rw [List.getElem_map] at h8
          refine ⟨?_, h9, (HG.out.trans hW).size, HG.out.trans hW⟩
          rw [h8, HYV.out]
        have HSU : Hid (∀ x : Int, 0 ≤ x → x < (n : Int) - 1 → IntKind.i64.wrap (y + 1 + x) = y + 1 + x ∧ (y + 1 + x).tmod (n : Int) = (y + 1 + x) % (n : Int)) := Lib.hid fun x h1 h2 => ⟨IntWalk.i64_in _ (by omega), Int.tmod_eq_emod_of_nonneg (by omega)⟩
        have hn1' : 1 ≤ (n : Int) - 1 := by omega
        go_wp2
        go_region_law (first | (go_simp; go_at_call 93; refine Calls.mono (pick_pos g hi _ _ _ HSD.out (by omega) hn1') ?_; rintro eA wA ⟨x, ⟨hx0, hx1⟩, rfl, hsA, hgA⟩; obtain ⟨hcA, hoA, hzA, hGA⟩ := HCE.out wA (HGD.out.trans hgA); have HOA := Lib.hid hoA; have HZA := Lib.hid hzA; have HGA := Lib.hid hGA; have HSA := Lib.hid hsA; obtain ⟨hs1, hs2⟩ := HSU.out x hx0 hx1; obtain ⟨hz0, hz1, hz2⟩ := HWN.out x hx0 hx1; have HZ2 := Lib.hid hz2; clear hsA hgA hoA hzA hGA hz2) | (refine step_app1 _ (by rfl) _ _ _ (by rfl) w.heap.size 2 (.int .i64 0) 1 8 Try.underlying31 infoI64 rfl (by omega) (.slice (some ⟨ga, 0, none⟩) ln c) ln _ (by rfl) ((OwI.ow HOA.out HXL.out).ex (below_alloc _ _)) _ _ [.int .i64 ((y + 1 + x) % (n : Int))] (by rfl) rfl (by intro j u hj; match j, hj with | 0, hj => (simp at hj; subst hj; simp) | j + 1, hj => simp at hj) (by intro u hu; simp at hu; subst hu; rfl) (by omega) (by omega) (by have h9 := HZA.out; simp; omega) ?_; intro g7 c7 w7 ho7 hg7 hor7 hlt7; have H7 : Hid (OwI w7 w.heap.size (.slice (some ⟨g7, 0, none⟩) (ln + 1) c7) (xs ++ [(y + 1 + x) % (n : Int)])) := Lib.hid (by unfold OwI; rw [List.map_append, show (xs ++ [(y + 1 + x) % (n : Int)]).length = ln + 1 by simp [HXL.out]]; exact ho7); have hb7 : Below w.heap.size wA w7 := below_own ((below_alloc wA _).mono HZA.out) ((OwI.ow HOA.out HXL.out).ex (below_alloc wA _)) hg7 (by have h9 := HZA.out; simp; omega) (Nat.le_refl _); have HS7 := Lib.hid (HSA.out.bl hb7 hhw); have HG7 := Lib.hid (HGA.out.bl hb7 (Nat.le_refl _)); clear ho7 hg7 hor7 hlt7 hb7))
        all_goals
          clear hx9 hx8 hx7 hs1 hs2
          go_wp2
          go_roundw
          case rel => exact ⟨k - 1, ln + 1, c7, g7, _, rfl, dec_num h0, by omega, by omega, Lib.hid (by simp [HXL.out]), HZ2, H7, Lib.hid (HS7.out.mono (by omega)), HG7⟩
          case measure => simp [intOf]; omega
      · have hni : ¬ ((1 : Int) < (n : Int)) := by omega
        go_wp2
        go_ret
        have hl := HXL.out
        subst hl
        exact ⟨_, c, xs, HP.out.ok hk1 (by omega), rfl, HO.out, HS.out.mono (by omega), HG.out⟩
    · obtain rfl : k = 0 := by omega
      by_cases hn : 1 < n
      all_goals
        go_wp2
        go_ret
        have hl := HXL.out
        subst hl
        exact ⟨_, c, xs, HP.out.ok hk1 (by omega), rfl, HO.out, HS.out.mono (by omega), HG.out⟩

set_option maxHeartbeats 1000000 in
theorem drawP_any (g hi m n : Nat) (w : World) (h : Src w g hi m) (hm : m ≤ 100000) (hn1 : 1 ≤ n) (hn6 : n ≤ 6) :
    Calls Try.prog 62 #[.pointer (some ⟨g, 0, none⟩), .int .i64 (n : Int)] w (ChoII (fun xss => xss.length ≤ 4 ∧ ∀ xs ∈ xss, wayOk n xs = true) g hi (m + 50) w) := by
  have hgw : g < w.heap.size := Nat.lt_of_lt_of_le h.gh h.hw
  have hhw := h.hw
  have hb0 := below_alloc w (.cells #[] 31)
  have HS0 := Lib.hid (h.ex hb0)
  have HO0 := Lib.hid (owRows_nil w w.heap.size (Nat.le_refl _))
  have HG0 : Hid (Gr1 g w _) := Lib.hid (GrS.ofBelow (R := fun k => k = g) hb0)
  clear h hb0
  go_enter Try.func62, Try.ntmps62
  go_wp2_with fail
  refine (pick_pos g hi m 5 _ HS0.out (by omega) (by omega)).mono ?_
  rintro e w1 ⟨x, ⟨hx0, hx1⟩, rfl, hs1, hg1⟩
  obtain ⟨k0, rfl⟩ := Int.eq_ofNat_of_zero_le hx0
  have HS1 := Lib.hid hs1; have HG1 := Lib.hid (HG0.out.trans hg1); have HO1 := Lib.hid (HO0.out.gr1 hg1 hgw)
  clear hs1 hg1 hx0
  go_wp2
  go_loopw [5, 6] (fun v5 v6 wr => ∃ (k ln c : Nat) (A : Option Addr) (us : List Value) (xss : List (List Int)), v5 = .slice A ln c ∧ v6 = .int .i64 k ∧ k + ln ≤ 4 ∧ Hid (∀ x ∈ xss, wayOk n x = true) ∧ Hid (OwRows wr w.heap.size (.slice A ln c) ln us xss) ∧ Hid (Src wr g hi (m + 2 + 10 * ln)) ∧ Hid (Gr1 g w wr)) (fun _ v6 _ => (intOf v6).toNat)
  case atStart => exact ⟨k0, 0, 0, _, [], [], rfl, rfl, by omega, Lib.hid (by simp), HO1, HS1, HG1⟩
  case round =>
    obtain ⟨k, ln, c, A, us, xss, rfl, rfl, hk, HP, HO, HS, HG⟩ := hrel
    by_cases h0 : 0 < k
    · have hki : (0 : Int) < (k : Int) := by omega
      go_wp2_with fail
      refine (drawWay_any g hi _ n _ HS.out (by omega) hn1 hn6).mono ?_
      rintro e w2 ⟨A2, c2, xs, hxs, rfl, ho2, hs2, hg2⟩
      have HX2 := Lib.hid hxs
      have HSZ := Lib.hid (HG.out.trans hg2).size
      have HU := Lib.hid (OwI.mono ho2 HG.out.size)
      have HS2 := Lib.hid hs2; have HG2 := Lib.hid (HG.out.trans hg2); have HO2 := Lib.hid (HO.out.gr1 hg2 hgw)
      clear hs2 hg2 ho2 hxs
      go_wp2_with (first | (at_builtin; refine wpList_app w2 rfl (.tmp 14) (.tmp 18) 32 rfl w.heap.size 31 (.slice none 0 0) 1 24 Try.underlying32 infoRw rfl (by omega) (.slice A ln c) ln us rfl HO2.out.outer #[.slice A2 xs.length c2] 31 1 rfl rfl (by intro v hv; simp at hv; subst hv; rfl) (by omega) (by omega) HSZ.out ?_; intro A5 c5 w5 ho5 hg5 hsz5 hor5; have HO5 := Lib.hid (HO2.out.snoc HU.out ho5 hg5); have HS5 := Lib.hid (HS2.out.row hg5 HO2.out.outer hhw); have HG5 := Lib.hid (HG2.out.bl (below_own (Below.refl w.heap.size _) HO2.out.outer hg5 HSZ.out (Nat.le_refl _)) (Nat.le_refl _)); clear ho5 hg5 hsz5 hor5) | fail)
      go_roundw
      case rel => exact ⟨k - 1, ln + 1, c5, A5, _, _, rfl, dec_num h0, by omega, Lib.hid (mem_snoc HP.out HX2.out), HO5, Lib.hid (HS5.out.mono (by omega)), HG5⟩
      case measure => simp [intOf]; omega
    · obtain rfl : k = 0 := by omega
      go_wp2
      go_ret
      have hl := HO.out.len
      exact ⟨A, ln, c, us, xss, ⟨by omega, HP.out⟩, rfl, HO.out, HS.out.mono (by omega), HG.out⟩

/-- valid halls and ways are drawn -/
def HallsPost (w : World) (e : Ending) (w' : World) : Prop :=
  ∃ (v u : Value) (halls : List Int) (ways : List (List Int)), travOk halls ways = true ∧ (∃ A c, v = .slice A halls.length c) ∧ (∃ B d, u = .slice B ways.length d) ∧ e = .returned (.tuple #[v, u]) ∧ SlI w' v halls ∧ SlII w' u ways ∧ Below w.heap.size w w'
theorem travOk_mk {halls : List Int} {ways : List (List Int)} (h1 : 1 ≤ halls.length) (h4 : halls.length ≤ 4) (h3 : ∀ x ∈ halls, 1 ≤ x ∧ x ≤ 3) (hw : ways.length ≤ 4) (hk : ∀ xs ∈ ways, wayOk halls.length xs = true) : travOk halls ways = true := by
  unfold travOk
  have e1 : inB ((halls.length : Int) - 1) 0 5 = true := inB_iff.2 (by omega)
  have e2 : outB halls 1 3 = false := outB_false.2 h3
  rw [e1, e2, decide_eq_true hw]
  have e3 : ways.all (wayOk halls.length) = true := List.all_eq_true.2 hk
  rw [e3]; rfl
theorem a2Halls_any (v : Value) (bs : List Int) (w : World) (hv : SlB w v bs) (hl : bs.length ≤ 1048576) : Calls Try.prog 22 #[v] w (HallsPost w) := by
  have HV := Lib.hid hv
  clear hv
  go_enter Try.func22, Try.ntmps22
  go_wp2_with fail
  refine (from_any v bs _ HV.out hl).mono ?_
  rintro e w1 ⟨rfl, hs1, hb1⟩
  have HS1 := Lib.hid hs1; have HB1 := Lib.hid hb1
  clear hs1 hb1
  go_wp2_with fail
  refine (drawHalls_any _ _ _ _ HS1.out (by omega)).mono ?_
  rintro e w2 ⟨A2, c2, halls, ⟨h1, h4, hh⟩, rfl, ho2, hs2, hg2⟩
  have HS2 := Lib.hid hs2; have HG2 := Lib.hid hg2; have HO2 := Lib.hid ho2; have HH := Lib.hid hh
  have HLO := Lib.hid HS1.out
  clear hs2 hg2 ho2 hh
  go_wp2_with fail
  refine (drawP_any _ _ _ halls.length _ HS2.out (by omega) h1 (by omega)).mono ?_
  rintro e w3 ⟨A3, n3, c3, us, ways, ⟨hw4, hwk⟩, rfl, ho3, hs3, hg3⟩
  have hgl : w.heap.size < w1.heap.size := Nat.lt_of_lt_of_le HLO.out.gh HLO.out.hw
  have HO3 : Hid (SlI w3 (.slice A2 halls.length c2) halls) := Lib.hid (Ow.sl (Ow.gr1 HO2.out hg3 hgl))
  have HW3 : Hid (SlII w3 (.slice A3 n3 c3) ways) := Lib.hid ho3.sl
  have HB3 : Hid (Below w.heap.size w w3) := Lib.hid (GrS.belowNew (HG2.out.trans hg3) (Nat.le_refl _) HB1.out)
  have HL3 := Lib.hid ho3.len
  have HWK := Lib.hid hwk
  clear ho3 hs3 hg3 hwk
  go_wp2
  go_ret2
  exact ⟨.slice A2 halls.length c2, .slice A3 n3 c3, halls, ways, travOk_mk h1 h4 HH.out hw4 HWK.out, ⟨A2, c2, rfl⟩, ⟨A3, c3, by rw [HL3.out]⟩, rfl, HO3.out, HW3.out, HB3.out⟩
end Go.Proofs.Ytegabdhmfemgkaa
