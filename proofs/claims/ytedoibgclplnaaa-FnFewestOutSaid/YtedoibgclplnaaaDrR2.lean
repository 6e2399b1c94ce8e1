/-
The reference's draw of guests, by its contract: what is drawn is valid. Condition: a source, drawn rooms.
-/
import Derived.Test.YtedoibgclplnaaaDrR
namespace Go.Proofs.Ytedoibgclplnaaa
open Go.RowKit
set_option linter.unusedVariables false
set_option linter.unusedSimpArgs false

/-- guests that may be in the rooms -/
def GOk (rooms : List Int) (ts : List Guest) : Bool := ts.all (Guest.fits (lastR rooms)) && nonnegB (freeK rooms ts ts.length)
theorem gOk_nil {rooms : List Int} (h : ∀ x ∈ rooms, 1 ≤ x ∧ x ≤ 2) : GOk rooms [] = true := by
  simp only [GOk, List.all_nil, Bool.true_and, freeK, List.length_nil, List.take_nil, List.foldl_nil]
  exact nonnegB_iff.2 fun x hx => by have := h x hx; omega
/-- guests were drawn -/
def ChoG (rooms : List Int) (g hi m : Nat) (w : World) (e : Ending) (w' : World) : Prop :=
  ∃ (A : Option Addr) (n c : Nat) (ts : List Guest), (n ≤ 6 ∧ GOk rooms ts = true) ∧ e = .returned (.slice A n c) ∧ ts.length = n ∧ Ow w' w.heap.size 34 2 (.slice A n c) n (ts.flatMap Guest.vals) ∧ Src w' g hi m ∧ Gr1 g w w'
set_option maxRecDepth 100000 in
set_option maxHeartbeats 8000000 in
theorem drawG_any (g hi m lo n0 c0 : Nat) (A0 : Option Addr) (rooms : List Int) (w : World) (h : Src w g hi m) (hm : m ≤ 1000000) (hr : OwI w lo (.slice A0 n0 c0) rooms) (hn0 : rooms.length = n0) (hgl : g < lo) (hr2 : ∀ x ∈ rooms, 1 ≤ x ∧ x ≤ 2) (h14 : 1 ≤ n0 ∧ n0 ≤ 4) :
    Calls Try.prog 46 #[.pointer (some ⟨g, 0, none⟩), .slice A0 n0 c0, .int .i64 6] w (ChoG rooms g hi (m + 70) w) := by
  have hgw : g < w.heap.size := Nat.lt_of_lt_of_le h.gh h.hw
  have hhw := h.hw
  obtain ⟨h1, h4⟩ := h14
  have HN0 := Lib.hid hn0
  have HROW := Lib.hid (fun (W : World) (hW : Gr1 g w W) => (Ow.gr1 hr hW hgl : OwI W lo (.slice A0 n0 c0) rooms).sl)
  have HR4 : Hid (∀ x ∈ rooms, 1 ≤ x ∧ x ≤ 4) := Lib.hid fun x hx => by have := hr2 x hx; omega
  have HG0K := Lib.hid (gOk_nil hr2)
  have hb0 := below_alloc w (.cells #[] 34)
  have HS0 := Lib.hid (h.ex hb0)
  have HO0 := Lib.hid (ow_empty w w.heap.size 34 2 (Nat.le_refl _))
  have HG0 : Hid (Gr1 g w _) := Lib.hid (GrS.ofBelow (R := fun k => k = g) hb0)
  clear h hb0 hr hr2 hn0
  go_enter Try.func46, Try.ntmps46
  go_wp2_with fail
  refine (pick_pos g hi m 7 _ HS0.out (by omega) (by omega)).mono ?_
  rintro e w1 ⟨x, ⟨hx0, hx1⟩, rfl, hs1, hg1⟩
  obtain ⟨n, rfl⟩ := Int.eq_ofNat_of_zero_le hx0
  have HS1 := Lib.hid hs1; have HG1 := Lib.hid (HG0.out.trans hg1); have HO1 := Lib.hid (HO0.out.gr1 hg1 hgw)
  clear hs1 hg1 hx0
  go_wp2
  go_loopw [7, 8] (fun v7 v8 wr => ∃ (k ln c : Nat) (A : Option Addr) (ts : List Guest), v7 = .slice A ln c ∧ v8 = .int .i64 k ∧ k + ln ≤ 6 ∧ Hid (GOk rooms ts = true) ∧ Hid (ts.length = ln) ∧ Hid (Ow wr w.heap.size 34 2 (.slice A ln c) ln (ts.flatMap Guest.vals)) ∧ Hid (Src wr g hi (m + 50 - 8 * k)) ∧ Hid (Gr1 g w wr)) (fun _ v8 _ => (intOf v8).toNat)
  case atStart => exact ⟨n, 0, 0, _, [], rfl, rfl, by omega, HG0K, Lib.hid rfl, HO1, Lib.hid (HS1.out.mono (by omega)), HG1⟩
  case round =>
    obtain ⟨k, ln, c, A, ts, rfl, rfl, hk, HP, HTL, HO, HS, HG⟩ := hrel
    clear HO1 HS1 HG1 HO0 HS0 HG0
    by_cases h0 : 0 < k
    · have hki : (0 : Int) < (k : Int) := by omega
      go_wp2_with fail
      refine (pick_pos g hi _ ((n0 : Int) + 1) _ HS.out (by omega) (by omega)).mono ?_
      rintro e w2 ⟨a, ⟨ha0, ha1⟩, rfl, hs2, hg2⟩
      have hba := below_alloc w2 (.cells #[.int .i64 (a - 1), .int .i64 0] 34)
      have HS2 := Lib.hid (hs2.ex hba)
      have HG2 := Lib.hid ((HG.out.trans hg2).bl hba (HG.out.trans hg2).size)
      have HBX2 := Lib.hid (Ow.lay w2 (lo := w.heap.size) (sz := 2) 34 #[.int .i64 (a - 1), .int .i64 0] 1 (HG.out.trans hg2).size (by omega) rfl)
      have HO2 := Lib.hid ((HO.out.gr1 hg2 hgw).ex hba)
      have HSP : Hid (Sep (.slice A ln c) (.slice (some ⟨w2.heap.size, 0, none⟩) 1 1)) := Lib.hid (Ow.sep_new (HO.out.gr1 hg2 hgw) (Ow.lay w2 (lo := w2.heap.size) (sz := 2) 34 #[.int .i64 (a - 1), .int .i64 0] 1 (Nat.le_refl _) (by omega) rfl) (Nat.le_refl _))
      clear hs2 hg2 hba
      go_wp2_with fail
      refine (pick_pos g hi _ ((n0 : Int) + 1) _ HS2.out (by omega) (by omega)).mono ?_
      rintro e w3 ⟨q, ⟨hq0, hq1⟩, rfl, hs3, hg3⟩
      have HBX3 := Lib.hid (HBX2.out.gr1 hg3 hgw)
      have HO3 := Lib.hid (HO2.out.gr1 hg3 hgw)
      have HG3 := Lib.hid (HG2.out.trans hg3)
      have hc1 := Ow.cell HBX3.out (k := 1) (by simp)
      have hf1 := Ow.free HBX3.out 1
      simp only [List.getElem_cons_zero, List.getElem_cons_succ] at hc1
      have hgr := Ow.grow (k := 1) HBX3.out (.int .i64 (q - 1))
      have HBX4 : Hid (Ow (w3.setCell ⟨w2.heap.size, 1, none⟩ (.int .i64 (q - 1))) w.heap.size 34 2 (.slice (some ⟨w2.heap.size, 0, none⟩) 1 1) 1 [.int .i64 (a - 1), .int .i64 (q - 1)]) := Lib.hid (Ow.set HBX3.out 1 (.int .i64 (q - 1)))
      have HO4 := Lib.hid (HO3.out.keptS (u := .slice (some ⟨w2.heap.size, 0, none⟩) 1 1) hgr HSP.out)
      have HS4 := Lib.hid (hs3.row (v := .slice (some ⟨w2.heap.size, 0, none⟩) 1 1) hgr HBX3.out hhw)
      have HG4 := Lib.hid (HG3.out.bl (below_own (Below.refl w.heap.size w3) HBX3.out hgr HG3.out.size (Nat.le_refl _)) (Nat.le_refl _))
      clear hs3 hg3 hgr HBX2 HO2 HS2 HG2 HO HS HG
      have hk4 := Ow.cell HBX4.out (k := 1) (by simp)
      simp only [List.getElem_cons_zero, List.getElem_cons_succ] at hk4
      by_cases hq : q = 0
      · have hq3 : (q - 1 == -1) = true := by simp; omega
        clear hq
        go_wp2_with fail
        refine (one_any g hi _ 2 _ HS4.out (by omega)).mono ?_
        rintro e w5 ⟨b, rfl, hs5, hg5⟩
        have HBX5 := Lib.hid (HBX4.out.gr1 hg5 hgw); have HO5 := Lib.hid (HO4.out.gr1 hg5 hgw); have HS5 := Lib.hid hs5; have HG5 := Lib.hid (HG4.out.trans hg5)
        clear hs5 hg5 hk4 HBX4 HO4 HS4 HG4 HBX3 HO3 HG3 hc1 hf1
        cases b with
        | false =>
          go_wp2
          refine wp_gen (fun W9 hW9 => ?_)
          obtain ⟨HB9, HO9, HS9, HG9⟩ : Hid (Ow W9 w.heap.size 34 2 (.slice (some ⟨w2.heap.size, 0, none⟩) 1 1) 1 [Value.int .i64 (a - 1), .int .i64 (q - 1)]) ∧ Hid (Ow W9 w.heap.size 34 2 (.slice A ln c) ln (ts.flatMap Guest.vals)) ∧ Hid (Src W9 g hi (m + 50 - 8 * (k - 1))) ∧ Hid (Gr1 g w W9) := by
            rw [hW9]; exact ⟨HBX5, HO5, Lib.hid (HS5.out.mono (by omega)), HG5⟩
          clear hW9 HBX5 HO5 HS5 HG5 HSP
          obtain ⟨fb, HFB⟩ : ∃ fb, Hid (GOk rooms (ts ++ [(⟨(a - 1), (q - 1)⟩ : Guest)]) = fb) := ⟨_, Lib.hid rfl⟩
          have HLE : Hid (rooms.length ≤ 1048576 ∧ (ts ++ [(⟨(a - 1), (q - 1)⟩ : Guest)]).length ≤ 1048576) := Lib.hid ⟨by have := HN0.out; omega, by simp [HTL.out]; omega⟩
          have HFR : Hid (∀ (W : World) (u : Value), SlI W (.slice A0 n0 c0) rooms → SlGuest W u (ts ++ [(⟨(a - 1), (q - 1)⟩ : Guest)]) → Calls Try.prog 55 #[.slice A0 n0 c0, u] W fun e w' => ∃ A m c, e = .returned (.tuple #[.slice A m c, .bool fb]) ∧ Below W.heap.size W w') := Lib.hid fun W u ha hb =>
            (l10Free_any _ u rooms (ts ++ [(⟨(a - 1), (q - 1)⟩ : Guest)]) W ha hb HR4.out HLE.out.1 HLE.out.2).mono (by
              rintro e w' ⟨A, m, c, rfl, -, hb⟩
              exact ⟨A, m, c, by rw [← HFB.out]; rfl, hb⟩)
          have HSL : Hid (∀ W, Below W9.heap.size W9 W → Sl W 2 (.slice A ln c) ln (ts.flatMap Guest.vals)) := Lib.hid fun W hW => HO9.out.sl.ex hW
          have HCB : Hid (∀ W, Below W9.heap.size W9 W → W.cell? ⟨w2.heap.size, 0, none⟩ = some (.int .i64 (a - 1)) ∧ W.cell? ⟨w2.heap.size, 1, none⟩ = some (.int .i64 (q - 1))) := Lib.hid fun W hW => by
            have q0 := Ow.cell (HB9.out.ex hW) (k := 0) (by simp); have q1 := Ow.cell (HB9.out.ex hW) (k := 1) (by simp)
            exact ⟨by simpa using q0, by simpa using q1⟩
          have HRM : Hid (∀ W, Below W9.heap.size W9 W → SlI W (.slice A0 n0 c0) rooms) := Lib.hid fun W hW => HROW.out W (HG9.out.trans (GrS.ofBelow (R := fun k => k = g) hW))
          have HE1 : Hid (∀ W, Below (W9.alloc (.cells #[] 34)).heap.size (W9.alloc (.cells #[] 34)) W → Ow W W9.heap.size 34 2 (.slice (some ⟨W9.heap.size, 0, none⟩) 0 0) 0 []) := Lib.hid fun W hW => (ow_empty W9 W9.heap.size 34 2 (Nat.le_refl _)).ex hW
          have HE2 : Hid (∀ W, Below ((W9.alloc (.cells #[.int .i64 (a - 1), .int .i64 (q - 1)] 34)).alloc (.cells #[] 34)).heap.size ((W9.alloc (.cells #[.int .i64 (a - 1), .int .i64 (q - 1)] 34)).alloc (.cells #[] 34)) W → Ow W W9.heap.size 34 2 (.slice (some ⟨W9.heap.size + 1, 0, none⟩) 0 0) 0 []) := Lib.hid fun W hW => by
            have qq := (ow_empty (W9.alloc (.cells #[.int .i64 (a - 1), .int .i64 (q - 1)] 34)) W9.heap.size 34 2 (by simp)).ex hW
            have e : (W9.alloc (.cells #[.int .i64 (a - 1), .int .i64 (q - 1)] 34)).heap.size = W9.heap.size + 1 := by simp
            first | (rw [e] at qq; exact qq) | exact e ▸ qq | (simpa using qq)
          have HL1 : Hid (∀ W W', Below ((W9.alloc (.cells #[] 34)).alloc (.cells #[.int .i64 (a - 1), .int .i64 (q - 1)] 34)).heap.size ((W9.alloc (.cells #[] 34)).alloc (.cells #[.int .i64 (a - 1), .int .i64 (q - 1)] 34)) W → W.grownBy W' (Value.slice (some ⟨W9.heap.size, 0, none⟩) 0 0).ownBlock → Sl W' 2 (.slice (some ⟨W9.heap.size + 1, 0, none⟩) 1 1) 1 [Value.int .i64 (a - 1), .int .i64 (q - 1)]) := Lib.hid fun W W' hW hg => by
            have qq := (Ow.lay (W9.alloc (.cells #[] 34)) (lo := W9.heap.size) (sz := 2) 34 #[.int .i64 (a - 1), .int .i64 (q - 1)] 1 (by simp) (by omega) rfl).ex hW
            rw [show (W9.alloc (.cells #[] 34)).heap.size = W9.heap.size + 1 by simp] at qq
            exact (Ow.keptS qq hg (.inr (by simp [Value.ownBlock]))).sl
          have HL2 : Hid (∀ W W', Below ((W9.alloc (.cells #[.int .i64 (a - 1), .int .i64 (q - 1)] 34)).alloc (.cells #[] 34)).heap.size ((W9.alloc (.cells #[.int .i64 (a - 1), .int .i64 (q - 1)] 34)).alloc (.cells #[] 34)) W → W.grownBy W' (Value.slice (some ⟨W9.heap.size + 1, 0, none⟩) 0 0).ownBlock → Sl W' 2 (.slice (some ⟨W9.heap.size, 0, none⟩) 1 1) 1 [Value.int .i64 (a - 1), .int .i64 (q - 1)]) := Lib.hid fun W W' hW hg => by
            have qq := ((Ow.lay W9 (lo := W9.heap.size) (sz := 2) 34 #[.int .i64 (a - 1), .int .i64 (q - 1)] 1 (Nat.le_refl _) (by omega) rfl).ex (below_alloc _ (.cells #[] 34))).ex hW
            exact (Ow.keptS qq hg (.inr (by simp [Value.ownBlock]))).sl
          have hln : ln ≤ 6 := by omega
          go_region_held3 (fun w' => w'.cell? ⟨w2.heap.size, 0, none⟩ = some (.int .i64 (a - 1)) ∧ w'.cell? ⟨w2.heap.size, 1, none⟩ = some (.int .i64 (q - 1))) (first | exact HCB.out _ HBF.out | exact HCB.out _ HB54.out | exact HCB.out _ HB51.out | exact HCB.out _ (by ((repeat' (first | exact Below.refl _ _ | exact HB51.out | apply Below.drew | refine Below.alloc ?_ (by first | omega | (simp; done) | (simp; omega) | (have h9 := HB51.out.size; simp; omega)) _)) <;> fail))) (first | (refine step_cat0 W9 _ (by rfl) _ _ _ (by rfl) W9.heap.size 34 (.agg #[.int .i64 0, .int .i64 0]) 2 16 Try.underlying25 infoGuest rfl (by omega) _ (by rfl) (by first | (refine HE1.out _ ?_; ((repeat' (first | exact Below.refl _ _ | exact HB51.out | apply Below.drew | refine Below.alloc ?_ (by first | omega | (simp; done) | (simp; omega) | (have h9 := HB51.out.size; simp; omega)) _)) <;> fail)) | (refine HE2.out _ ?_; ((repeat' (first | exact Below.refl _ _ | exact HB51.out | apply Below.drew | refine Below.alloc ?_ (by first | omega | (simp; done) | (simp; omega) | (have h9 := HB51.out.size; simp; omega)) _)) <;> fail))) (.slice A ln c) ln _ (by rfl) (HSL.out _ (by ((repeat' (first | exact Below.refl _ _ | exact HB51.out | apply Below.drew | refine Below.alloc ?_ (by first | omega | (simp; done) | (simp; omega) | (have h9 := HB51.out.size; simp; omega)) _)) <;> fail))) guest_one (by omega) (by omega) (by first | (simp; done) | (simp; omega) | (have h9 := HB51.out.size; simp; omega) | (have h9 := HB51.out.size; omega)) (by ((repeat' (first | exact Below.refl _ _ | exact HB51.out | apply Below.drew | refine Below.alloc ?_ (by first | omega | (simp; done) | (simp; omega) | (have h9 := HB51.out.size; simp; omega)) _)) <;> fail)) ?_; intro A51 c51 w51 ho51 hg51 hb51; have HO51 := Lib.hid ho51; have HB51 := Lib.hid hb51; first | (refine (fun (HL51 : Hid (Sl w51 2 (.slice (some ⟨W9.heap.size + 1, 0, none⟩) 1 1) 1 [Value.int .i64 (a - 1), .int .i64 (q - 1)])) => ?_) ?_; rotate_left; (focus (refine Lib.hid (HL1.out _ w51 ?_ hg51); ((repeat' (first | exact Below.refl _ _ | exact HB51.out | apply Below.drew | refine Below.alloc ?_ (by first | omega | (simp; done) | (simp; omega) | (have h9 := HB51.out.size; simp; omega)) _)) <;> fail)))) | (refine (fun (HL51 : Hid (Sl w51 2 (.slice (some ⟨W9.heap.size, 0, none⟩) 1 1) 1 [Value.int .i64 (a - 1), .int .i64 (q - 1)])) => ?_) ?_; rotate_left; (focus (refine Lib.hid (HL2.out _ w51 ?_ hg51); ((repeat' (first | exact Below.refl _ _ | exact HB51.out | apply Below.drew | refine Below.alloc ?_ (by first | omega | (simp; done) | (simp; omega) | (have h9 := HB51.out.size; simp; omega)) _)) <;> fail)))) | skip; clear ho51 hb51 hg51) | (refine step_cat W9 _ (by rfl) _ _ _ (by rfl) W9.heap.size 34 (.agg #[.int .i64 0, .int .i64 0]) 2 16 Try.underlying25 infoGuest rfl (by omega) (.slice A51 ln c51) ln (ts.flatMap Guest.vals) (by rfl) (by first | exact HO51.out | exact HO51.out.ex (below_alloc _ _)) _ 1 [Value.int .i64 (a - 1), .int .i64 (q - 1)] (by rfl) (by first | exact HL51.out | exact (Ow.lay w51 (lo := W9.heap.size) (sz := 2) 34 #[.int .i64 (a - 1), .int .i64 (q - 1)] 1 HB51.out.size (by omega) rfl).sl) (by intro v hv; simp at hv; rcases hv with rfl | rfl <;> rfl) (by omega) (by omega) (by first | (simp; done) | (simp; omega) | (have h9 := HB51.out.size; simp; omega) | (have h9 := HB51.out.size; omega)) (by ((repeat' (first | exact Below.refl _ _ | exact HB51.out | apply Below.drew | refine Below.alloc ?_ (by first | omega | (simp; done) | (simp; omega) | (have h9 := HB51.out.size; simp; omega)) _)) <;> fail)) ?_; intro A54 c54 w54 ho54 hg54 hb54; have HB54 := Lib.hid hb54; have HG54 : Hid (SlGuest w54 (.slice A54 (ln + 1) c54) (ts ++ [(⟨(a - 1), (q - 1)⟩ : Guest)])) := Lib.hid (by unfold SlGuest; rw [show (ts ++ [(⟨(a - 1), (q - 1)⟩ : Guest)]).length = ln + 1 by simp [HTL.out], List.flatMap_append]; exact ho54.sl); clear ho54 hg54 hb54) | (go_at_call 55; refine (HFR.out _ _ (HRM.out _ HB54.out) HG54.out).mono ?_; rintro eF wF ⟨AF, mF, cF, rfl, hbF⟩; have HBF := Lib.hid (below_next0 HB54.out hbF); clear hbF))
          all_goals
            have hcF := HCB.out _ HBF.out
            obtain ⟨hcF0, hcF1⟩ := hcF
            have HOF := Lib.hid (HO9.out.ex HBF.out); have HSF := Lib.hid (HS9.out.ex HBF.out); have HGF := Lib.hid (HG9.out.bl HBF.out HG9.out.size)
            have HSZ := Lib.hid HGF.out.size
            clear HBF HG54 HB54 HO51 HB51 HRM HCB HSL HE1 HE2 HL1 HL2 HFR HB9 HO9 HS9 HG9
            cases fb with
            | true =>
              go_wp2_with (first | (at_builtin; refine wpList_app wF rfl (.tmp 59) (.tmp 61) 25 rfl w.heap.size 34 (.agg #[.int .i64 0, .int .i64 0]) 2 16 Try.underlying25 infoGuest rfl (by omega) (.slice A ln c) ln _ rfl HOF.out #[.int .i64 (a - 1), .int .i64 (q - 1)] 34 1 rfl rfl (by intro v hv; simp at hv; rcases hv with rfl | rfl <;> rfl) (by omega) (by omega) HSZ.out ?_; intro A7 c7 w7 ho7 hg7 hsz7 hor7; have HO7 : Hid (Ow w7 w.heap.size 34 2 (.slice A7 (ln + 1) c7) (ln + 1) ((ts ++ [(⟨(a - 1), (q - 1)⟩ : Guest)]).flatMap Guest.vals)) := Lib.hid (by rw [List.flatMap_append]; exact ho7); have HS7 := Lib.hid (HSF.out.row hg7 HOF.out hhw); have HG7 := Lib.hid (HGF.out.bl (below_own (Below.refl w.heap.size wF) HOF.out hg7 HSZ.out (Nat.le_refl _)) (Nat.le_refl _)); clear ho7 hg7 hsz7 hor7) | fail)
              go_roundw
              case rel => exact ⟨k - 1, ln + 1, c7, A7, _, rfl, dec_num h0, by omega, HFB, Lib.hid (by simp [HTL.out]), HO7, HS7, HG7⟩
              case measure => simp [intOf]; omega
            | false =>
              go_wp2
              go_roundw
              case rel => exact ⟨k - 1, ln, c, A, ts, rfl, dec_num h0, by omega, HP, HTL, HOF, HSF, HGF⟩
              case measure => simp [intOf]; omega
        | true =>
          go_wp2_with fail
          refine (pick_pos g hi _ (n0 : Int) _ HS5.out (by omega) (by omega)).mono ?_
          rintro e w6 ⟨y, ⟨hy0, hy1⟩, rfl, hs6, hg6⟩
          have HBX6 := Lib.hid (HBX5.out.gr1 hg6 hgw)
          have HO6 := Lib.hid (HO5.out.gr1 hg6 hgw)
          have HG6 := Lib.hid (HG5.out.trans hg6)
          have hc1 := Ow.cell HBX6.out (k := 1) (by simp)
          have hf1 := Ow.free HBX6.out 1
          simp only [List.getElem_cons_zero, List.getElem_cons_succ] at hc1
          have hgr := Ow.grow (k := 1) HBX6.out (.int .i64 y)
          have HBX7 : Hid (Ow (w6.setCell ⟨w2.heap.size, 1, none⟩ (.int .i64 y)) w.heap.size 34 2 (.slice (some ⟨w2.heap.size, 0, none⟩) 1 1) 1 [.int .i64 (a - 1), .int .i64 y]) := Lib.hid (Ow.set HBX6.out 1 (.int .i64 y))
          have HO7 := Lib.hid (HO6.out.keptS (u := .slice (some ⟨w2.heap.size, 0, none⟩) 1 1) hgr HSP.out)
          have HS7 := Lib.hid (hs6.row (v := .slice (some ⟨w2.heap.size, 0, none⟩) 1 1) hgr HBX6.out hhw)
          have HG7 := Lib.hid (HG6.out.bl (below_own (Below.refl w.heap.size w6) HBX6.out hgr HG6.out.size (Nat.le_refl _)) (Nat.le_refl _))
          clear hs6 hg6 hgr HBX5 HO5 HS5 HG5 HBX6 HO6 HG6
          go_wp2
          refine wp_gen (fun W9 hW9 => ?_)
          obtain ⟨HB9, HO9, HS9, HG9⟩ : Hid (Ow W9 w.heap.size 34 2 (.slice (some ⟨w2.heap.size, 0, none⟩) 1 1) 1 [Value.int .i64 (a - 1), .int .i64 y]) ∧ Hid (Ow W9 w.heap.size 34 2 (.slice A ln c) ln (ts.flatMap Guest.vals)) ∧ Hid (Src W9 g hi (m + 50 - 8 * (k - 1))) ∧ Hid (Gr1 g w W9) := by
            rw [hW9]; exact ⟨HBX7, HO7, Lib.hid (HS7.out.mono (by omega)), HG7⟩
          clear hW9 HBX7 HO7 HS7 HG7 HSP
          obtain ⟨fb, HFB⟩ : ∃ fb, Hid (GOk rooms (ts ++ [(⟨(a - 1), y⟩ : Guest)]) = fb) := ⟨_, Lib.hid rfl⟩
          have HLE : Hid (rooms.length ≤ 1048576 ∧ (ts ++ [(⟨(a - 1), y⟩ : Guest)]).length ≤ 1048576) := Lib.hid ⟨by have := HN0.out; omega, by simp [HTL.out]; omega⟩
          have HFR : Hid (∀ (W : World) (u : Value), SlI W (.slice A0 n0 c0) rooms → SlGuest W u (ts ++ [(⟨(a - 1), y⟩ : Guest)]) → Calls Try.prog 55 #[.slice A0 n0 c0, u] W fun e w' => ∃ A m c, e = .returned (.tuple #[.slice A m c, .bool fb]) ∧ Below W.heap.size W w') := Lib.hid fun W u ha hb =>
            (l10Free_any _ u rooms (ts ++ [(⟨(a - 1), y⟩ : Guest)]) W ha hb HR4.out HLE.out.1 HLE.out.2).mono (by
              rintro e w' ⟨A, m, c, rfl, -, hb⟩
              exact ⟨A, m, c, by rw [← HFB.out]; rfl, hb⟩)
          have HSL : Hid (∀ W, Below W9.heap.size W9 W → Sl W 2 (.slice A ln c) ln (ts.flatMap Guest.vals)) := Lib.hid fun W hW => HO9.out.sl.ex hW
          have HCB : Hid (∀ W, Below W9.heap.size W9 W → W.cell? ⟨w2.heap.size, 0, none⟩ = some (.int .i64 (a - 1)) ∧ W.cell? ⟨w2.heap.size, 1, none⟩ = some (.int .i64 y)) := Lib.hid fun W hW => by
            have q0 := Ow.cell (HB9.out.ex hW) (k := 0) (by simp); have q1 := Ow.cell (HB9.out.ex hW) (k := 1) (by simp)
            exact ⟨by simpa using q0, by simpa using q1⟩
          have HRM : Hid (∀ W, Below W9.heap.size W9 W → SlI W (.slice A0 n0 c0) rooms) := Lib.hid fun W hW => HROW.out W (HG9.out.trans (GrS.ofBelow (R := fun k => k = g) hW))
          have HE1 : Hid (∀ W, Below (W9.alloc (.cells #[] 34)).heap.size (W9.alloc (.cells #[] 34)) W → Ow W W9.heap.size 34 2 (.slice (some ⟨W9.heap.size, 0, none⟩) 0 0) 0 []) := Lib.hid fun W hW => (ow_empty W9 W9.heap.size 34 2 (Nat.le_refl _)).ex hW
          have HE2 : Hid (∀ W, Below ((W9.alloc (.cells #[.int .i64 (a - 1), .int .i64 y] 34)).alloc (.cells #[] 34)).heap.size ((W9.alloc (.cells #[.int .i64 (a - 1), .int .i64 y] 34)).alloc (.cells #[] 34)) W → Ow W W9.heap.size 34 2 (.slice (some ⟨W9.heap.size + 1, 0, none⟩) 0 0) 0 []) := Lib.hid fun W hW => by
            have qq := (ow_empty (W9.alloc (.cells #[.int .i64 (a - 1), .int .i64 y] 34)) W9.heap.size 34 2 (by simp)).ex hW
            have e : (W9.alloc (.cells #[.int .i64 (a - 1), .int .i64 y] 34)).heap.size = W9.heap.size + 1 := by simp
            first | (rw [e] at qq; exact qq) | exact e ▸ qq | (simpa using qq)
          have HL1 : Hid (∀ W W', Below ((W9.alloc (.cells #[] 34)).alloc (.cells #[.int .i64 (a - 1), .int .i64 y] 34)).heap.size ((W9.alloc (.cells #[] 34)).alloc (.cells #[.int .i64 (a - 1), .int .i64 y] 34)) W → W.grownBy W' (Value.slice (some ⟨W9.heap.size, 0, none⟩) 0 0).ownBlock → Sl W' 2 (.slice (some ⟨W9.heap.size + 1, 0, none⟩) 1 1) 1 [Value.int .i64 (a - 1), .int .i64 y]) := Lib.hid fun W W' hW hg => by
            have qq := (Ow.lay (W9.alloc (.cells #[] 34)) (lo := W9.heap.size) (sz := 2) 34 #[.int .i64 (a - 1), .int .i64 y] 1 (by simp) (by omega) rfl).ex hW
            rw [show (W9.alloc (.cells #[] 34)).heap.size = W9.heap.size + 1 by simp] at qq
            exact (Ow.keptS qq hg (.inr (by simp [Value.ownBlock]))).sl
          have HL2 : Hid (∀ W W', Below ((W9.alloc (.cells #[.int .i64 (a - 1), .int .i64 y] 34)).alloc (.cells #[] 34)).heap.size ((W9.alloc (.cells #[.int .i64 (a - 1), .int .i64 y] 34)).alloc (.cells #[] 34)) W → W.grownBy W' (Value.slice (some ⟨W9.heap.size + 1, 0, none⟩) 0 0).ownBlock → Sl W' 2 (.slice (some ⟨W9.heap.size, 0, none⟩) 1 1) 1 [Value.int .i64 (a - 1), .int .i64 y]) := Lib.hid fun W W' hW hg => by
            have qq := ((Ow.lay W9 (lo := W9.heap.size) (sz := 2) 34 #[.int .i64 (a - 1), .int .i64 y] 1 (Nat.le_refl _) (by omega) rfl).ex (below_alloc _ (.cells #[] 34))).ex hW
            exact (Ow.keptS qq hg (.inr (by simp [Value.ownBlock]))).sl
          have hln : ln ≤ 6 := by omega
          go_region_held3 (fun w' => w'.cell? ⟨w2.heap.size, 0, none⟩ = some (.int .i64 (a - 1)) ∧ w'.cell? ⟨w2.heap.size, 1, none⟩ = some (.int .i64 y)) (first | exact HCB.out _ HBF.out | exact HCB.out _ HB54.out | exact HCB.out _ HB51.out | exact HCB.out _ (by ((repeat' (first | exact Below.refl _ _ | exact HB51.out | apply Below.drew | refine Below.alloc ?_ (by first | omega | (simp; done) | (simp; omega) | (have h9 := HB51.out.size; simp; omega)) _)) <;> fail))) (first | (refine step_cat0 W9 _ (by rfl) _ _ _ (by rfl) W9.heap.size 34 (.agg #[.int .i64 0, .int .i64 0]) 2 16 Try.underlying25 infoGuest rfl (by omega) _ (by rfl) (by first | (refine HE1.out _ ?_; ((repeat' (first | exact Below.refl _ _ | exact HB51.out | apply Below.drew | refine Below.alloc ?_ (by first | omega | (simp; done) | (simp; omega) | (have h9 := HB51.out.size; simp; omega)) _)) <;> fail)) | (refine HE2.out _ ?_; ((repeat' (first | exact Below.refl _ _ | exact HB51.out | apply Below.drew | refine Below.alloc ?_ (by first | omega | (simp; done) | (simp; omega) | (have h9 := HB51.out.size; simp; omega)) _)) <;> fail))) (.slice A ln c) ln _ (by rfl) (HSL.out _ (by ((repeat' (first | exact Below.refl _ _ | exact HB51.out | apply Below.drew | refine Below.alloc ?_ (by first | omega | (simp; done) | (simp; omega) | (have h9 := HB51.out.size; simp; omega)) _)) <;> fail))) guest_one (by omega) (by omega) (by first | (simp; done) | (simp; omega) | (have h9 := HB51.out.size; simp; omega) | (have h9 := HB51.out.size; omega)) (by ((repeat' (first | exact Below.refl _ _ | exact HB51.out | apply Below.drew | refine Below.alloc ?_ (by first | omega | (simp; done) | (simp; omega) | (have h9 := HB51.out.size; simp; omega)) _)) <;> fail)) ?_; intro A51 c51 w51 ho51 hg51 hb51; have HO51 := Lib.hid ho51; have HB51 := Lib.hid hb51; first | (refine (fun (HL51 : Hid (Sl w51 2 (.slice (some ⟨W9.heap.size + 1, 0, none⟩) 1 1) 1 [Value.int .i64 (a - 1), .int .i64 y])) => ?_) ?_; rotate_left; (focus (refine Lib.hid (HL1.out _ w51 ?_ hg51); ((repeat' (first | exact Below.refl _ _ | exact HB51.out | apply Below.drew | refine Below.alloc ?_ (by first | omega | (simp; done) | (simp; omega) | (have h9 := HB51.out.size; simp; omega)) _)) <;> fail)))) | (refine (fun (HL51 : Hid (Sl w51 2 (.slice (some ⟨W9.heap.size, 0, none⟩) 1 1) 1 [Value.int .i64 (a - 1), .int .i64 y])) => ?_) ?_; rotate_left; (focus (refine Lib.hid (HL2.out _ w51 ?_ hg51); ((repeat' (first | exact Below.refl _ _ | exact HB51.out | apply Below.drew | refine Below.alloc ?_ (by first | omega | (simp; done) | (simp; omega) | (have h9 := HB51.out.size; simp; omega)) _)) <;> fail)))) | skip; clear ho51 hb51 hg51) | (refine step_cat W9 _ (by rfl) _ _ _ (by rfl) W9.heap.size 34 (.agg #[.int .i64 0, .int .i64 0]) 2 16 Try.underlying25 infoGuest rfl (by omega) (.slice A51 ln c51) ln (ts.flatMap Guest.vals) (by rfl) (by first | exact HO51.out | exact HO51.out.ex (below_alloc _ _)) _ 1 [Value.int .i64 (a - 1), .int .i64 y] (by rfl) (by first | exact HL51.out | exact (Ow.lay w51 (lo := W9.heap.size) (sz := 2) 34 #[.int .i64 (a - 1), .int .i64 y] 1 HB51.out.size (by omega) rfl).sl) (by intro v hv; simp at hv; rcases hv with rfl | rfl <;> rfl) (by omega) (by omega) (by first | (simp; done) | (simp; omega) | (have h9 := HB51.out.size; simp; omega) | (have h9 := HB51.out.size; omega)) (by ((repeat' (first | exact Below.refl _ _ | exact HB51.out | apply Below.drew | refine Below.alloc ?_ (by first | omega | (simp; done) | (simp; omega) | (have h9 := HB51.out.size; simp; omega)) _)) <;> fail)) ?_; intro A54 c54 w54 ho54 hg54 hb54; have HB54 := Lib.hid hb54; have HG54 : Hid (SlGuest w54 (.slice A54 (ln + 1) c54) (ts ++ [(⟨(a - 1), y⟩ : Guest)])) := Lib.hid (by unfold SlGuest; rw [show (ts ++ [(⟨(a - 1), y⟩ : Guest)]).length = ln + 1 by simp [HTL.out], List.flatMap_append]; exact ho54.sl); clear ho54 hg54 hb54) | (go_at_call 55; refine (HFR.out _ _ (HRM.out _ HB54.out) HG54.out).mono ?_; rintro eF wF ⟨AF, mF, cF, rfl, hbF⟩; have HBF := Lib.hid (below_next0 HB54.out hbF); clear hbF))
          all_goals
            have hcF := HCB.out _ HBF.out
            obtain ⟨hcF0, hcF1⟩ := hcF
            have HOF := Lib.hid (HO9.out.ex HBF.out); have HSF := Lib.hid (HS9.out.ex HBF.out); have HGF := Lib.hid (HG9.out.bl HBF.out HG9.out.size)
            have HSZ := Lib.hid HGF.out.size
            clear HBF HG54 HB54 HO51 HB51 HRM HCB HSL HE1 HE2 HL1 HL2 HFR HB9 HO9 HS9 HG9
            cases fb with
            | true =>
              go_wp2_with (first | (at_builtin; refine wpList_app wF rfl (.tmp 59) (.tmp 61) 25 rfl w.heap.size 34 (.agg #[.int .i64 0, .int .i64 0]) 2 16 Try.underlying25 infoGuest rfl (by omega) (.slice A ln c) ln _ rfl HOF.out #[.int .i64 (a - 1), .int .i64 y] 34 1 rfl rfl (by intro v hv; simp at hv; rcases hv with rfl | rfl <;> rfl) (by omega) (by omega) HSZ.out ?_; intro A7 c7 w7 ho7 hg7 hsz7 hor7; have HO7 : Hid (Ow w7 w.heap.size 34 2 (.slice A7 (ln + 1) c7) (ln + 1) ((ts ++ [(⟨(a - 1), y⟩ : Guest)]).flatMap Guest.vals)) := Lib.hid (by rw [List.flatMap_append]; exact ho7); have HS7 := Lib.hid (HSF.out.row hg7 HOF.out hhw); have HG7 := Lib.hid (HGF.out.bl (below_own (Below.refl w.heap.size wF) HOF.out hg7 HSZ.out (Nat.le_refl _)) (Nat.le_refl _)); clear ho7 hg7 hsz7 hor7) | fail)
              go_roundw
              case rel => exact ⟨k - 1, ln + 1, c7, A7, _, rfl, dec_num h0, by omega, HFB, Lib.hid (by simp [HTL.out]), HO7, HS7, HG7⟩
              case measure => simp [intOf]; omega
            | false =>
              go_wp2
              go_roundw
              case rel => exact ⟨k - 1, ln, c, A, ts, rfl, dec_num h0, by omega, HP, HTL, HOF, HSF, HGF⟩
              case measure => simp [intOf]; omega
      · have hq3 : (q - 1 == -1) = false := by simp; omega
        clear hq
        go_wp2
        clear HBX3 HO3 HG3 hc1 hf1
        refine wp_gen (fun W9 hW9 => ?_)
        obtain ⟨HB9, HO9, HS9, HG9⟩ : Hid (Ow W9 w.heap.size 34 2 (.slice (some ⟨w2.heap.size, 0, none⟩) 1 1) 1 [Value.int .i64 (a - 1), .int .i64 (q - 1)]) ∧ Hid (Ow W9 w.heap.size 34 2 (.slice A ln c) ln (ts.flatMap Guest.vals)) ∧ Hid (Src W9 g hi (m + 50 - 8 * (k - 1))) ∧ Hid (Gr1 g w W9) := by
          rw [hW9]; exact ⟨HBX4, HO4, Lib.hid (HS4.out.mono (by omega)), HG4⟩
        clear hW9 HBX4 HO4 HS4 HG4 HSP
        obtain ⟨fb, HFB⟩ : ∃ fb, Hid (GOk rooms (ts ++ [(⟨(a - 1), (q - 1)⟩ : Guest)]) = fb) := ⟨_, Lib.hid rfl⟩
        have HLE : Hid (rooms.length ≤ 1048576 ∧ (ts ++ [(⟨(a - 1), (q - 1)⟩ : Guest)]).length ≤ 1048576) := Lib.hid ⟨by have := HN0.out; omega, by simp [HTL.out]; omega⟩
        have HFR : Hid (∀ (W : World) (u : Value), SlI W (.slice A0 n0 c0) rooms → SlGuest W u (ts ++ [(⟨(a - 1), (q - 1)⟩ : Guest)]) → Calls Try.prog 55 #[.slice A0 n0 c0, u] W fun e w' => ∃ A m c, e = .returned (.tuple #[.slice A m c, .bool fb]) ∧ Below W.heap.size W w') := Lib.hid fun W u ha hb =>
          (l10Free_any _ u rooms (ts ++ [(⟨(a - 1), (q - 1)⟩ : Guest)]) W ha hb HR4.out HLE.out.1 HLE.out.2).mono (by
            rintro e w' ⟨A, m, c, rfl, -, hb⟩
            exact ⟨A, m, c, by rw [← HFB.out]; rfl, hb⟩)
        have HSL : Hid (∀ W, Below W9.heap.size W9 W → Sl W 2 (.slice A ln c) ln (ts.flatMap Guest.vals)) := Lib.hid fun W hW => HO9.out.sl.ex hW
        have HCB : Hid (∀ W, Below W9.heap.size W9 W → W.cell? ⟨w2.heap.size, 0, none⟩ = some (.int .i64 (a - 1)) ∧ W.cell? ⟨w2.heap.size, 1, none⟩ = some (.int .i64 (q - 1))) := Lib.hid fun W hW => by
          have q0 := Ow.cell (HB9.out.ex hW) (k := 0) (by simp); have q1 := Ow.cell (HB9.out.ex hW) (k := 1) (by simp)
          exact ⟨by simpa using q0, by simpa using q1⟩
        have HRM : Hid (∀ W, Below W9.heap.size W9 W → SlI W (.slice A0 n0 c0) rooms) := Lib.hid fun W hW => HROW.out W (HG9.out.trans (GrS.ofBelow (R := fun k => k = g) hW))
        have HE1 : Hid (∀ W, Below (W9.alloc (.cells #[] 34)).heap.size (W9.alloc (.cells #[] 34)) W → Ow W W9.heap.size 34 2 (.slice (some ⟨W9.heap.size, 0, none⟩) 0 0) 0 []) := Lib.hid fun W hW => (ow_empty W9 W9.heap.size 34 2 (Nat.le_refl _)).ex hW
        have HE2 : Hid (∀ W, Below ((W9.alloc (.cells #[.int .i64 (a - 1), .int .i64 (q - 1)] 34)).alloc (.cells #[] 34)).heap.size ((W9.alloc (.cells #[.int .i64 (a - 1), .int .i64 (q - 1)] 34)).alloc (.cells #[] 34)) W → Ow W W9.heap.size 34 2 (.slice (some ⟨W9.heap.size + 1, 0, none⟩) 0 0) 0 []) := Lib.hid fun W hW => by
          have qq := (ow_empty (W9.alloc (.cells #[.int .i64 (a - 1), .int .i64 (q - 1)] 34)) W9.heap.size 34 2 (by simp)).ex hW
          have e : (W9.alloc (.cells #[.int .i64 (a - 1), .int .i64 (q - 1)] 34)).heap.size = W9.heap.size + 1 := by simp
          first | (rw [e] at qq; exact qq) | exact e ▸ qq | (simpa using qq)
        have HL1 : Hid (∀ W W', Below ((W9.alloc (.cells #[] 34)).alloc (.cells #[.int .i64 (a - 1), .int .i64 (q - 1)] 34)).heap.size ((W9.alloc (.cells #[] 34)).alloc (.cells #[.int .i64 (a - 1), .int .i64 (q - 1)] 34)) W → W.grownBy W' (Value.slice (some ⟨W9.heap.size, 0, none⟩) 0 0).ownBlock → Sl W' 2 (.slice (some ⟨W9.heap.size + 1, 0, none⟩) 1 1) 1 [Value.int .i64 (a - 1), .int .i64 (q - 1)]) := Lib.hid fun W W' hW hg => by
          have qq := (Ow.lay (W9.alloc (.cells #[] 34)) (lo := W9.heap.size) (sz := 2) 34 #[.int .i64 (a - 1), .int .i64 (q - 1)] 1 (by simp) (by omega) rfl).ex hW
          rw [show (W9.alloc (.cells #[] 34)).heap.size = W9.heap.size + 1 by simp] at qq
          exact (Ow.keptS qq hg (.inr (by simp [Value.ownBlock]))).sl
        have HL2 : Hid (∀ W W', Below ((W9.alloc (.cells #[.int .i64 (a - 1), .int .i64 (q - 1)] 34)).alloc (.cells #[] 34)).heap.size ((W9.alloc (.cells #[.int .i64 (a - 1), .int .i64 (q - 1)] 34)).alloc (.cells #[] 34)) W → W.grownBy W' (Value.slice (some ⟨W9.heap.size + 1, 0, none⟩) 0 0).ownBlock → Sl W' 2 (.slice (some ⟨W9.heap.size, 0, none⟩) 1 1) 1 [Value.int .i64 (a - 1), .int .i64 (q - 1)]) := Lib.hid fun W W' hW hg => by
          have qq := ((Ow.lay W9 (lo := W9.heap.size) (sz := 2) 34 #[.int .i64 (a - 1), .int .i64 (q - 1)] 1 (Nat.le_refl _) (by omega) rfl).ex (below_alloc _ (.cells #[] 34))).ex hW
          exact (Ow.keptS qq hg (.inr (by simp [Value.ownBlock]))).sl
        have hln : ln ≤ 6 := by omega
        go_region_held3 (fun w' => w'.cell? ⟨w2.heap.size, 0, none⟩ = some (.int .i64 (a - 1)) ∧ w'.cell? ⟨w2.heap.size, 1, none⟩ = some (.int .i64 (q - 1))) (first | exact HCB.out _ HBF.out | exact HCB.out _ HB54.out | exact HCB.out _ HB51.out | exact HCB.out _ (by ((repeat' (first | exact Below.refl _ _ | exact HB51.out | apply Below.drew | refine Below.alloc ?_ (by first | omega | (simp; done) | (simp; omega) | (have h9 := HB51.out.size; simp; omega)) _)) <;> fail))) (first | (refine step_cat0 W9 _ (by rfl) _ _ _ (by rfl) W9.heap.size 34 (.agg #[.int .i64 0, .int .i64 0]) 2 16 Try.underlying25 infoGuest rfl (by omega) _ (by rfl) (by first | (refine HE1.out _ ?_; ((repeat' (first | exact Below.refl _ _ | exact HB51.out | apply Below.drew | refine Below.alloc ?_ (by first | omega | (simp; done) | (simp; omega) | (have h9 := HB51.out.size; simp; omega)) _)) <;> fail)) | (refine HE2.out _ ?_; ((repeat' (first | exact Below.refl _ _ | exact HB51.out | apply Below.drew | refine Below.alloc ?_ (by first | omega | (simp; done) | (simp; omega) | (have h9 := HB51.out.size; simp; omega)) _)) <;> fail))) (.slice A ln c) ln _ (by rfl) (HSL.out _ (by ((repeat' (first | exact Below.refl _ _ | exact HB51.out | apply Below.drew | refine Below.alloc ?_ (by first | omega | (simp; done) | (simp; omega) | (have h9 := HB51.out.size; simp; omega)) _)) <;> fail))) guest_one (by omega) (by omega) (by first | (simp; done) | (simp; omega) | (have h9 := HB51.out.size; simp; omega) | (have h9 := HB51.out.size; omega)) (by ((repeat' (first | exact Below.refl _ _ | exact HB51.out | apply Below.drew | refine Below.alloc ?_ (by first | omega | (simp; done) | (simp; omega) | (have h9 := HB51.out.size; simp; omega)) _)) <;> fail)) ?_; intro A51 c51 w51 ho51 hg51 hb51; have HO51 := Lib.hid ho51; have HB51 := Lib.hid hb51; first | (refine (fun (HL51 : Hid (Sl w51 2 (.slice (some ⟨W9.heap.size + 1, 0, none⟩) 1 1) 1 [Value.int .i64 (a - 1), .int .i64 (q - 1)])) => ?_) ?_; rotate_left; (focus (refine Lib.hid (HL1.out _ w51 ?_ hg51); ((repeat' (first | exact Below.refl _ _ | exact HB51.out | apply Below.drew | refine Below.alloc ?_ (by first | omega | (simp; done) | (simp; omega) | (have h9 := HB51.out.size; simp; omega)) _)) <;> fail)))) | (refine (fun (HL51 : Hid (Sl w51 2 (.slice (some ⟨W9.heap.size, 0, none⟩) 1 1) 1 [Value.int .i64 (a - 1), .int .i64 (q - 1)])) => ?_) ?_; rotate_left; (focus (refine Lib.hid (HL2.out _ w51 ?_ hg51); ((repeat' (first | exact Below.refl _ _ | exact HB51.out | apply Below.drew | refine Below.alloc ?_ (by first | omega | (simp; done) | (simp; omega) | (have h9 := HB51.out.size; simp; omega)) _)) <;> fail)))) | skip; clear ho51 hb51 hg51) | (refine step_cat W9 _ (by rfl) _ _ _ (by rfl) W9.heap.size 34 (.agg #[.int .i64 0, .int .i64 0]) 2 16 Try.underlying25 infoGuest rfl (by omega) (.slice A51 ln c51) ln (ts.flatMap Guest.vals) (by rfl) (by first | exact HO51.out | exact HO51.out.ex (below_alloc _ _)) _ 1 [Value.int .i64 (a - 1), .int .i64 (q - 1)] (by rfl) (by first | exact HL51.out | exact (Ow.lay w51 (lo := W9.heap.size) (sz := 2) 34 #[.int .i64 (a - 1), .int .i64 (q - 1)] 1 HB51.out.size (by omega) rfl).sl) (by intro v hv; simp at hv; rcases hv with rfl | rfl <;> rfl) (by omega) (by omega) (by first | (simp; done) | (simp; omega) | (have h9 := HB51.out.size; simp; omega) | (have h9 := HB51.out.size; omega)) (by ((repeat' (first | exact Below.refl _ _ | exact HB51.out | apply Below.drew | refine Below.alloc ?_ (by first | omega | (simp; done) | (simp; omega) | (have h9 := HB51.out.size; simp; omega)) _)) <;> fail)) ?_; intro A54 c54 w54 ho54 hg54 hb54; have HB54 := Lib.hid hb54; have HG54 : Hid (SlGuest w54 (.slice A54 (ln + 1) c54) (ts ++ [(⟨(a - 1), (q - 1)⟩ : Guest)])) := Lib.hid (by unfold SlGuest; rw [show (ts ++ [(⟨(a - 1), (q - 1)⟩ : Guest)]).length = ln + 1 by simp [HTL.out], List.flatMap_append]; exact ho54.sl); clear ho54 hg54 hb54) | (go_at_call 55; refine (HFR.out _ _ (HRM.out _ HB54.out) HG54.out).mono ?_; rintro eF wF ⟨AF, mF, cF, rfl, hbF⟩; have HBF := Lib.hid (below_next0 HB54.out hbF); clear hbF))
        all_goals
          have hcF := HCB.out _ HBF.out
          obtain ⟨hcF0, hcF1⟩ := hcF
          have HOF := Lib.hid (HO9.out.ex HBF.out); have HSF := Lib.hid (HS9.out.ex HBF.out); have HGF := Lib.hid (HG9.out.bl HBF.out HG9.out.size)
          have HSZ := Lib.hid HGF.out.size
          clear HBF HG54 HB54 HO51 HB51 HRM HCB HSL HE1 HE2 HL1 HL2 HFR HB9 HO9 HS9 HG9
          cases fb with
          | true =>
            go_wp2_with (first | (at_builtin; refine wpList_app wF rfl (.tmp 59) (.tmp 61) 25 rfl w.heap.size 34 (.agg #[.int .i64 0, .int .i64 0]) 2 16 Try.underlying25 infoGuest rfl (by omega) (.slice A ln c) ln _ rfl HOF.out #[.int .i64 (a - 1), .int .i64 (q - 1)] 34 1 rfl rfl (by intro v hv; simp at hv; rcases hv with rfl | rfl <;> rfl) (by omega) (by omega) HSZ.out ?_; intro A7 c7 w7 ho7 hg7 hsz7 hor7; have HO7 : Hid (Ow w7 w.heap.size 34 2 (.slice A7 (ln + 1) c7) (ln + 1) ((ts ++ [(⟨(a - 1), (q - 1)⟩ : Guest)]).flatMap Guest.vals)) := Lib.hid (by rw [List.flatMap_append]; exact ho7); have HS7 := Lib.hid (HSF.out.row hg7 HOF.out hhw); have HG7 := Lib.hid (HGF.out.bl (below_own (Below.refl w.heap.size wF) HOF.out hg7 HSZ.out (Nat.le_refl _)) (Nat.le_refl _)); clear ho7 hg7 hsz7 hor7) | fail)
            go_roundw
            case rel => exact ⟨k - 1, ln + 1, c7, A7, _, rfl, dec_num h0, by omega, HFB, Lib.hid (by simp [HTL.out]), HO7, HS7, HG7⟩
            case measure => simp [intOf]; omega
          | false =>
            go_wp2
            go_roundw
            case rel => exact ⟨k - 1, ln, c, A, ts, rfl, dec_num h0, by omega, HP, HTL, HOF, HSF, HGF⟩
            case measure => simp [intOf]; omega
    · obtain rfl : k = 0 := by omega
      go_wp2
      go_ret
      exact ⟨A, ln, c, ts, ⟨by omega, HP.out⟩, rfl, HTL.out, HO.out, HS.out.mono (by omega), HG.out⟩
end Go.Proofs.Ytedoibgclplnaaa
