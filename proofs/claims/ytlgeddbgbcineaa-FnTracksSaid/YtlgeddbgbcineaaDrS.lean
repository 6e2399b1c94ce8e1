/-
The reference's draws of gaps and readings, each by its contract: what is drawn is valid. Condition: a source.
-/
import Derived.Test.YtlgeddbgbcineaaDr
import Derived.Test.YtlgeddbgbcineaaSensD
import Derived.Deep.RegionHeld3
import Derived.Test.YtlgeddbgbcineaaHeldT
namespace Go.Proofs.Ytlgeddbgbcineaa
open Go.RowKit
set_option linter.unusedVariables false
set_option linter.unusedSimpArgs false

theorem gapOk_mk {a b : Int} (h0 : 0 ≤ a) (h1 : 0 ≤ b) (h2 : a ≤ 100) (h3 : b ≤ 100) : gapOk [a, a + b] = true := by
  unfold gapOk inB; simp; omega
set_option maxHeartbeats 1000000 in
theorem drawGaps_any (g hi m : Nat) (w : World) (h : Src w g hi m) (hm : m ≤ 1000000) :
    Calls Try.prog 56 #[.pointer (some ⟨g, 0, none⟩)] w (ChoII (fun gs => gapsOk gs = true) g hi (m + 20) w) := by
  have hgw : g < w.heap.size := Nat.lt_of_lt_of_le h.gh h.hw
  have hhw := h.hw
  have hb0 := below_alloc w (.cells #[] 49)
  have HS0 := Lib.hid (h.ex hb0)
  have HO0 := Lib.hid (owRows_nil w w.heap.size (Nat.le_refl _))
  have HG0 : Hid (Gr1 g w _) := Lib.hid (GrS.ofBelow (R := fun k => k = g) hb0)
  clear h hb0
  go_enter Try.func56, Try.ntmps56
  go_wp2_with fail
  refine (pick_pos g hi m 5 _ HS0.out (by omega) (by omega)).mono ?_
  rintro e w1 ⟨x, ⟨hx0, hx1⟩, rfl, hs1, hg1⟩
  obtain ⟨n, rfl⟩ := Int.eq_ofNat_of_zero_le hx0
  have HS1 := Lib.hid hs1; have HG1 := Lib.hid (HG0.out.trans hg1); have HO1 := Lib.hid (HO0.out.gr1 hg1 hgw)
  clear hs1 hg1 hx0
  go_wp2
  go_loopw [3, 4] (fun v3 v4 wr => ∃ (k ln c : Nat) (A : Option Addr) (us : List Value) (xss : List (List Int)), v3 = .slice A ln c ∧ v4 = .int .i64 k ∧ k + ln ≤ 4 ∧ Hid (∀ x ∈ xss, gapOk x = true) ∧ Hid (OwRows wr w.heap.size (.slice A ln c) ln us xss) ∧ Hid (Src wr g hi (m + 2 + 4 * ln)) ∧ Hid (Gr1 g w wr)) (fun _ v4 _ => (intOf v4).toNat)
  case atStart => exact ⟨n, 0, 0, _, [], [], rfl, rfl, by omega, Lib.hid (by simp), HO1, HS1, HG1⟩
  case round =>
    obtain ⟨k, ln, c, A, us, xss, rfl, rfl, hk, HP, HO, HS, HG⟩ := hrel
    by_cases h0 : 0 < k
    · have hki : (0 : Int) < (k : Int) := by omega
      go_wp2_with fail
      refine (pick_pos g hi _ 8 _ HS.out (by omega) (by omega)).mono ?_
      rintro e w2 ⟨a, ⟨ha0, ha1⟩, rfl, hs2, hg2⟩
      have HS2 := Lib.hid hs2; have HG2 := Lib.hid (HG.out.trans hg2); have HO2 := Lib.hid (HO.out.gr1 hg2 hgw)
      clear hs2 hg2
      go_wp2_with fail
      refine (pick_pos g hi _ 6 _ HS2.out (by omega) (by omega)).mono ?_
      rintro e w3 ⟨b, ⟨hb0, hb1⟩, rfl, hs3, hg3⟩
      have HU := Lib.hid (Ow.lay w3 (lo := w.heap.size) (sz := 1) 2 #[.int .i64 a, .int .i64 (a + b)] 2 (HG2.out.trans hg3).size (by omega) rfl)
      have hba := below_alloc w3 (.cells #[.int .i64 a, .int .i64 (a + b)] 2)
      have HS3 := Lib.hid (hs3.ex hba); have HG3 := Lib.hid ((HG2.out.trans hg3).bl hba (HG2.out.trans hg3).size); have HO3 := Lib.hid ((HO2.out.gr1 hg3 hgw).ex hba)
      have HSZ := Lib.hid (HG2.out.trans hg3).size
      clear hs3 hg3 hba
      go_wp2_with (first | (at_builtin; refine wpList_app (w3.alloc (.cells #[.int .i64 a, .int .i64 (a + b)] 2)) rfl (.tmp 15) (.tmp 22) 22 rfl w.heap.size 49 (.slice none 0 0) 1 24 Try.underlying22 infoRw rfl (by omega) (.slice A ln c) ln us rfl HO3.out.outer #[.slice (some ⟨w3.heap.size, 0, none⟩) 2 2] 49 1 (by simp; rfl) rfl (by intro v hv; simp at hv; subst hv; rfl) (by omega) (by omega) (by have h9 := HSZ.out; simp; omega) ?_; intro A5 c5 w5 ho5 hg5 hsz5 hor5; have HO5 := Lib.hid (HO3.out.snoc (u := .slice (some ⟨w3.heap.size, 0, none⟩) 2 2) (x := [a, a + b]) HU.out ho5 hg5); have HS5 := Lib.hid (HS3.out.row hg5 HO3.out.outer hhw); have HG5 := Lib.hid (HG3.out.bl (below_own (Below.refl w.heap.size _) HO3.out.outer hg5 (by have h9 := HSZ.out; simp; omega) (Nat.le_refl _)) (Nat.le_refl _)); clear ho5 hg5 hsz5 hor5) | fail)
      go_roundw
      case rel => exact ⟨k - 1, ln + 1, c5, A5, _, _, rfl, dec_num h0, by omega, Lib.hid (mem_snoc HP.out (gapOk_mk ha0 hb0 (by omega) (by omega))), HO5, Lib.hid (HS5.out.mono (by omega)), HG5⟩
      case measure => simp [intOf]; omega
    · obtain rfl : k = 0 := by omega
      go_wp2
      go_ret
      refine ⟨A, ln, c, us, xss, ?_, rfl, HO.out, HS.out.mono (by omega), HG.out⟩
      have hl := HO.out.len
      show gapsOk xss = true
      unfold gapsOk
      rw [Bool.and_eq_true]
      exact ⟨List.all_eq_true.2 HP.out, decide_eq_true (by omega)⟩

theorem fits_mk {G : Nat} {s : Nat} {t : Int} (h1 : s ≤ G) (h2 : 0 ≤ t) (h3 : t ≤ 8000) : Reading.fits (G : Int) ⟨(s : Int), t⟩ = true ∧ (⟨(s : Int), t⟩ : Reading).tick ≤ 8000 := by
  unfold Reading.fits inB; simp; omega
theorem sep_hor1 {w : World} {lo sz n : Nat} {e : TypeId} {u v v' : Value} {ds : List Value} (h : Ow w lo e sz u n ds) (hs : Sep u v) (hor : v'.ownBlock = v.ownBlock ∨ ∀ g, v'.ownBlock = some g → w.heap.size ≤ g) : Sep u v' := by
  rcases hs with hs | hs
  · exact .inl hs
  · rcases hor with hor | hor
    · exact .inr (by rw [hor]; exact hs)
    · cases hu : u.ownBlock with
      | none => exact .inl hu
      | some j =>
        refine .inr fun hq => ?_
        rw [hu] at hq
        have h1 := hor j hq.symm
        have h2 := (h.lt j hu).2
        omega
theorem Sep.symm' {u v : Value} (h : Sep u v) : Sep v u := by
  rcases h with h | h
  · cases hv : v.ownBlock with
    | none => exact .inl hv
    | some j => exact .inr (by rw [h, hv]; simp)
  · exact .inr (Ne.symm h)
def lenV : Value → Nat
  | .slice _ n _ => n
  | _ => 0
/-- readings that were drawn -/
def ChoR (G g hi m : Nat) (w : World) (e : Ending) (w' : World) : Prop :=
  ∃ (A : Option Addr) (n c : Nat) (ts : List Reading), (n ≤ 12 ∧ ∀ x ∈ ts, Reading.fits (G : Int) x = true ∧ x.tick ≤ 8000) ∧ e = .returned (.slice A n c) ∧ ts.length = n ∧ Ow w' w.heap.size 35 2 (.slice A n c) n (ts.flatMap Reading.vals) ∧ Src w' g hi m ∧ Gr1 g w w'
set_option maxRecDepth 100000 in
set_option maxHeartbeats 4000000 in
theorem draw_any (g hi m lo n0 c0 : Nat) (A0 : Option Addr) (us : List Value) (gs : List (List Int)) (w : World) (h : Src w g hi m) (hm : m ≤ 1000000) (hr : OwRows w lo (.slice A0 n0 c0) n0 us gs) (hgl : g < lo) (hok : gapsOk gs = true) :
    Calls Try.prog 57 #[.pointer (some ⟨g, 0, none⟩), .slice A0 n0 c0] w (ChoR n0 g hi (m + 70) w) := by
  have hgw : g < w.heap.size := Nat.lt_of_lt_of_le h.gh h.hw
  have hhw := h.hw
  have hlen := hr.len
  have hn8 : n0 ≤ 7 := by unfold gapsOk at hok; rw [Bool.and_eq_true, decide_eq_true_eq] at hok; omega
  have HL0 := Lib.hid hlen
  have HROW := Lib.hid (fun (W : World) (hW : Gr1 g w W) => hr.gr1 hW hgl)
  have HOKG := Lib.hid (fun (i : Nat) (hi : i < gs.length) => gapsOk_at hok i hi)
  have hb0 := below_alloc w (.cells #[] 35)
  have HS0 := Lib.hid (h.ex hb0)
  have HO0 := Lib.hid (ow_empty w w.heap.size 35 2 (Nat.le_refl _))
  have HG0 : Hid (Gr1 g w _) := Lib.hid (GrS.ofBelow (R := fun k => k = g) hb0)
  clear h hb0 hlen hr hok
  go_enter Try.func57, Try.ntmps57
  go_wp2_with fail
  refine (pick_pos g hi m 5 _ HS0.out (by omega) (by omega)).mono ?_
  rintro e w1 ⟨x, ⟨hx0, hx1⟩, rfl, hs1, hg1⟩
  obtain ⟨n, rfl⟩ := Int.eq_ofNat_of_zero_le hx0
  have HS1 := Lib.hid hs1; have HG1 := Lib.hid (HG0.out.trans hg1); have HO1 := Lib.hid (HO0.out.gr1 hg1 hgw)
  clear hs1 hg1 hx0
  go_wp2
  go_loopw [5, 6] (fun v5 v6 wr => ∃ (k ln c : Nat) (A : Option Addr) (ts : List Reading), v5 = .slice A ln c ∧ v6 = .int .i64 k ∧ k ≤ 4 ∧ ln ≤ 12 ∧ Hid (∀ x ∈ ts, Reading.fits (n0 : Int) x = true ∧ x.tick ≤ 8000) ∧ Hid (ts.length = ln) ∧ Hid (Ow wr w.heap.size 35 2 (.slice A ln c) ln (ts.flatMap Reading.vals)) ∧ Hid (Src wr g hi (m + 18 - 4 * k + 4 * ln)) ∧ Hid (Gr1 g w wr)) (fun _ v6 _ => (intOf v6).toNat)
  case atStart => exact ⟨n, 0, 0, _, [], rfl, rfl, by omega, by omega, Lib.hid (by simp), Lib.hid rfl, HO1, Lib.hid (HS1.out.mono (by omega)), HG1⟩
  case round =>
    obtain ⟨k, ln, c, A, ts, rfl, rfl, hk, hln, HP, HTL, HO, HS, HG⟩ := hrel
    by_cases h0 : 0 < k
    · have hki : (0 : Int) < (k : Int) := by omega
      go_wp2_with fail
      refine (pick_pos g hi _ ((n0 : Int) + 1) _ HS.out (by omega) (by omega)).mono ?_
      rintro e w2 ⟨a, ⟨ha0, ha1⟩, rfl, hs2, hg2⟩
      obtain ⟨s, rfl⟩ := Int.eq_ofNat_of_zero_le ha0
      have HS2 := Lib.hid (hs2.ex (below_alloc w2 (.cells #[.int .i64 (s : Int), .int .i64 0] 35)))
      have HG2 := Lib.hid ((HG.out.trans hg2).bl (below_alloc w2 (.cells #[.int .i64 (s : Int), .int .i64 0] 35)) (HG.out.trans hg2).size)
      have HBX2 := Lib.hid (Ow.lay w2 (lo := w.heap.size) (sz := 2) 35 #[.int .i64 (s : Int), .int .i64 0] 1 (HG.out.trans hg2).size (by omega) rfl)
      have HO2 := Lib.hid ((HO.out.gr1 hg2 hgw).ex (below_alloc w2 (.cells #[.int .i64 (s : Int), .int .i64 0] 35)))
      have HSP2 : Hid (Sep (.slice A ln c) (.slice (some ⟨w2.heap.size, 0, none⟩) 1 1)) := Lib.hid (Ow.sep_new (HO.out.gr1 hg2 hgw) (Ow.lay w2 (lo := w2.heap.size) (sz := 2) 35 #[.int .i64 (s : Int), .int .i64 0] 1 (Nat.le_refl _) (by omega) rfl) (Nat.le_refl _))
      have hsz2 : w.heap.size ≤ w2.heap.size := (HG.out.trans hg2).size
      clear hs2 hg2 ha0
      go_wp2_with fail
      refine (pick_pos g hi _ 30 _ HS2.out (by omega) (by omega)).mono ?_
      rintro e w3 ⟨t, ⟨ht0, ht1⟩, rfl, hs3, hg3⟩
      have HBX3 := Lib.hid (HBX2.out.gr1 hg3 hgw)
      have HO3 := Lib.hid (HO2.out.gr1 hg3 hgw)
      have HG3 := Lib.hid (HG2.out.trans hg3)
      have hc1 := Ow.cell HBX3.out (k := 1) (by simp)
      have hf1 := Ow.free HBX3.out 1
      simp only [List.getElem_cons_zero, List.getElem_cons_succ] at hc1
      have hgr := Ow.grow (k := 1) HBX3.out (.int .i64 t)
      have HBX4 : Hid (Ow (w3.setCell ⟨w2.heap.size, 1, none⟩ (.int .i64 t)) w.heap.size 35 2 (.slice (some ⟨w2.heap.size, 0, none⟩) 1 1) 1 [.int .i64 (s : Int), .int .i64 t]) := Lib.hid (Ow.set HBX3.out 1 (.int .i64 t))
      have HO4 := Lib.hid (HO3.out.keptS (u := .slice (some ⟨w2.heap.size, 0, none⟩) 1 1) hgr HSP2.out)
      have HS4 := Lib.hid (hs3.row (v := .slice (some ⟨w2.heap.size, 0, none⟩) 1 1) hgr HBX3.out hhw)
      have HG4 := Lib.hid (HG3.out.bl (below_own (Below.refl w.heap.size w3) HBX3.out hgr HG3.out.size (Nat.le_refl _)) (Nat.le_refl _))
      clear hs3 hg3 hgr
      go_wp2
      go_loopw [5] (fun v5 wr => ∃ (ln c s : Nat) (A : Option Addr) (ts : List Reading) (t : Int), v5 = .slice A ln c ∧ ln ≤ 12 ∧ s ≤ n0 ∧ 0 ≤ t ∧ t ≤ 30 + 1000 * (s : Int) ∧ Hid (∀ x ∈ ts, Reading.fits (n0 : Int) x = true ∧ x.tick ≤ 8000) ∧ Hid (ts.length = ln) ∧ Hid (Ow wr w.heap.size 35 2 (.slice A ln c) ln (ts.flatMap Reading.vals)) ∧
        Hid (Ow wr w.heap.size 35 2 (.slice (some ⟨w2.heap.size, 0, none⟩) 1 1) 1 [.int .i64 (s : Int), .int .i64 t]) ∧ Hid (Sep (.slice A ln c) (.slice (some ⟨w2.heap.size, 0, none⟩) 1 1)) ∧ Hid (Src wr g hi (m + 22 - 4 * k + 4 * ln)) ∧ Hid (Gr1 g w wr)) (fun v5 _ => 12 - lenV v5)
      case atStart => exact ⟨ln, c, s, A, ts, t, rfl, hln, by omega, ht0, by omega, HP, HTL, HO4, HBX4, HSP2, Lib.hid (HS4.out.mono (by omega)), HG4⟩
      case round =>
        clear HP HTL HO HS HG HS2 HG2 HBX2 HO2 HSP2 HBX3 HO3 HG3 hc1 hf1 HBX4 HO4 HS4 HG4
        obtain ⟨ln, c, s, A, ts, t, rfl, hln, hs, ht0, ht1, HP, HTL, HO, HBX, HSP, HS, HG⟩ := hrel
        have HSZ := Lib.hid HG.out.size
        have hb0 := Ow.cell HBX.out (k := 0) (by simp); have hb1 := Ow.cell HBX.out (k := 1) (by simp)
        simp only [List.getElem_cons_zero, List.getElem_cons_succ] at hb0 hb1
        by_cases hl : ln < 12
        · have hli : (ln : Int) < 12 := by omega
          have HARM : Hid (∀ (A5 : Option Addr) (c5 : Nat) (w5 : World), Ow w5 w.heap.size 35 2 (.slice A5 (ln + 1) c5) (ln + 1) (ts.flatMap Reading.vals ++ [.int .i64 (s : Int), .int .i64 t]) → wr.grownBy w5 (Value.slice A ln c).ownBlock → ((Value.slice A5 (ln + 1) c5).ownBlock = (Value.slice A ln c).ownBlock ∨ ∀ g, (Value.slice A5 (ln + 1) c5).ownBlock = some g → wr.heap.size ≤ g) →
              Ow w5 w.heap.size 35 2 (.slice A5 (ln + 1) c5) (ln + 1) ((ts ++ [(⟨(s : Int), t⟩ : Reading)]).flatMap Reading.vals) ∧ Ow w5 w.heap.size 35 2 (.slice (some ⟨w2.heap.size, 0, none⟩) 1 1) 1 [.int .i64 (s : Int), .int .i64 t] ∧ Sep (.slice A5 (ln + 1) c5) (.slice (some ⟨w2.heap.size, 0, none⟩) 1 1) ∧ Src w5 g hi (m + 22 - 4 * k + 4 * ln) ∧ Gr1 g w w5) := Lib.hid fun A5 c5 w5 ho5 hg5 hor5 =>
            ⟨by rw [List.flatMap_append]; simpa [Reading.vals] using ho5, HBX.out.keptS hg5 (Sep.symm' HSP.out), Sep.symm' (sep_hor1 HBX.out (Sep.symm' HSP.out) hor5), HS.out.row hg5 HO.out hhw, HG.out.bl (below_own (Below.refl w.heap.size wr) HO.out hg5 HSZ.out (Nat.le_refl _)) (Nat.le_refl _)⟩
          have HP5 : Hid (∀ x ∈ ts ++ [(⟨(s : Int), t⟩ : Reading)], Reading.fits (n0 : Int) x = true ∧ x.tick ≤ 8000) := Lib.hid (mem_snoc HP.out (fits_mk hs ht0 (by omega)))
          have HTL5 : Hid ((ts ++ [(⟨(s : Int), t⟩ : Reading)]).length = ln + 1) := Lib.hid (by simp [HTL.out])
          by_cases hsn : (s : Int) = (n0 : Int)
          · have e0 : n0 = s := by omega
            subst e0
            clear hsn
            go_wp2_with (first | (at_builtin; refine wpList_app wr rfl (.tmp 27) (.tmp 29) 29 rfl w.heap.size 35 (.agg #[.int .i64 0, .int .i64 0]) 2 16 Try.underlying29 infoReading rfl (by omega) (.slice A ln c) ln _ rfl HO.out #[.int .i64 (n0 : Int), .int .i64 t] 35 1 rfl rfl (by intro v hv; simp at hv; rcases hv with rfl | rfl <;> rfl) (by omega) (by omega) HSZ.out ?_; intro A5 c5 w5 ho5 hg5 hsz5 hor5; have H5 := Lib.hid (HARM.out A5 c5 w5 ho5 hg5 hor5); have hx0 := Ow.cell H5.out.2.1 (k := 0) (by simp); have hx1 := Ow.cell H5.out.2.1 (k := 1) (by simp); simp only [List.getElem_cons_zero, List.getElem_cons_succ] at hx0 hx1; clear ho5 hg5 hsz5 hor5) | fail)
            go_roundw
            case rel => exact ⟨k - 1, ln + 1, c5, A5, _, rfl, dec_num h0, by omega, by omega, HP5, HTL5, Lib.hid H5.out.1, Lib.hid (H5.out.2.2.2.1.mono (by omega)), Lib.hid H5.out.2.2.2.2⟩
            case measure => simp [intOf]; omega
          · have hsl : s < n0 := by omega
            go_wp2_with (first | (at_builtin; refine wpList_app wr rfl (.tmp 27) (.tmp 29) 29 rfl w.heap.size 35 (.agg #[.int .i64 0, .int .i64 0]) 2 16 Try.underlying29 infoReading rfl (by omega) (.slice A ln c) ln _ rfl HO.out #[.int .i64 (s : Int), .int .i64 t] 35 1 rfl rfl (by intro v hv; simp at hv; rcases hv with rfl | rfl <;> rfl) (by omega) (by omega) HSZ.out ?_; intro A5 c5 w5 ho5 hg5 hsz5 hor5; have H5 := Lib.hid (HARM.out A5 c5 w5 ho5 hg5 hor5); have hx0 := Ow.cell H5.out.2.1 (k := 0) (by simp); have hx1 := Ow.cell H5.out.2.1 (k := 1) (by simp); simp only [List.getElem_cons_zero, List.getElem_cons_succ] at hx0 hx1; clear ho5 hg5 hsz5 hor5) | fail)
            refine (one_any g hi _ 4 _ H5.out.2.2.2.1 (by omega)).mono ?_
            rintro e w6 ⟨b, rfl, hs6, hg6⟩
            have HO6 := Lib.hid (H5.out.1.gr1 hg6 hgw); have HB6 := Lib.hid (H5.out.2.1.gr1 hg6 hgw); have HS6 := Lib.hid hs6; have HG6 := Lib.hid (H5.out.2.2.2.2.trans hg6); have HP6 := Lib.hid H5.out.2.2.1
            clear hs6 hg6 hx0 hx1
            cases b with
            | true =>
              go_wp2
              go_roundw
              case rel => exact ⟨k - 1, ln + 1, c5, A5, _, rfl, dec_num h0, by omega, by omega, HP5, HTL5, HO6, Lib.hid (HS6.out.mono (by omega)), HG6⟩
              case measure => simp [intOf]; omega
            | false =>
              have hsu : s < us.length := by have h9 := HL0.out; have h10 := (HROW.out w (GrS.refl _ _)).ul; omega
              have hsg : s < gs.length := by have h9 := HL0.out; omega
              obtain ⟨g9, rfl, hg9lt, _⟩ := Ow.at1 (HROW.out w (GrS.refl _ _)).outer hsu
              have HGP := Lib.hid (HOKG.out s hsg)
              have HC9 : Hid (∀ W, Gr1 g w W → W.cell? ⟨g9, s, none⟩ = some us[s]) := Lib.hid fun W hW => Ow.cell (HROW.out W hW).outer hsu
              have HRW : Hid (∀ W, Gr1 g w W → OwI W lo us[s] gs[s]) := Lib.hid fun W hW => (HROW.out W hW).row s hsu hsg
              generalize us[s] = uk at HC9 HRW
              generalize gs[s] = gp at HGP HRW
              match gp, gapOk_len HGP.out with
              | [lw, hw], _ =>
              have hbd : 0 ≤ lw ∧ lw ≤ hw ∧ hw ≤ 1000 := gapOk_bd HGP.out
              obtain ⟨hlw0, hlh, hhw1⟩ := hbd
              rcases Ow.form (HRW.out w (GrS.refl _ _)) with ⟨_, h9, _⟩ | ⟨gr, cr, rfl, _, hgrlt, _⟩
              · simp at h9
              have hsi : (s : Int) < (n0 : Int) := by omega
              have hk9 := HC9.out w6 HG6.out
              have hrw6 := HRW.out w6 HG6.out
              have hk0 := OwI.cell hrw6 (k := 0) (by simp); have hk1 := OwI.cell hrw6 (k := 1) (by simp)
              simp only [List.getElem_cons_zero, List.getElem_cons_succ, List.length_cons, List.length_nil] at hk0 hk1 hk9
              have hx0 := Ow.cell HB6.out (k := 0) (by simp); have hx1 := Ow.cell HB6.out (k := 1) (by simp)
              simp only [List.getElem_cons_zero, List.getElem_cons_succ] at hx0 hx1
              have hx2 := Ow.free HB6.out 1
              clear hrw6
              have HKJ : Hid (∀ W, Gr1 g w6 W → W.cell? ⟨w2.heap.size, 0, none⟩ = some (.int .i64 (s : Int)) ∧ W.cell? ⟨g9, s, none⟩ = some (.slice (some ⟨gr, 0, none⟩) 2 cr) ∧ W.cell? ⟨gr, 0, none⟩ = some (.int .i64 lw) ∧ W.cell? ⟨gr, 1, none⟩ = some (.int .i64 hw)) := Lib.hid fun W hW => by
                have hW0 := HG6.out.trans hW
                have q1 := Ow.cell (HB6.out.gr1 hW hgw) (k := 0) (by simp)
                have q2 := HRW.out W hW0
                have q3 := OwI.cell q2 (k := 0) (by simp); have q4 := OwI.cell q2 (k := 1) (by simp)
                exact ⟨q1, HC9.out W hW0, q3, q4⟩
              have HKU : Hid (∀ W, Gr1 g w6 W → ∀ u, (W.setCell ⟨w2.heap.size, 1, none⟩ u).cell? ⟨w2.heap.size, 0, none⟩ = some (.int .i64 (s : Int)) ∧ (W.setCell ⟨w2.heap.size, 1, none⟩ u).cell? ⟨g9, s, none⟩ = some (.slice (some ⟨gr, 0, none⟩) 2 cr) ∧ (W.setCell ⟨w2.heap.size, 1, none⟩ u).cell? ⟨gr, 0, none⟩ = some (.int .i64 lw) ∧ (W.setCell ⟨w2.heap.size, 1, none⟩ u).cell? ⟨gr, 1, none⟩ = some (.int .i64 hw)) := Lib.hid fun W hW u => by
                have hG : GrS (fun k => k = w2.heap.size) W (W.setCell ⟨w2.heap.size, 1, none⟩ u) := GrS.set (R := fun k => k = w2.heap.size) (p := ⟨w2.heap.size, 1, none⟩) rfl u
                have q1 := Ow.cell (Ow.set (HB6.out.gr1 hW hgw) 1 u) (k := 0) (by simp)
                obtain ⟨_, p2, p3, p4⟩ := HKJ.out W hW
                exact ⟨by simpa using q1, (hG.cell (World.block_lt_of_cell? _ _ p2) (show ¬ (g9 = w2.heap.size) by omega)).trans p2, (hG.cell (World.block_lt_of_cell? _ _ p3) (show ¬ (gr = w2.heap.size) by omega)).trans p3, (hG.cell (World.block_lt_of_cell? _ _ p4) (show ¬ (gr = w2.heap.size) by omega)).trans p4⟩
              have HKT : Hid (∀ W, Gr1 g w6 W → W.cell? ⟨w2.heap.size, 1, none⟩ = some (.int .i64 t) ∧ W.frozen? ⟨w2.heap.size, 1, none⟩ = false) := Lib.hid fun W hW => ⟨Ow.cell (HB6.out.gr1 hW hgw) (k := 1) (by simp), Ow.free (HB6.out.gr1 hW hgw) 1⟩
              have hdr : Gr1 g w6 w6.drew := GrS.ofBelow (Below.refl _ _).drew
              have HDR := Lib.hid hdr
              have HS6D := Lib.hid (HS6.out.ex (Below.refl _ _).drew)
              have hs1 : (0 : Int) ≤ (s : Int) := by omega
              have hn1 : 1 ≤ hw - lw + 1 := by omega
              have hw9 : IntKind.i64.wrap (hw - lw) = hw - lw := IntWalk.i64_in _ (by omega)
              have hw8 : IntKind.i64.wrap (hw - lw + 1) = hw - lw + 1 := IntWalk.i64_in _ (by omega)
              have HBD : Hid (∀ x : Int, 0 ≤ x → x < hw - lw + 1 → IntKind.i64.wrap (lw + x) = lw + x ∧ IntKind.i64.wrap (t + (lw + x)) = t + (lw + x) ∧ 0 ≤ t + (lw + x) ∧ t + (lw + x) ≤ t + 1000) := Lib.hid fun x h1 h2 => ⟨IntWalk.i64_in _ (by omega), IntWalk.i64_in _ (by omega), by omega, by omega⟩
              clear hk9 hk0 hk1 hdr
              go_wp2
              -- R10 BEGIN
              refine wp_region_tail (S := fun w' => w'.cell? ⟨w2.heap.size, 0, none⟩ = some (.int .i64 (s : Int)) ∧ w'.cell? ⟨w2.heap.size, 1, none⟩ = some (.int .i64 t) ∧ w'.cell? ⟨g9, s, none⟩ = some (.slice (some ⟨gr, 0, none⟩) 2 cr) ∧ w'.cell? ⟨gr, 0, none⟩ = some (.int .i64 lw) ∧ w'.cell? ⟨gr, 1, none⟩ = some (.int .i64 hw)) 30 (by kernel_rfl) (by kernel_rfl) (by kernel_rfl) (by kernel_rfl) (by decide) ?_ (fun hHeld => ?_)
              · obtain ⟨p1, p2, p3, p4⟩ := HKJ.out _ HDR.out
                exact ⟨p1, (HKT.out _ HDR.out).1, p2, p3, p4⟩
              refine WG.take (i := 0) (v := ?_) rfl (by decide) (by kernel_rfl) (by kernel_rfl) (fun _ _ _ h => h) (Or.inl ⟨by rfl, ?_⟩) (by assumption) ?_
              rotate_left
              · (intro w9 hSw; (try dsimp only at hSw); go_simp) <;> (try with_reducible rfl)
              (try simp only [Act.put, List.setIfInBounds_toArray, List.set_cons_zero, List.set_cons_succ])
              refine WG.take (i := 1) (v := ?_) rfl (by decide) (by kernel_rfl) (by kernel_rfl) (fun _ _ _ h => h) (Or.inl ⟨by rfl, ?_⟩) (by assumption) ?_
              rotate_left
              · (intro w9 hSw; (try dsimp only at hSw); go_simp) <;> (try with_reducible rfl)
              (try simp only [Act.put, List.setIfInBounds_toArray, List.set_cons_zero, List.set_cons_succ])
              refine WG.take (i := 2) (v := ?_) rfl (by decide) (by kernel_rfl) (by kernel_rfl) (fun _ _ _ h => h) (Or.inl ⟨by rfl, ?_⟩) (by assumption) ?_
              rotate_left
              · (intro w9 hSw; (try dsimp only at hSw); go_simp) <;> (try with_reducible rfl)
              (try simp only [Act.put, List.setIfInBounds_toArray, List.set_cons_zero, List.set_cons_succ])
              refine WG.take (i := 3) (v := ?_) rfl (by decide) (by kernel_rfl) (by kernel_rfl) (fun _ _ _ h => h) (Or.inl ⟨by rfl, ?_⟩) (by assumption) ?_
              rotate_left
              · (intro w9 hSw; (try dsimp only at hSw); go_simp) <;> (try with_reducible rfl)
              (try simp only [Act.put, List.setIfInBounds_toArray, List.set_cons_zero, List.set_cons_succ])
              refine WG.take (i := 4) (v := ?_) rfl (by decide) (by kernel_rfl) (by kernel_rfl) (fun _ _ _ h => h) (Or.inl ⟨by rfl, ?_⟩) (by assumption) ?_
              rotate_left
              · (intro w9 hSw; (try dsimp only at hSw); go_simp) <;> (try with_reducible rfl)
              (try simp only [Act.put, List.setIfInBounds_toArray, List.set_cons_zero, List.set_cons_succ])
              refine WG.take (i := 5) (v := ?_) rfl (by decide) (by kernel_rfl) (by kernel_rfl) (fun _ _ _ h => h) (Or.inl ⟨by rfl, ?_⟩) (by assumption) ?_
              rotate_left
              · (intro w9 hSw; (try dsimp only at hSw); go_simp) <;> (try with_reducible rfl)
              (try simp only [Act.put, List.setIfInBounds_toArray, List.set_cons_zero, List.set_cons_succ])
              refine WG.take (i := 6) (v := ?_) rfl (by decide) (by kernel_rfl) (by kernel_rfl) (fun _ _ _ h => h) (Or.inl ⟨by rfl, ?_⟩) (by assumption) ?_
              rotate_left
              · (intro w9 hSw; (try dsimp only at hSw); go_simp) <;> (try with_reducible rfl)
              (try simp only [Act.put, List.setIfInBounds_toArray, List.set_cons_zero, List.set_cons_succ])
              refine WG.take (i := 7) (v := ?_) rfl (by decide) (by kernel_rfl) (by kernel_rfl) (fun _ _ _ h => h) (Or.inl ⟨by rfl, ?_⟩) (by assumption) ?_
              rotate_left
              · (intro w9 hSw; (try dsimp only at hSw); go_simp) <;> (try with_reducible rfl)
              (try simp only [Act.put, List.setIfInBounds_toArray, List.set_cons_zero, List.set_cons_succ])
              refine WG.take (i := 8) (v := ?_) rfl (by decide) (by kernel_rfl) (by kernel_rfl) (fun _ _ _ h => h) (Or.inl ⟨by rfl, ?_⟩) (by assumption) ?_
              rotate_left
              · (intro w9 hSw; (try dsimp only at hSw); go_simp) <;> (try with_reducible rfl)
              (try simp only [Act.put, List.setIfInBounds_toArray, List.set_cons_zero, List.set_cons_succ])
              refine WG.take (i := 9) (v := ?_) rfl (by decide) (by kernel_rfl) (by kernel_rfl) (fun _ _ _ h => h) (Or.inl ⟨by rfl, ?_⟩) (by assumption) ?_
              rotate_left
              · (intro w9 hSw; (try dsimp only at hSw); go_simp) <;> (try with_reducible rfl)
              (try simp only [Act.put, List.setIfInBounds_toArray, List.set_cons_zero, List.set_cons_succ])
              refine WG.take (i := 10) (v := ?_) rfl (by decide) (by kernel_rfl) (by kernel_rfl) (fun _ _ _ h => h) (Or.inl ⟨by rfl, ?_⟩) (by assumption) ?_
              rotate_left
              · (intro w9 hSw; (try dsimp only at hSw); go_simp) <;> (try with_reducible rfl)
              (try simp only [Act.put, List.setIfInBounds_toArray, List.set_cons_zero, List.set_cons_succ])
              refine WG.take (i := 11) (v := ?_) rfl (by decide) (by kernel_rfl) (by kernel_rfl) (fun _ _ _ h => h) (Or.inl ⟨by rfl, ?_⟩) (by assumption) ?_
              rotate_left
              · (intro w9 hSw; (try dsimp only at hSw); go_simp) <;> (try with_reducible rfl)
              (try simp only [Act.put, List.setIfInBounds_toArray, List.set_cons_zero, List.set_cons_succ])
              refine WG.take (i := 12) (v := ?_) rfl (by decide) (by kernel_rfl) (by kernel_rfl) (fun _ _ _ h => h) (Or.inl ⟨by rfl, ?_⟩) (by assumption) ?_
              rotate_left
              · (intro w9 hSw; (try dsimp only at hSw); go_simp) <;> (try with_reducible rfl)
              (try simp only [Act.put, List.setIfInBounds_toArray, List.set_cons_zero, List.set_cons_succ])
              refine WG.take (i := 13) (v := ?_) rfl (by decide) (by kernel_rfl) (by kernel_rfl) (fun _ _ _ h => h) (Or.inl ⟨by rfl, ?_⟩) (by assumption) ?_
              rotate_left
              · (intro w9 hSw; (try dsimp only at hSw); go_simp) <;> (try with_reducible rfl)
              (try simp only [Act.put, List.setIfInBounds_toArray, List.set_cons_zero, List.set_cons_succ])
              refine WG.take (i := 14) (v := ?_) rfl (by decide) (by kernel_rfl) (by kernel_rfl) (fun _ _ _ h => h) (Or.inl ⟨by rfl, ?_⟩) (by assumption) ?_
              rotate_left
              · (intro w9 hSw; (try dsimp only at hSw); go_simp) <;> (try with_reducible rfl)
              (try simp only [Act.put, List.setIfInBounds_toArray, List.set_cons_zero, List.set_cons_succ])
              refine WG.take (i := 15) (v := ?_) rfl (by decide) (by kernel_rfl) (by kernel_rfl) (fun _ _ _ h => h) (Or.inl ⟨by rfl, ?_⟩) (by assumption) ?_
              rotate_left
              · (intro w9 hSw; (try dsimp only at hSw); go_simp) <;> (try with_reducible rfl)
              (try simp only [Act.put, List.setIfInBounds_toArray, List.set_cons_zero, List.set_cons_succ])
              refine WG.take (i := 16) (v := ?_) rfl (by decide) (by kernel_rfl) (by kernel_rfl) (fun _ _ _ h => h) (Or.inl ⟨by rfl, ?_⟩) (by assumption) ?_
              rotate_left
              · (intro w9 hSw; (try dsimp only at hSw); go_simp) <;> (try with_reducible rfl)
              (try simp only [Act.put, List.setIfInBounds_toArray, List.set_cons_zero, List.set_cons_succ])
              refine WG.take (i := 17) (v := ?_) rfl (by decide) (by kernel_rfl) (by kernel_rfl) (fun _ _ _ h => h) (Or.inl ⟨by rfl, ?_⟩) (by assumption) ?_
              rotate_left
              · (intro w9 hSw; (try dsimp only at hSw); go_simp) <;> (try with_reducible rfl)
              (try simp only [Act.put, List.setIfInBounds_toArray, List.set_cons_zero, List.set_cons_succ])
              refine WG.take (i := 18) (v := ?_) rfl (by decide) (by kernel_rfl) (by kernel_rfl) (fun _ _ _ h => h) (Or.inl ⟨by rfl, ?_⟩) (by assumption) ?_
              rotate_left
              · (intro w9 hSw; (try dsimp only at hSw); go_simp) <;> (try with_reducible rfl)
              (try simp only [Act.put, List.setIfInBounds_toArray, List.set_cons_zero, List.set_cons_succ])
              refine WG.take (i := 19) (v := ?_) rfl (by decide) (by kernel_rfl) (by kernel_rfl) (fun _ _ _ h => h) (Or.inl ⟨by rfl, ?_⟩) (by assumption) ?_
              rotate_left
              · (intro w9 hSw; (try dsimp only at hSw); go_simp) <;> (try with_reducible rfl)
              (try simp only [Act.put, List.setIfInBounds_toArray, List.set_cons_zero, List.set_cons_succ])
              refine WG.take (i := 20) (v := ?_) rfl (by decide) (by kernel_rfl) (by kernel_rfl) (fun _ _ _ h => h) (Or.inl ⟨by rfl, ?_⟩) (by assumption) ?_
              rotate_left
              · (intro w9 hSw; (try dsimp only at hSw); go_simp) <;> (try with_reducible rfl)
              (try simp only [Act.put, List.setIfInBounds_toArray, List.set_cons_zero, List.set_cons_succ])
              refine WG.take (i := 21) (v := ?_) rfl (by decide) (by kernel_rfl) (by kernel_rfl) (fun _ _ _ h => h) (Or.inl ⟨by rfl, ?_⟩) (by assumption) ?_
              rotate_left
              · (intro w9 hSw; (try dsimp only at hSw); go_simp) <;> (try with_reducible rfl)
              (try simp only [Act.put, List.setIfInBounds_toArray, List.set_cons_zero, List.set_cons_succ])
              refine WG.take (i := 22) (v := ?_) rfl (by decide) (by kernel_rfl) (by kernel_rfl) (fun _ _ _ h => h) (Or.inl ⟨by rfl, ?_⟩) (by assumption) ?_
              rotate_left
              · (intro w9 hSw; (try dsimp only at hSw); go_simp) <;> (try with_reducible rfl)
              (try simp only [Act.put, List.setIfInBounds_toArray, List.set_cons_zero, List.set_cons_succ])
              refine WG.take (i := 23) (v := ?_) rfl (by decide) (by kernel_rfl) (by kernel_rfl) (fun _ _ _ h => h) (Or.inl ⟨by rfl, ?_⟩) (by assumption) ?_
              rotate_left
              · (intro w9 hSw; (try dsimp only at hSw); go_simp) <;> (try with_reducible rfl)
              (try simp only [Act.put, List.setIfInBounds_toArray, List.set_cons_zero, List.set_cons_succ])
              refine WG.take (i := 24) (v := ?_) rfl (by decide) (by kernel_rfl) (by kernel_rfl) (fun _ _ _ h => h) (Or.inl ⟨by rfl, ?_⟩) (by assumption) ?_
              rotate_left
              · (intro w9 hSw; (try dsimp only at hSw); go_simp) <;> (try with_reducible rfl)
              (try simp only [Act.put, List.setIfInBounds_toArray, List.set_cons_zero, List.set_cons_succ])
              refine WG.take (i := 25) (v := ?_) rfl (by decide) (by kernel_rfl) (by kernel_rfl) (fun _ _ _ h => h) (Or.inl ⟨by rfl, ?_⟩) (by assumption) ?_
              rotate_left
              · (intro w9 hSw; (try dsimp only at hSw); go_simp) <;> (try with_reducible rfl)
              (try simp only [Act.put, List.setIfInBounds_toArray, List.set_cons_zero, List.set_cons_succ])
              refine WG.step (i := 26) (by kernel_rfl) (by decide) rfl (fun K hK => ?_)
              go_simp
              go_at_call 79
              refine (pick_pos g hi _ _ _ HS6D.out (by omega) hn1).mono ?_
              rintro eA wA ⟨x, ⟨hx0, hx1⟩, rfl, hsA, hgA⟩
              have HGA : Hid (Gr1 g w6 wA) := Lib.hid (HDR.out.trans hgA)
              obtain ⟨ht2, hf2⟩ := HKT.out _ HGA.out
              obtain ⟨hy1, hy2, hy3, hy4⟩ := HBD.out x hx0 hx1
              have HSA := Lib.hid hsA
              (try go_wp2_with fail)
              refine hK.out _ _ ?_ (fun hHeld => ?_)
              · obtain ⟨p1, p2, p3, p4⟩ := HKJ.out _ HGA.out
                exact ⟨p1, ht2, p2, p3, p4⟩
              clear hK K hgA hsA
              (try simp only [Act.put, List.setIfInBounds_toArray, List.set_cons_zero, List.set_cons_succ])
              refine WG.take (i := 27) (v := ?_) rfl (by decide) (by kernel_rfl) (by kernel_rfl) (fun _ _ _ h => h) (Or.inl ⟨by rfl, ?_⟩) (by assumption) ?_
              rotate_left
              · (intro w9 hSw; (try dsimp only at hSw); go_simp) <;> (try with_reducible rfl)
              (try simp only [Act.put, List.setIfInBounds_toArray, List.set_cons_zero, List.set_cons_succ])
              refine WG.take (i := 28) (v := ?_) rfl (by decide) (by kernel_rfl) (by kernel_rfl) (fun _ _ _ h => h) (Or.inl ⟨by rfl, ?_⟩) (by assumption) ?_
              rotate_left
              · (intro w9 hSw; (try dsimp only at hSw); go_simp) <;> (try with_reducible rfl)
              (try simp only [Act.put, List.setIfInBounds_toArray, List.set_cons_zero, List.set_cons_succ])
              refine WG.take (i := 29) (v := ?_) rfl (by decide) (by kernel_rfl) (by kernel_rfl) (fun _ _ _ h => h) (Or.inl ⟨by rfl, ?_⟩) (by assumption) ?_
              rotate_left
              · (intro w9 hSw; (try dsimp only at hSw); go_simp) <;> (try with_reducible rfl)
              (try simp only [Act.put, List.setIfInBounds_toArray, List.set_cons_zero, List.set_cons_succ])
              refine WG.last (by kernel_rfl) (by kernel_rfl) rfl (fun K hK => ?_)
              go_simp
              refine hK.out _ _ ?_
              clear hK K
              (try simp only [Act.put, List.setIfInBounds_toArray, List.set_cons_zero, List.set_cons_succ])
              obtain ⟨t', HT'⟩ : ∃ t', Hid (t + (lw + x) = t') := ⟨_, Lib.hid rfl⟩
              rw [HT'.out] at hy3 hy4 ⊢
              have hgrA := Ow.grow (k := 1) (HB6.out.gr1 HGA.out hgw) (.int .i64 t')
              have HB7 : Hid (Ow (wA.setCell ⟨w2.heap.size, 1, none⟩ (.int .i64 t')) w.heap.size 35 2 (.slice (some ⟨w2.heap.size, 0, none⟩) 1 1) 1 [.int .i64 (s : Int), .int .i64 t']) := Lib.hid (Ow.set (HB6.out.gr1 HGA.out hgw) 1 (.int .i64 t'))
              have HO7 := Lib.hid ((HO6.out.gr1 HGA.out hgw).keptS (u := .slice (some ⟨w2.heap.size, 0, none⟩) 1 1) hgrA HP6.out)
              have HS7 := Lib.hid (HSA.out.row (v := .slice (some ⟨w2.heap.size, 0, none⟩) 1 1) hgrA (HB6.out.gr1 HGA.out hgw) hhw)
              have HG7 := Lib.hid ((HG6.out.trans HGA.out).bl (below_own (Below.refl w.heap.size wA) (HB6.out.gr1 HGA.out hgw) hgrA (HG6.out.trans HGA.out).size (Nat.le_refl _)) (Nat.le_refl _))
              clear hHeld ht2 hf2 hgrA
              have e0 := Ow.cell HB7.out (k := 0) (by simp); have q0 := Ow.free HB7.out 0
              simp only [List.getElem_cons_zero, List.getElem_cons_succ] at e0
              have hgrB := Ow.grow (k := 0) HB7.out (.int .i64 ((s + 1 : Nat) : Int))
              have hs1e : ((s + 1 : Nat) : Int) = (s : Int) + 1 := by omega
              have HB8 : Hid (Ow ((wA.setCell ⟨w2.heap.size, 1, none⟩ (.int .i64 t')).setCell ⟨w2.heap.size, 0, none⟩ (.int .i64 ((s + 1 : Nat) : Int))) w.heap.size 35 2 (.slice (some ⟨w2.heap.size, 0, none⟩) 1 1) 1 [.int .i64 ((s + 1 : Nat) : Int), .int .i64 t']) := Lib.hid (Ow.set HB7.out 0 (.int .i64 ((s + 1 : Nat) : Int)))
              have HO8 := Lib.hid (HO7.out.keptS (u := .slice (some ⟨w2.heap.size, 0, none⟩) 1 1) hgrB HP6.out)
              have HS8 := Lib.hid (HS7.out.row (v := .slice (some ⟨w2.heap.size, 0, none⟩) 1 1) hgrB HB7.out hhw)
              have HG8 := Lib.hid (HG7.out.bl (below_own (Below.refl w.heap.size _) HB7.out hgrB HG7.out.size (Nat.le_refl _)) (Nat.le_refl _))
              clear hgrB
              have HE : Hid (((s + 1 : Nat) : Int) = (s : Int) + 1) := Lib.hid hs1e
              have HALL : Hid (Ow ((wA.setCell ⟨w2.heap.size, 1, none⟩ (.int .i64 t')).setCell ⟨w2.heap.size, 0, none⟩ (.int .i64 ((s : Int) + 1))) w.heap.size 35 2 (.slice (some ⟨w2.heap.size, 0, none⟩) 1 1) 1 [.int .i64 ((s + 1 : Nat) : Int), .int .i64 t'] ∧ Ow ((wA.setCell ⟨w2.heap.size, 1, none⟩ (.int .i64 t')).setCell ⟨w2.heap.size, 0, none⟩ (.int .i64 ((s : Int) + 1))) w.heap.size 35 2 (.slice A5 (ln + 1) c5) (ln + 1) ((ts ++ [(⟨(s : Int), t⟩ : Reading)]).flatMap Reading.vals) ∧ Src ((wA.setCell ⟨w2.heap.size, 1, none⟩ (.int .i64 t')).setCell ⟨w2.heap.size, 0, none⟩ (.int .i64 ((s : Int) + 1))) g hi (m + 22 - 4 * k + 4 * ln + 2 + 2) ∧ Gr1 g w ((wA.setCell ⟨w2.heap.size, 1, none⟩ (.int .i64 t')).setCell ⟨w2.heap.size, 0, none⟩ (.int .i64 ((s : Int) + 1)))) := Lib.hid (by rw [← HE.out]; exact ⟨HB8.out, HO8.out, HS8.out, HG8.out⟩)
              clear HB8 HO8 HS8 HG8 hs1e
              go_wp2
              go_roundw
              case rel => exact ⟨ln + 1, c5, s + 1, A5, _, t', rfl, by omega, by omega, hy3, by have := HE.out; omega, HP5, HTL5, Lib.hid HALL.out.2.1, Lib.hid HALL.out.1, HP6, Lib.hid (HALL.out.2.2.1.mono (by omega)), Lib.hid HALL.out.2.2.2⟩
              case measure => simp [lenV]; omega
              -- R10 END
        · have hli : ¬ ((ln : Int) < 12) := by omega
          go_wp2
          go_roundw
          case rel => exact ⟨k - 1, ln, c, A, ts, rfl, dec_num h0, by omega, by omega, HP, HTL, HO, Lib.hid (HS.out.mono (by omega)), HG⟩
          case measure => simp [intOf]; omega
    · obtain rfl : k = 0 := by omega
      go_wp2
      go_ret
      exact ⟨A, ln, c, ts, ⟨hln, HP.out⟩, rfl, HTL.out, HO.out, HS.out.mono (by omega), HG.out⟩
end Go.Proofs.Ytlgeddbgbcineaa
