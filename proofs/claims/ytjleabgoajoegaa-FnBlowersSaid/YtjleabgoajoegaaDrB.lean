/-
The reference's draws of blowers and sets, each by its contract: some blowers, some sets, some number. Condition: a source.
-/
import Derived.Test.YtjleabgoajoegaaDr
import Derived.Test.YtjleabgoajoegaaBlowF
import Derived.Deep.CutRange
namespace Go.Proofs.Ytjleabgoajoegaa
open Go.RowKit
set_option linter.unusedVariables false
set_option linter.unusedSimpArgs false

theorem sep_hor1 {w : World} {lo sz n : Nat} {e : TypeId} {u v v' : Value} {ds : List Value} (h : Ow w lo e sz u n ds) (hs : Sep u v) (hor : v'.ownBlock = v.ownBlock ∨ ∀ g, v'.ownBlock = some g → w.heap.size ≤ g) : Sep u v' := by
  rcases hs with hs | hs
  · exact .inl hs
  · rcases hor with hor | hor
    · exact .inr (by rw [hor]; exact hs)
    · cases hu : u.ownBlock with
      | none => exact .inl hu
      | some j =>
        refine .inr fun hq => ?_
        rw [hu] at hq
        have h1 := hor j hq.symm
        have h2 := (h.lt j hu).2
        omega
theorem Sep.symm' {u v : Value} (h : Sep u v) : Sep v u := by
  rcases h with h | h
  · cases hv : v.ownBlock with
    | none => exact .inl hv
    | some j => exact .inr (by rw [h, hv]; simp)
  · exact .inr (Ne.symm h)
/-- numbers, three to a blower -/
theorem group3 : ∀ (n : Nat) (ns : List Int), ns.length = n * 3 → ∃ ts : List Blower, ts.length = n ∧ ts.flatMap Blower.vals = ns.map (Value.int .i64)
  | 0, ns, h => by
    have h0 : ns = [] := List.eq_nil_of_length_eq_zero (by omega)
    subst h0; exact ⟨[], rfl, rfl⟩
  | n + 1, ns, h => by
    match ns, h with
    | a :: b :: c :: rest, h =>
      obtain ⟨ts, h1, h2⟩ := group3 n rest (by simp at h; omega)
      exact ⟨⟨a, b, c⟩ :: ts, by simp [h1], by simp [List.flatMap_cons, Blower.vals, h2]⟩
    | [], h => simp at h
    | [a], h => simp at h; omega
    | [a, b], h => simp at h; omega
/-- blowers were drawn -/
def ChoBl (g hi m : Nat) (w : World) (e : Ending) (w' : World) : Prop :=
  ∃ (A : Option Addr) (n c : Nat) (ns : List Int), n ≤ 5 ∧ ns.length = n * 3 ∧ e = .returned (.slice A n c) ∧ Ow w' w.heap.size 62 3 (.slice A n c) n (ns.map (Value.int .i64)) ∧ Src w' g hi m ∧ Gr1 g w w'

set_option maxRecDepth 100000 in
set_option maxHeartbeats 4000000 in
theorem drawBl_any (g hi m : Nat) (w : World) (h : Src w g hi m) (hm : m ≤ 1000000) :
    Calls Try.prog 90 #[.pointer (some ⟨g, 0, none⟩)] w (ChoBl g hi (m + 30) w) := by
  have hgw : g < w.heap.size := Nat.lt_of_lt_of_le h.gh h.hw
  have hhw := h.hw
  have hb0 := below_alloc w (.cells #[] 62)
  have HS0 := Lib.hid (h.ex hb0)
  have HO0 := Lib.hid (ow_empty w w.heap.size 62 3 (Nat.le_refl _))
  have HG0 : Hid (Gr1 g w _) := Lib.hid (GrS.ofBelow (R := fun k => k = g) hb0)
  clear h hb0
  go_enter Try.func90, Try.ntmps90
  go_wp2_with fail
  refine (pick_pos g hi m 5 _ HS0.out (by omega) (by omega)).mono ?_
  rintro e w1 ⟨x, ⟨hx0, hx1⟩, rfl, hs1, hg1⟩
  obtain ⟨n, rfl⟩ := Int.eq_ofNat_of_zero_le hx0
  have HS1 := Lib.hid hs1; have HG1 := Lib.hid (HG0.out.trans hg1); have HO1 := Lib.hid (HO0.out.gr1 hg1 hgw)
  clear hs1 hg1 hx0
  go_wp2
  go_loopw [3, 5] (fun v3 v5 wr => ∃ (k ln c : Nat) (A : Option Addr) (ns : List Int), v3 = .slice A ln c ∧ v5 = .int .i64 k ∧ k + ln ≤ 4 ∧ Hid (ns.length = ln * 3) ∧ Hid (Ow wr w.heap.size 62 3 (.slice A ln c) ln (ns.map (Value.int .i64))) ∧ Hid (Src wr g hi (m + 2 + 6 * ln)) ∧ Hid (Gr1 g w wr)) (fun _ v5 _ => (intOf v5).toNat)
  case atStart => exact ⟨n, 0, 0, _, [], rfl, rfl, by omega, Lib.hid rfl, HO1, HS1, HG1⟩
  case round =>
    obtain ⟨k, ln, c, A, ns, rfl, rfl, hk, HNL, HO, HS, HG⟩ := hrel
    by_cases h0 : 0 < k
    · have hki : (0 : Int) < (k : Int) := by omega
      go_wp2_with fail
      refine (pick_pos g hi _ 12 _ HS.out (by omega) (by omega)).mono ?_
      rintro e w2 ⟨a, ⟨ha0, ha1⟩, rfl, hs2, hg2⟩
      have hba := below_alloc w2 (.cells #[.int .i64 (10 * (1 + a)), .int .i64 0, .int .i64 0] 62)
      have HS2 := Lib.hid (hs2.ex hba)
      have HG2 := Lib.hid ((HG.out.trans hg2).bl hba (HG.out.trans hg2).size)
      have HBX2 := Lib.hid (Ow.lay w2 (lo := w.heap.size) (sz := 3) 62 #[.int .i64 (10 * (1 + a)), .int .i64 0, .int .i64 0] 1 (HG.out.trans hg2).size (by omega) rfl)
      have HO2 := Lib.hid ((HO.out.gr1 hg2 hgw).ex hba)
      have HSP : Hid (Sep (.slice A ln c) (.slice (some ⟨w2.heap.size, 0, none⟩) 1 1)) := Lib.hid (Ow.sep_new (HO.out.gr1 hg2 hgw) (Ow.lay w2 (lo := w2.heap.size) (sz := 3) 62 #[.int .i64 (10 * (1 + a)), .int .i64 0, .int .i64 0] 1 (Nat.le_refl _) (by omega) rfl) (Nat.le_refl _))
      clear hs2 hg2 hba
      go_wp2_with fail
      refine (pick_pos g hi _ 40 _ HS2.out (by omega) (by omega)).mono ?_
      rintro e w3 ⟨b, ⟨hb0, hb1⟩, rfl, hs3, hg3⟩
      have HBX3 := Lib.hid (HBX2.out.gr1 hg3 hgw)
      have HO3 := Lib.hid (HO2.out.gr1 hg3 hgw)
      have HG3 := Lib.hid (HG2.out.trans hg3)
      have hc1 := Ow.cell HBX3.out (k := 1) (by simp)
      have hf1 := Ow.free HBX3.out 1
      simp only [List.getElem_cons_zero, List.getElem_cons_succ] at hc1
      have hgr := Ow.grow (k := 1) HBX3.out (.int .i64 b)
      have HBX4 : Hid (Ow (w3.setCell ⟨w2.heap.size, 1, none⟩ (.int .i64 b)) w.heap.size 62 3 (.slice (some ⟨w2.heap.size, 0, none⟩) 1 1) 1 [.int .i64 (10 * (1 + a)), .int .i64 b, .int .i64 0]) := Lib.hid (Ow.set HBX3.out 1 (.int .i64 b))
      have HO4 := Lib.hid (HO3.out.keptS (u := .slice (some ⟨w2.heap.size, 0, none⟩) 1 1) hgr HSP.out)
      have HS4 := Lib.hid (hs3.row (v := .slice (some ⟨w2.heap.size, 0, none⟩) 1 1) hgr HBX3.out hhw)
      have HG4 := Lib.hid (HG3.out.bl (below_own (Below.refl w.heap.size w3) HBX3.out hgr HG3.out.size (Nat.le_refl _)) (Nat.le_refl _))
      clear hs3 hg3 hgr
      go_wp2_with fail
      refine (pick_pos g hi _ 60 _ HS4.out (by omega) (by omega)).mono ?_
      rintro e w5 ⟨d, ⟨hd0, hd1⟩, rfl, hs5, hg5⟩
      have HBX5 := Lib.hid (HBX4.out.gr1 hg5 hgw)
      have HO5 := Lib.hid (HO4.out.gr1 hg5 hgw)
      have HG5 := Lib.hid (HG4.out.trans hg5)
      have hc2 := Ow.cell HBX5.out (k := 2) (by simp)
      have hf2 := Ow.free HBX5.out 2
      simp only [List.getElem_cons_zero, List.getElem_cons_succ] at hc2
      have hgr := Ow.grow (k := 2) HBX5.out (.int .i64 d)
      have HBX6 : Hid (Ow (w5.setCell ⟨w2.heap.size, 2, none⟩ (.int .i64 d)) w.heap.size 62 3 (.slice (some ⟨w2.heap.size, 0, none⟩) 1 1) 1 [.int .i64 (10 * (1 + a)), .int .i64 b, .int .i64 d]) := Lib.hid (Ow.set HBX5.out 2 (.int .i64 d))
      have HO6 := Lib.hid (HO5.out.keptS (u := .slice (some ⟨w2.heap.size, 0, none⟩) 1 1) hgr HSP.out)
      have HS6 := Lib.hid (hs5.row (v := .slice (some ⟨w2.heap.size, 0, none⟩) 1 1) hgr HBX5.out hhw)
      have HG6 := Lib.hid (HG5.out.bl (below_own (Below.refl w.heap.size w5) HBX5.out hgr HG5.out.size (Nat.le_refl _)) (Nat.le_refl _))
      have HQ6 := Lib.hid (fun W (hW : W = w5.setCell ⟨w2.heap.size, 2, none⟩ (.int .i64 d)) => (⟨by rw [hW]; exact HBX6.out, by rw [hW]; exact HO6.out, by rw [hW]; exact HS6.out, by rw [hW]; exact HG6.out⟩ : Ow W w.heap.size 62 3 (.slice (some ⟨w2.heap.size, 0, none⟩) 1 1) 1 [.int .i64 (10 * (1 + a)), .int .i64 b, .int .i64 d] ∧ Ow W w.heap.size 62 3 (.slice A ln c) ln (ns.map (Value.int .i64)) ∧ Src W g hi (m + 2 + 6 * ln + 2 + 2 + 2) ∧ Gr1 g w W))
      clear hs5 hg5 hgr HBX6 HO6 HS6 HG6
      go_upto_region 9 with fail
      refine wp_gen (fun W6 hW6 => ?_)
      obtain ⟨hq1, hq2, hq3, hq4⟩ := HQ6.out W6 hW6
      clear hW6
      have hx0 := Ow.cell hq1 (k := 0) (by simp); have hx1 := Ow.cell hq1 (k := 1) (by simp); have hx2 := Ow.cell hq1 (k := 2) (by simp)
      simp only [List.getElem_cons_zero, List.getElem_cons_succ] at hx0 hx1 hx2
      have HO6 := Lib.hid hq2; have HS6 := Lib.hid hq3; have HG6 := Lib.hid hq4; have HSZ := Lib.hid hq4.size
      clear hq1 hq2 hq3 hq4 HQ6 hc1 hf1 hc2 hf2
      go_wp2_with (first | (at_builtin; refine wpList_app W6 rfl (.tmp 26) (.tmp 28) 29 rfl w.heap.size 62 (.agg #[.int .i64 0, .int .i64 0, .int .i64 0]) 3 24 Try.underlying29 infoBlower rfl (by omega) (.slice A ln c) ln _ rfl HO6.out #[.int .i64 (10 * (1 + a)), .int .i64 b, .int .i64 d] 62 1 rfl rfl (by intro v hv; simp at hv; rcases hv with rfl | rfl | rfl <;> rfl) (by omega) (by omega) HSZ.out ?_; intro A7 c7 w7 ho7 hg7 hsz7 hor7; have HO7 : Hid (Ow w7 w.heap.size 62 3 (.slice A7 (ln + 1) c7) (ln + 1) ((ns ++ [10 * (1 + a), b, d]).map (Value.int .i64))) := Lib.hid (by rw [List.map_append]; exact ho7); have HS7 := Lib.hid (HS6.out.row hg7 HO6.out hhw); have HG7 := Lib.hid (HG6.out.bl (below_own (Below.refl w.heap.size W6) HO6.out hg7 HSZ.out (Nat.le_refl _)) (Nat.le_refl _)); clear ho7 hg7 hsz7 hor7) | fail)
      go_roundw
      case rel => exact ⟨k - 1, ln + 1, c7, A7, _, rfl, dec_num h0, by omega, Lib.hid (by simp [HNL.out]; omega), HO7, Lib.hid (HS7.out.mono (by omega)), HG7⟩
      case measure => simp [intOf]; omega
    · obtain rfl : k = 0 := by omega
      go_wp2
      go_ret
      exact ⟨A, ln, c, ns, by omega, HNL.out, rfl, HO.out, HS.out.mono (by omega), HG.out⟩
end Go.Proofs.Ytjleabgoajoegaa
