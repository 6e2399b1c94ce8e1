/-
States of places: stateOf of the program. Condition: the slices read as lists; valid ways.
-/
import Derived.Test.YtegabdhmfemgkaaPolD
namespace Go.Proofs.Ytegabdhmfemgkaa
open Go.RowKit
set_option linter.unusedVariables false

/-- a block that holds four numbers -/
structure Four (W : World) (g : Nat) (x : Nat → Int) : Prop where
  lt : g < W.heap.size
  c : ∀ k, k < 4 → W.cell? ⟨g, k, none⟩ = some (.int .i64 (x k))
  f : ∀ k, W.frozen? ⟨g, k, none⟩ = false
theorem Four.new (w : World) (x : Nat → Int) (t : TypeId) : Four (w.alloc (.cells #[.int .i64 (x 0), .int .i64 (x 1), .int .i64 (x 2), .int .i64 (x 3)] t)) w.heap.size x := by
  refine ⟨by simp, ?_, fun k => by simp [go_sem]⟩
  intro k hk
  match k, hk with
  | 0, _ => simp [go_sem]
  | 1, _ => simp [go_sem]
  | 2, _ => simp [go_sem]
  | 3, _ => simp [go_sem]
  | n + 4, h => omega
theorem Four.exB {W W' : World} {g B : Nat} {x : Nat → Int} (h : Four W g x) (hb : Below B W W') (hB : g < B) : Four W' g x :=
  ⟨Nat.lt_of_lt_of_le h.lt hb.size, fun k hk => (hb.cell (p := ⟨g, k, none⟩) hB).trans (h.c k hk), fun k => (hb.frozen (p := ⟨g, k, none⟩) hB).trans (h.f k)⟩
theorem Four.set {W : World} {g : Nat} {x : Nat → Int} (h : Four W g x) (k : Nat) (hk : k < 4) (u : Int) : Four (W.setCell ⟨g, k, none⟩ (.int .i64 u)) g (fun j => if j = k then u else x j) := by
  refine ⟨by simpa using h.lt, fun j hj => ?_, fun j => by simpa using h.f j⟩
  by_cases e : j = k
  · subst e; rw [World.cell?_setCell_same (h := h.c j hj)]; simp
  · rw [World.cell?_setCell_other (h := by intro h; exact e (by injection h with _ h2 _; omega)), h.c j hj, if_neg e]
theorem Four.congr {W : World} {g : Nat} {x y : Nat → Int} (h : Four W g x) (e : ∀ k, k < 4 → x k = y k) : Four W g y := ⟨h.lt, fun k hk => by rw [h.c k hk, e k hk], h.f⟩
theorem plc_take (pl : List Int) (k j : Nat) : plc (pl.take k) j = if j < k then plc pl j else 0 := by
  unfold plc
  simp only [List.getD_eq_getElem?_getD, List.getElem?_take]
  split <;> simp
theorem plc_take_succ (pl : List Int) (k j : Nat) : (if j = k then plc pl k else plc (pl.take k) j) = plc (pl.take (k + 1)) j := by
  rw [plc_take, plc_take]
  by_cases h : j = k
  · subst h; simp
  · rw [if_neg h]; by_cases h2 : j < k
    · rw [if_pos h2, if_pos (by omega)]
    · rw [if_neg h2, if_neg (by omega)]
structure Box3 (W : World) (g : Nat) (x y z : Value) : Prop where
  lt : g < W.heap.size
  c0 : W.cell? ⟨g, 0, none⟩ = some x
  c1 : W.cell? ⟨g, 1, none⟩ = some y
  c2 : W.cell? ⟨g, 2, none⟩ = some z
theorem Box3.exB {W W' : World} {g B : Nat} {x y z : Value} (h : Box3 W g x y z) (hb : Below B W W') (hB : g < B) : Box3 W' g x y z :=
  ⟨Nat.lt_of_lt_of_le h.lt hb.size, (hb.cell (p := ⟨g, 0, none⟩) hB).trans h.c0, (hb.cell (p := ⟨g, 1, none⟩) hB).trans h.c1, (hb.cell (p := ⟨g, 2, none⟩) hB).trans h.c2⟩
theorem Box3.new (w : World) (x y z : Value) (t : TypeId) : Box3 (w.alloc (.cells #[x, y, z] t)) w.heap.size x y z := ⟨by simp, by simp [go_sem], by simp [go_sem], by simp [go_sem]⟩

set_option maxHeartbeats 1000000 in
theorem stateOf_any (v u r : Value) (halls : List Int) (ways : List (List Int)) (most : Int) (pl : List Int) (w : World) (hv : SlI w v halls) (hu : SlII w u ways) (hr : SlI w r pl) (h6 : halls.length ≤ 6) (h4 : ways.length ≤ 4) (hway : ∀ way ∈ ways, wayOk halls.length way = true) :
    Calls Try.prog 80 #[.agg #[v, u, .int .i64 most], r] w fun e w' => (∃ a0 a1 a2 a3 : Int, e = .returned (.tuple #[.agg #[.int .i64 a0, .int .i64 a1, .int .i64 a2, .int .i64 a3], .bool (plOk halls ways pl)]) ∧ (plOk halls ways pl = true → .agg #[.int .i64 a0, .int .i64 a1, .int .i64 a2, .int .i64 a3] = stV pl)) ∧ Below w.heap.size w w' := by
  have HIS := Lib.hid fun (W : World) (hW : Below w.heap.size w W) => isState_any v u halls ways most pl W (hv.ex hW) (hu.ex hW) h6 h4 hway
  obtain ⟨A, d, rfl, hla, ha⟩ := hv.op
  obtain ⟨B, f, rfl, hlb, hat⟩ := hu.op
  obtain ⟨R, g, rfl, hlr, hrt⟩ := hr.op
  have HAT := Lib.hid hat; have HRT := Lib.hid hrt
  clear hv hu hr ha hat hrt hway
  by_cases hlen : pl.length = ways.length
  · have HLEN := Lib.hid hlen
    rw [hlen]
    rw [hlen] at hlr
    clear hlen
    have hB3 := Box3.new w (.slice A halls.length d) (.slice B ways.length f) (.int .i64 most) 69
    have hF1 := Four.new (w.alloc (.cells #[.slice A halls.length d, .slice B ways.length f, .int .i64 most] 69)) (fun _ => 0) 86
    have hF2 := Four.new ((w.alloc (.cells #[.slice A halls.length d, .slice B ways.length f, .int .i64 most] 69)).alloc (.cells #[.int .i64 0, .int .i64 0, .int .i64 0, .int .i64 0] 86)) (fun _ => 0) 86
    have hb1 := below_alloc (w.alloc (.cells #[.slice A halls.length d, .slice B ways.length f, .int .i64 most] 69)) (.cells #[.int .i64 0, .int .i64 0, .int .i64 0, .int .i64 0] 86)
    have hb2 := below_alloc ((w.alloc (.cells #[.slice A halls.length d, .slice B ways.length f, .int .i64 most] 69)).alloc (.cells #[.int .i64 0, .int .i64 0, .int .i64 0, .int .i64 0] 86)) (.cells #[.int .i64 0, .int .i64 0, .int .i64 0, .int .i64 0] 86)
    have HB3 := Lib.hid ((hB3.exB hb1 (by simp)).exB hb2 (by simp; omega))
    have HF1 := Lib.hid (hF1.exB hb2 (by simp))
    have HF2 : Hid (Four (((w.alloc (.cells #[.slice A halls.length d, .slice B ways.length f, .int .i64 most] 69)).alloc (.cells #[.int .i64 0, .int .i64 0, .int .i64 0, .int .i64 0] 86)).alloc (.cells #[.int .i64 0, .int .i64 0, .int .i64 0, .int .i64 0] 86)) (w.heap.size + 1 + 1) (plc (pl.take 0))) := Lib.hid (by
      have := hF2.congr (y := plc (pl.take 0)) (fun k _ => by rw [plc_take]; simp)
      simpa using this)
    have HB := Lib.hid (((below_alloc2 w (.cells #[.slice A halls.length d, .slice B ways.length f, .int .i64 most] 69) (.cells #[.int .i64 0, .int .i64 0, .int .i64 0, .int .i64 0] 86))).alloc (by simp; omega) (.cells #[.int .i64 0, .int .i64 0, .int .i64 0, .int .i64 0] 86))
    clear hB3 hF1 hF2 hb1 hb2
    have HF1' : Hid (Four (((w.alloc (.cells #[.slice A halls.length d, .slice B ways.length f, .int .i64 most] 69)).alloc (.cells #[.int .i64 0, .int .i64 0, .int .i64 0, .int .i64 0] 86)).alloc (.cells #[.int .i64 0, .int .i64 0, .int .i64 0, .int .i64 0] 86)) (w.heap.size + 1) (fun _ => 0)) := Lib.hid (by simpa using HF1.out)
    go_enter Try.func80, Try.ntmps80
    go_wp2
    go_loopw [19] (fun i wr => ∃ k : Nat, k ≤ ways.length ∧ i = .int .i64 k ∧ Hid (∀ j (hj : j < ways.length), j < k → inB (plc pl j) 0 ((ways[j].length : Int) + 1) = true) ∧ Box3 wr w.heap.size (.slice A halls.length d) (.slice B ways.length f) (.int .i64 most) ∧ Four wr (w.heap.size + 1) (fun _ => 0) ∧ Four wr (w.heap.size + 1 + 1) (plc (pl.take k)) ∧ Below w.heap.size w wr) (fun i _ => ways.length - (intOf i).toNat)
    case atStart => exact ⟨0, Nat.zero_le _, rfl, Lib.hid (fun j _ h => absurd h (Nat.not_lt_zero _)), HB3.out, HF1'.out, HF2.out, HB.out⟩
    case round =>
      obtain ⟨k, hk, rfl, hall, hbx, hf1, hf2, hb⟩ := hrel
      have HBX := Lib.hid hbx; have HR1 := Lib.hid hf1; have HS1 := Lib.hid hf2; have HBB := Lib.hid hb
      have hb0 := hbx.c0; have hb1 := hbx.c1; have hb2 := hbx.c2
      by_cases hkw : k < ways.length
      · have hlt : k < pl.length := by rw [HLEN.out]; exact hkw
        have hkwi : (k : Int) < (ways.length : Int) := by omega
        have hk4 : (k : Int) < 4 := by omega
        have hk4n : k < 4 := by omega
        obtain ⟨b, o, rfl, hbs, hcc⟩ := HRT.out k hlt
        have hp := (hb.cell (p := ⟨b, o + k, none⟩) hbs).trans (hcc k hlt)
        obtain ⟨bw, ow, A', c', rfl, hbsw, hcell, hrow⟩ := HAT.out k hkw
        have hpw := (hb.cell (p := ⟨bw, ow + k, none⟩) hbsw).trans hcell
        have hsc := hf2.c k hk4n
        have hsf := hf2.f k
        have HX : Hid (pl[k] = plc pl k) := Lib.hid (by simp [plc, List.getD_eq_getElem?_getD, hlt])
        rw [HX.out] at hp
        have HNO := Lib.hid (plFit_no (pl := pl) hkw)
        have HYES : Hid (inB (plc pl k) 0 ((ways[k].length : Int) + 1) = true → ∀ j (hj : j < ways.length), j < k + 1 → inB (plc pl j) 0 ((ways[j].length : Int) + 1) = true) := Lib.hid fun h j hj hjk => by
          by_cases e : j = k
          · subst e; exact h
          · exact hall.out j hj (by omega)
        have HSN := Lib.hid ((hf2.set k hk4n (plc pl k)).congr (y := plc (pl.take (k + 1))) (fun j _ => plc_take_succ pl k j))
        generalize plc pl k = x at hp HNO HYES HSN
        have hLb := hrow.le
        generalize ways[k].length = L at hpw HNO HYES hLb
        generalize plc (pl.take k) k = y at hsc
        have HG : Hid (Below (w.heap.size + 1 + 1) wr (wr.setCell ⟨w.heap.size + 1 + 1, k, none⟩ (.int .i64 x))) := Lib.hid ((Below.refl _ _).setCell (p := ⟨w.heap.size + 1 + 1, k, none⟩) (Nat.le_refl _) _)
        clear hbx hf1 hf2 hb hcc hcell hrow
        cases hin : inB x 0 ((L : Int) + 1) with
        | true =>
          have HO := Lib.hid (HYES.out hin)
          go_wp2_with fail
          refine (within_any _ _ _ _).mono ?_
          rintro e w1 ⟨rfl, rfl⟩
          rw [hin]
          clear hin
          go_wp2
          go_roundw
          case rel => exact ⟨k + 1, by omega, by go_num, HO, HBX.out.exB HG.out (by omega), HR1.out.exB HG.out (by omega), HSN.out, HBB.out.trans (HG.out.mono (by omega))⟩
          case measure => simp [intOf]; omega
        | false =>
          have HO := Lib.hid (HNO.out hin)
          go_wp2_with fail
          refine (within_any _ _ _ _).mono ?_
          rintro e w1 ⟨rfl, rfl⟩
          rw [hin]
          clear hin
          have hs0 := HS1.out.c 0 (by omega); have hs1 := HS1.out.c 1 (by omega); have hs2 := HS1.out.c 2 (by omega); have hs3 := HS1.out.c 3 (by omega)
          have hr0 := HR1.out.c 0 (by omega); have hr1 := HR1.out.c 1 (by omega); have hr2 := HR1.out.c 2 (by omega); have hr3 := HR1.out.c 3 (by omega)
          have hg0 := HR1.out.f 0; have hg1 := HR1.out.f 1; have hg2 := HR1.out.f 2; have hg3 := HR1.out.f 3
          go_wp2
          refine bodyPost_ret (v := .tuple #[.agg #[.int .i64 (plc (pl.take k) 0), .int .i64 (plc (pl.take k) 1), .int .i64 (plc (pl.take k) 2), .int .i64 (plc (pl.take k) 3)], .bool false]) (by simp [results, Try.results80, go_sem, *]) rfl ⟨⟨_, _, _, _, by rw [show plOk halls ways pl = false by unfold plOk; rw [HO.out]; simp], fun h => by rw [show plOk halls ways pl = false by unfold plOk; rw [HO.out]; simp] at h; cases h⟩, ?_⟩
          exact (((HBB.out.setCell (p := ⟨w.heap.size + 1, 0, none⟩) (by simp) _).setCell (p := ⟨w.heap.size + 1, 1, none⟩) (by simp) _).setCell (p := ⟨w.heap.size + 1, 2, none⟩) (by simp) _).setCell (p := ⟨w.heap.size + 1, 3, none⟩) (by simp) _
      · have hkn : k = ways.length := by omega
        have HFIT := Lib.hid (plFit_yes (fun j hj => hall.out j hj (by omega)))
        have HTK : Hid (∀ j, plc (pl.take k) j = plc pl j) := Lib.hid (by rw [List.take_of_length_le (by rw [HLEN.out]; omega)]; exact fun _ => rfl)
        have HS2 := Lib.hid (HS1.out.congr (y := plc pl) (fun j _ => HTK.out j))
        have hs0 := HS2.out.c 0 (by omega); have hs1 := HS2.out.c 1 (by omega); have hs2 := HS2.out.c 2 (by omega); have hs3 := HS2.out.c 3 (by omega)
        have hr0 := HR1.out.c 0 (by omega); have hr1 := HR1.out.c 1 (by omega); have hr2 := HR1.out.c 2 (by omega); have hr3 := HR1.out.c 3 (by omega)
        have hg0 := HR1.out.f 0; have hg1 := HR1.out.f 1; have hg2 := HR1.out.f 2; have hg3 := HR1.out.f 3
        have HST : Hid (plOk halls ways pl = stOk halls ways pl) := Lib.hid (by unfold plOk; rw [HFIT.out, decide_eq_true HLEN.out]; simp)
        have HI2 := HIS
        unfold stV at HI2
        subst hkn
        have HBD : Hid (Below w.heap.size w wr.drew) := Lib.hid HBB.out.drew
        have HBS : Hid (Below w.heap.size w ((((wr.drew.setCell ⟨w.heap.size + 1, 0, none⟩ (.int .i64 (plc pl 0))).setCell ⟨w.heap.size + 1, 1, none⟩ (.int .i64 (plc pl 1))).setCell ⟨w.heap.size + 1, 2, none⟩ (.int .i64 (plc pl 2))).setCell ⟨w.heap.size + 1, 3, none⟩ (.int .i64 (plc pl 3)))) := Lib.hid ((((HBD.out.setCell (p := ⟨w.heap.size + 1, 0, none⟩) (by simp) _).setCell (p := ⟨w.heap.size + 1, 1, none⟩) (by simp) _).setCell (p := ⟨w.heap.size + 1, 2, none⟩) (by simp) _).setCell (p := ⟨w.heap.size + 1, 3, none⟩) (by simp) _)
        have HKA : Hid (∀ W', Below wr.drew.heap.size wr.drew W' → W'.cell? ⟨w.heap.size + 1 + 1, 0, none⟩ = some (.int .i64 (plc pl 0)) ∧ W'.cell? ⟨w.heap.size + 1 + 1, 1, none⟩ = some (.int .i64 (plc pl 1)) ∧ W'.cell? ⟨w.heap.size + 1 + 1, 2, none⟩ = some (.int .i64 (plc pl 2)) ∧ W'.cell? ⟨w.heap.size + 1 + 1, 3, none⟩ = some (.int .i64 (plc pl 3)) ∧ W'.cell? ⟨w.heap.size + 1, 0, none⟩ = some (.int .i64 0) ∧ W'.cell? ⟨w.heap.size + 1, 1, none⟩ = some (.int .i64 0) ∧ W'.cell? ⟨w.heap.size + 1, 2, none⟩ = some (.int .i64 0) ∧ W'.cell? ⟨w.heap.size + 1, 3, none⟩ = some (.int .i64 0) ∧ W'.frozen? ⟨w.heap.size + 1, 0, none⟩ = false ∧ W'.frozen? ⟨w.heap.size + 1, 1, none⟩ = false ∧ W'.frozen? ⟨w.heap.size + 1, 2, none⟩ = false ∧ W'.frozen? ⟨w.heap.size + 1, 3, none⟩ = false) := Lib.hid fun W' hW => by
          have f2 := HS2.out.exB (((Below.refl wr.heap.size wr).drew).trans hW) HS2.out.lt
          have f1 := HR1.out.exB (((Below.refl wr.heap.size wr).drew).trans hW) HR1.out.lt
          exact ⟨f2.c 0 (by omega), f2.c 1 (by omega), f2.c 2 (by omega), f2.c 3 (by omega), f1.c 0 (by omega), f1.c 1 (by omega), f1.c 2 (by omega), f1.c 3 (by omega), f1.f 0, f1.f 1, f1.f 2, f1.f 3⟩
        have HKB : Hid (∀ W', Below (((((wr.drew.setCell ⟨w.heap.size + 1, 0, none⟩ (.int .i64 (plc pl 0))).setCell ⟨w.heap.size + 1, 1, none⟩ (.int .i64 (plc pl 1))).setCell ⟨w.heap.size + 1, 2, none⟩ (.int .i64 (plc pl 2))).setCell ⟨w.heap.size + 1, 3, none⟩ (.int .i64 (plc pl 3)))).heap.size ((((wr.drew.setCell ⟨w.heap.size + 1, 0, none⟩ (.int .i64 (plc pl 0))).setCell ⟨w.heap.size + 1, 1, none⟩ (.int .i64 (plc pl 1))).setCell ⟨w.heap.size + 1, 2, none⟩ (.int .i64 (plc pl 2))).setCell ⟨w.heap.size + 1, 3, none⟩ (.int .i64 (plc pl 3))) W' → W'.cell? ⟨w.heap.size + 1, 0, none⟩ = some (.int .i64 (plc pl 0)) ∧ W'.cell? ⟨w.heap.size + 1, 1, none⟩ = some (.int .i64 (plc pl 1)) ∧ W'.cell? ⟨w.heap.size + 1, 2, none⟩ = some (.int .i64 (plc pl 2)) ∧ W'.cell? ⟨w.heap.size + 1, 3, none⟩ = some (.int .i64 (plc pl 3))) := Lib.hid fun W' hW => by
          have g0 := HR1.out.exB ((Below.refl wr.heap.size wr).drew) HR1.out.lt
          have g1 := (((g0.set 0 (by omega) (plc pl 0)).set 1 (by omega) (plc pl 1)).set 2 (by omega) (plc pl 2)).set 3 (by omega) (plc pl 3)
          have g2 := g1.exB hW g1.lt
          exact ⟨g2.c 0 (by omega), g2.c 1 (by omega), g2.c 2 (by omega), g2.c 3 (by omega)⟩
        clear hbx hf1 hf2 hb HTK HS1 HIS
        go_wp2
        go_region_with (first
          | (go_at_call 102; refine (HI2.out _ HBD.out).mono ?_; rintro e w2 ⟨rfl, hb2⟩; obtain ⟨k0, k1, k2, k3, l0, l1, l2, l3, m0, m1, m2, m3⟩ := HKA.out _ hb2)
          | (go_at_call 102; refine (HI2.out _ HBS.out).mono ?_; rintro e w2 ⟨rfl, hb2⟩; obtain ⟨l0, l1, l2, l3⟩ := HKB.out _ hb2))
        all_goals
          have HB2 := Lib.hid (below_next0 HBD.out hb2)
          clear hb2
          go_wp2
          refine bodyPost_ret (v := .tuple #[.agg #[.int .i64 (plc pl 0), .int .i64 (plc pl 1), .int .i64 (plc pl 2), .int .i64 (plc pl 3)], .bool (stOk halls ways pl)]) (by simp [results, Try.results80, go_sem, *]) rfl ⟨⟨_, _, _, _, by rw [HST.out], fun _ => rfl⟩, ?_⟩
          exact (((HB2.out.setCell (p := ⟨w.heap.size + 1, 0, none⟩) (by simp) _).setCell (p := ⟨w.heap.size + 1, 1, none⟩) (by simp) _).setCell (p := ⟨w.heap.size + 1, 2, none⟩) (by simp) _).setCell (p := ⟨w.heap.size + 1, 3, none⟩) (by simp) _
  · have hli : ((pl.length : Int) != (ways.length : Int)) = true := by simp; omega
    have HF : Hid (plOk halls ways pl = false) := Lib.hid (by unfold plOk; rw [decide_eq_false hlen]; simp)
    have HB := Lib.hid (((below_alloc2 w (.cells #[.slice A halls.length d, .slice B ways.length f, .int .i64 most] 69) (.cells #[.int .i64 0, .int .i64 0, .int .i64 0, .int .i64 0] 86))).alloc (by simp; omega) (.cells #[.int .i64 0, .int .i64 0, .int .i64 0, .int .i64 0] 86))
    clear hlen
    go_enter Try.func80, Try.ntmps80
    go_wp2
    refine bodyPost_ret (v := .tuple #[.agg #[.int .i64 0, .int .i64 0, .int .i64 0, .int .i64 0], .bool false]) (by simp [results, Try.results80, go_sem, *]) rfl ⟨⟨_, _, _, _, by rw [HF.out], fun h => by rw [HF.out] at h; cases h⟩, ?_⟩
    exact HB.out
end Go.Proofs.Ytegabdhmfemgkaa
