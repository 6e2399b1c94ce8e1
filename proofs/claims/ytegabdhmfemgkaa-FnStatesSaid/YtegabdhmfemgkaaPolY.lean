/-
The first deadlock that the program finds: the walk. Condition: the slices read as lists; valid halls and ways.
-/
import Derived.Test.YtegabdhmfemgkaaPolX
namespace Go.Proofs.Ytegabdhmfemgkaa
open Go.RowKit
set_option linter.unusedVariables false
set_option linter.unusedSimpArgs false

theorem find_at {α : Type} {p : α → Bool} {l : List α} {k : Nat} (hk : k < l.length) (h : ∀ j, (hj : j < l.length) → j < k → p l[j] = false) (hp : p l[k] = true) : l.find? p = some l[k] := by
  induction l generalizing k with
  | nil => simp at hk
  | cons a l ih =>
    cases k with
    | zero => simp at hp; simp [hp]
    | succ k =>
      have h0 := h 0 (by simp) (by omega)
      simp at h0
      rw [List.find?_cons_of_neg (by simp [h0])]
      exact ih (by simpa using hk) (fun j hj hjk => by have := h (j + 1) (by simpa using hj) (by omega); simpa using this) (by simpa using hp)
theorem find_none {α : Type} {p : α → Bool} {l : List α} (h : ∀ j, (hj : j < l.length) → p l[j] = false) : l.find? p = none := by
  rw [List.find?_eq_none]
  intro x hx
  obtain ⟨j, hj, rfl⟩ := List.mem_iff_getElem.1 hx
  simp [h j hj]
def deadP (halls : List Int) (ways : List (List Int)) (most : Int) : List Int := ((firstDead halls ways most).map Prod.snd).getD []
theorem keepY {w0 w1 w2 : World} {g g4 : Nat} {x y m a b c d : Value}
    (h : w1.cell? ⟨g, 0, none⟩ = some x ∧ w1.cell? ⟨g, 1, none⟩ = some y ∧ w1.cell? ⟨g, 2, none⟩ = some m ∧ w1.cell? ⟨g4, 0, none⟩ = some a ∧ w1.cell? ⟨g4, 1, none⟩ = some b ∧ w1.cell? ⟨g4, 2, none⟩ = some c ∧ w1.cell? ⟨g4, 3, none⟩ = some d ∧ Below w0.heap.size w0 w1)
    (hg : Below w1.heap.size w1 w2) :
    w2.cell? ⟨g, 0, none⟩ = some x ∧ w2.cell? ⟨g, 1, none⟩ = some y ∧ w2.cell? ⟨g, 2, none⟩ = some m ∧ w2.cell? ⟨g4, 0, none⟩ = some a ∧ w2.cell? ⟨g4, 1, none⟩ = some b ∧ w2.cell? ⟨g4, 2, none⟩ = some c ∧ w2.cell? ⟨g4, 3, none⟩ = some d ∧ Below w0.heap.size w0 w2 := by
  obtain ⟨h1, h2, h3, h4, h5, h6, h7, h8⟩ := h
  have l1 : g < w1.heap.size := World.block_lt_of_cell? _ _ h1
  have l2 : g4 < w1.heap.size := World.block_lt_of_cell? _ _ h4
  exact ⟨(hg.cell l1).trans h1, (hg.cell l1).trans h2, (hg.cell l1).trans h3, (hg.cell l2).trans h4, (hg.cell l2).trans h5, (hg.cell l2).trans h6, (hg.cell l2).trans h7, below_next0 h8 hg⟩
theorem reach_good {halls : List Int} {ways : List (List Int)} (most : Int) : ∀ q ∈ reachT halls ways most, Good (lensW ways) q.1 := by
  have h9 := bfs_ok (mvOk_moves (halls := halls) (ways := ways) (most := most)) 2401
  rw [lensW_len] at h9
  exact h9.good
theorem reach_len {halls : List Int} {ways : List (List Int)} (most : Int) (ht : travOk halls ways = true) : (reachT halls ways most).length ≤ 2401 := by
  have h9 := bfs_ok (mvOk_moves (halls := halls) (ways := ways) (most := most)) 2401
  rw [lensW_len] at h9
  exact h9.len (lens5 ht) (lens4 ht)

theorem stRow_cell {W : World} {lo n c i : Nat} {A4 : Option Addr} {sts : List (List Int)} (h : Ow W lo 86 4 (.slice A4 n c) n (sts.flatMap stC)) (hi : i < sts.length) : ∃ g4, A4 = some ⟨g4, 0, none⟩ ∧ g4 < W.heap.size ∧ ∀ j, j < 4 → W.cell? ⟨g4, i * 4 + j, none⟩ = some (.int .i64 (plc sts[i] j)) := by
  have hlen := h.len
  rw [flat_len stC 4 stC_len] at hlen
  have hn : sts.length = n := by omega
  rcases Ow.form h with ⟨_, h0, _⟩ | ⟨g, c, hA, _, hg, hl⟩
  · omega
  injection hA with hA hn9 hc
  subst hA hc
  refine ⟨g, rfl, hg, fun j hj => ?_⟩
  have hfl := flat_len stC 4 stC_len sts
  have h1 := Ow.cell h (k := i * 4 + j) (by rw [hfl]; omega)
  rw [h1]
  have h2 := flat_get stC 4 stC_len sts i hi j hj
  rw [stC_get _ hj, List.getElem?_eq_getElem (by rw [hfl]; omega)] at h2
  exact h2
set_option maxRecDepth 100000 in
set_option maxHeartbeats 8000000 in
theorem deadlock_any (v u : Value) (halls : List Int) (ways : List (List Int)) (most : Int) (w : World) (hv : SlI w v halls) (hu : SlII w u ways) (ht : travOk halls ways = true) :
    Calls Try.prog 64 #[.agg #[v, u, .int .i64 most]] w fun e w' => ∃ A c, e = .returned (.tuple #[.slice A (deadP halls ways most).length c, .bool (firstDead halls ways most).isSome]) ∧ OwI w' w.heap.size (.slice A (deadP halls ways most).length c) (deadP halls ways most) ∧ Below w.heap.size w w' := by
  have HV := Lib.hid hv; have HU := Lib.hid hu; have HTR := Lib.hid ht
  obtain ⟨_, _, h4, hway⟩ := travOk_at ht
  obtain ⟨A, d, rfl, hla, ha⟩ := hv.op
  obtain ⟨B, e, rfl, hlb, hat⟩ := hu.op
  clear hv hu ha hat
  have HGA := Lib.hid (reach_good (halls := halls) (ways := ways) most)
  have hrl := reach_len most ht
  have HFD : Hid (firstDead halls ways most = (reachT halls ways most).find? fun q => isDead halls ways most q.1) := Lib.hid rfl
  have HRE := Lib.hid (fun (W : World) (hW : Below w.heap.size w W) => reached_any _ _ halls ways most W (HV.out.ex hW) (HU.out.ex hW) ht)
  have HAD := Lib.hid (fun (s : List Int) (W : World) (hW : Below w.heap.size w W) => allDone_any _ _ halls ways most s W (HV.out.ex hW) (HU.out.ex hW) h4)
  have HMV : Hid (∀ (s : List Int), Good (lensW ways) s → ∀ W, Below w.heap.size w W → Calls Try.prog 83 #[.agg #[.slice A halls.length d, .slice B ways.length e, .int .i64 most], stV s] W fun e w' => ∃ A c, e = .returned (.slice A (movesL halls ways most s).length c) ∧ OwN w' W.heap.size (.slice A (movesL halls ways most s).length c) (movesL halls ways most s) ∧ Below W.heap.size W w') := Lib.hid fun s hs W hW => moves_any _ _ halls ways s most W (HV.out.ex hW) (HU.out.ex hW) hs.at_.1 ht (fun k hk => by
    have h1 := hs.at_.2 k hk; have := (wayOk_at (hway _ (List.getElem_mem hk))).1; omega)
  have HB0 := Lib.hid (below_alloc w (.cells #[.slice A halls.length d, .slice B ways.length e, .int .i64 most] 69))
  have HBX := Lib.hid (Box3.new w (.slice A halls.length d) (.slice B ways.length e) (.int .i64 most) 69)
  generalize reachT halls ways most = acc at HGA hrl HFD HRE
  clear hway ht
  go_enter Try.func64, Try.ntmps64
  go_wp2_with fail
  refine (HRE.out _ HB0.out).mono ?_
  rintro e1 w1 ⟨A4, A5, c4, c5, us, rfl, hst, hul, hli, hrows, hb1⟩
  have HB1 := Lib.hid (below_next0 HB0.out hb1)
  have HST := Lib.hid hst; have HUL := Lib.hid hul; have HLI := Lib.hid hli; have HRW := Lib.hid hrows; have HBB := Lib.hid (HBX.out.exB hb1 (by simp))
  clear hst hul hli hrows hb1
  go_wp2
  go_loopw [15] (fun j wr => ∃ k : Nat, j = .int .i64 k ∧ k ≤ acc.length ∧ Hid (∀ i, (hi : i < acc.length) → i < k → isDead halls ways most acc[i].1 = false) ∧ Hid (Below w1.heap.size w1 wr)) (fun j _ => acc.length - (intOf j).toNat)
  case atStart => exact ⟨0, rfl, Nat.zero_le _, Lib.hid (fun i _ h => by omega), Lib.hid (Below.refl _ _)⟩
  case round =>
    obtain ⟨k, rfl, hk, HPRE, HBR⟩ := hrel
    by_cases hlt : k < acc.length
    · have hki : (k : Int) < (acc.length : Int) := by omega
      obtain ⟨s, path, hsp⟩ : ∃ s path, acc[k] = (s, path) := ⟨_, _, rfl⟩
      have HSP := Lib.hid hsp
      have HGD : Hid (Good (lensW ways) s) := Lib.hid (by have h9 := HGA.out _ (List.getElem_mem hlt); rwa [hsp] at h9)
      obtain ⟨ga, rfl, _, hcell⟩ := stRow_cell (HST.out.ex HBR.out) (i := k) (by simpa using hlt)
      rw [List.getElem_map, hsp] at hcell
      have hs0 := hcell 0 (by omega); have hs1 := hcell 1 (by omega); have hs2 := hcell 2 (by omega); have hs3 := hcell 3 (by omega)
      simp only [Nat.add_zero] at hs0
      clear hcell hsp
      have HB2 := Lib.hid (below_alloc wr (.cells #[.int .i64 (plc s 0), .int .i64 (plc s 1), .int .i64 (plc s 2), .int .i64 (plc s 3)] 86))
      have HBW := Lib.hid (below_next0 HBR.out HB2.out)
      have HBY := Lib.hid (HBB.out.exB HBW.out HBB.out.lt)
      have HBA := Lib.hid (below_next HB1.out HB1.out.size HBW.out)
      have HCJ : Hid (_ ∧ _ ∧ _ ∧ _ ∧ _ ∧ _ ∧ _ ∧ _) := Lib.hid (keepY (w0 := wr.alloc (.cells #[.int .i64 (plc s 0), .int .i64 (plc s 1), .int .i64 (plc s 2), .int .i64 (plc s 3)] 86)) (w1 := wr.alloc (.cells #[.int .i64 (plc s 0), .int .i64 (plc s 1), .int .i64 (plc s 2), .int .i64 (plc s 3)] 86)) (g := w.heap.size) (g4 := wr.heap.size) (a := .int .i64 (plc s 0)) (b := .int .i64 (plc s 1)) (c := .int .i64 (plc s 2)) (d := .int .i64 (plc s 3)) ⟨HBY.out.c0, HBY.out.c1, HBY.out.c2, by simp, by simp, by simp, by simp, Below.refl _ _⟩ (Below.refl _ _))
      have HND : Hid (∀ W, Below (wr.alloc (.cells #[.int .i64 (plc s 0), .int .i64 (plc s 1), .int .i64 (plc s 2), .int .i64 (plc s 3)] 86)).heap.size (wr.alloc (.cells #[.int .i64 (plc s 0), .int .i64 (plc s 1), .int .i64 (plc s 2), .int .i64 (plc s 3)] 86)) W → Below w.heap.size w W ∧ Below w1.heap.size w1 W) := Lib.hid (fun W hW => ⟨below_next0 HBA.out hW, below_next0 HBW.out hW⟩)
      have hHB := HBY.out
      obtain ⟨_, hc0, hc1, hc2⟩ := hHB
      have hAD := HAD.out s _ HBA.out
      unfold stV at hAD
      cases hd : doneS ways s with
      | true =>
        have HDT : Hid (isDead halls ways most s = false) := Lib.hid (by unfold isDead; rw [hd]; rfl)
        rw [hd] at hAD
        have HADT := Lib.hid hAD
        clear hAD hd
        go_wp2_with fail
        refine HADT.out.mono ?_
        rintro eD wD ⟨rfl, hbD⟩
        have HBD := Lib.hid (below_next0 HBW.out hbD)
        clear hbD
        go_wp2
        go_roundw
        case rel => exact ⟨k + 1, by go_num, by omega, Lib.hid (fun i hi hik => by
          by_cases e : i < k
          · exact HPRE.out i hi e
          · obtain rfl : i = k := by omega
            rw [HSP.out]; exact HDT.out), HBD⟩
        case measure => simp [intOf]; omega
      | false =>
        rw [hd] at hAD
        have HADT := Lib.hid hAD
        have HDD := Lib.hid hd
        clear hAD hd
        go_wp2_with fail
        refine HADT.out.mono ?_
        rintro eD wD ⟨rfl, hbD⟩
        have HBD := Lib.hid (below_next0 HBW.out hbD)
        have HBE := Lib.hid (below_next0 HBA.out hbD)
        obtain ⟨hd0, hd1, hd2, hd3, hd4, hd5, hd6, _⟩ := keepY HCJ.out hbD
        have hMV := HMV.out s HGD.out _ HBE.out
        unfold stV at hMV
        obtain ⟨ml, hml⟩ : ∃ ml, (movesL halls ways most s).length = ml := ⟨_, rfl⟩
        rw [hml] at hMV
        have HMVD := Lib.hid (hMV.mono (R' := fun e w' => ∃ A c, e = .returned (.slice A ml c) ∧ Below wD.heap.size wD w') (by rintro e w' ⟨A, c, h1, _, h2⟩; exact ⟨A, c, h1, h2⟩))
        have HML := Lib.hid hml
        have hkv : k < us.length := by rw [HUL.out]; omega
        have HOK9 : Hid (OwI w1 w.heap.size us[k] path) := Lib.hid (by
          have h9 := HRW.out k hkv (by simpa using hlt)
          have e9 : (acc.map Prod.snd)[k]'(by simpa using hlt) = path := by rw [List.getElem_map, HSP.out]
          rw [e9] at h9; exact OwI.mono h9 (by simp))
        obtain ⟨A9, c9, h9⟩ : ∃ A9 c9, us[k] = .slice A9 path.length c9 := by
          rcases Ow.form HOK9.out with ⟨h1, h2, _⟩ | ⟨g, c, h1, _⟩
          · exact ⟨none, 0, by rw [h1, h2]⟩
          · exact ⟨_, _, h1⟩
        rcases Ow.form HLI.out with ⟨_, h0, _⟩ | ⟨g5, c8, hA8, _, _, _⟩
        · omega
        injection hA8 with hA8 hn8 hc8
        clear hn8
        subst hA8 hc8
        have HLC : Hid (∀ W, Below w1.heap.size w1 W → W.cell? ⟨g5, k, none⟩ = some (.slice A9 path.length c9)) := Lib.hid (fun W hW => by rw [← h9]; exact Ow.cell (HLI.out.ex hW) hkv)
        rw [h9] at HOK9
        clear hbD hMV hml h9 hkv hc0 hc1 hc2 hs0 hs1 hs2 hs3
        by_cases hz : ml = 0
        · have HZ := Lib.hid (HML.out.trans hz)
          subst hz
          have HFK : Hid (firstDead halls ways most = some (s, path)) := Lib.hid (by
            rw [HFD.out, ← HSP.out]
            refine find_at hlt HPRE.out ?_
            rw [HSP.out]; unfold isDead; rw [HDD.out, HZ.out]; rfl)
          have HDP : Hid (deadP halls ways most = path) := Lib.hid (by unfold deadP; rw [HFK.out]; rfl)
          go_wp2_with fail
          refine HMVD.out.mono ?_
          rintro eM wM ⟨Am, cm, rfl, hbM⟩
          have HBM := Lib.hid (below_next0 HBD.out hbM)
          have hl := HLC.out _ HBM.out
          clear hbM
          go_wp2
          go_ret2
          rw [HDP.out, HFK.out]
          exact ⟨A9, c9, rfl, HOK9.out.ex HBM.out, below_next HB1.out HB1.out.size HBM.out⟩
        · have hzi : ¬ ((ml : Int) = 0) := by omega
          have HDT : Hid (isDead halls ways most s = false) := Lib.hid (by unfold isDead; rw [HML.out, decide_eq_false hz, Bool.and_false])
          go_wp2_with fail
          refine HMVD.out.mono ?_
          rintro eM wM ⟨Am, cm, rfl, hbM⟩
          have HBM := Lib.hid (below_next0 HBD.out hbM)
          clear hbM hd0 hd1 hd2 hd3 hd4 hd5 hd6
          have hzd : decide ((ml : Int) = 0) = false := decide_eq_false hzi
          have hzn : decide (ml = 0) = false := decide_eq_false hz
          have hzb : ((ml : Int) == 0) = false := by simpa using hz
          go_wp2
          go_roundw
          case rel => exact ⟨k + 1, by go_num, by omega, Lib.hid (fun i hi hik => by
            by_cases e : i < k
            · exact HPRE.out i hi e
            · obtain rfl : i = k := by omega
              rw [HSP.out]; exact HDT.out), HBM⟩
          case measure => simp [intOf]; omega
    · have hki : ¬ ((k : Int) < (acc.length : Int)) := by omega
      have HN : Hid (firstDead halls ways most = none) := Lib.hid (by rw [HFD.out]; exact find_none (fun j hj => HPRE.out j hj (by omega)))
      have HDP : Hid (deadP halls ways most = []) := Lib.hid (by unfold deadP; rw [HN.out]; rfl)
      go_wp2
      go_ret2
      rw [HDP.out, HN.out]
      exact ⟨none, 0, rfl, ⟨World.ownsRow_nil _ _ _ _, by simp⟩, below_next HB1.out HB1.out.size HBR.out⟩
end Go.Proofs.Ytegabdhmfemgkaa
