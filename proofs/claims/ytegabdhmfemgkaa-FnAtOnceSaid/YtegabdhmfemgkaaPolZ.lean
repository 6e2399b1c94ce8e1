/-
All states that the reference reaches, with what was before each, and by which move: the walk. Condition: the slices read as lists; valid halls and ways.
-/
import Derived.Test.YtegabdhmfemgkaaAllS
import Derived.Test.YtegabdhmfemgkaaSrc
import Derived.Test.YtegabdhmfemgkaaPolW
import Derived.Deep.RegionHeld3
import Derived.Deep.CutRange
namespace Go.Proofs.Ytegabdhmfemgkaa
open Go.RowKit
set_option linter.unusedVariables false
set_option linter.unusedSimpArgs false

/-- what the reference's search leaves -/
def AllP (halls : List Int) (ways : List (List Int)) (most : Int) (w : World) (e : Ending) (w' : World) : Prop :=
  ∃ (A9 A10 A11 : Option Addr) (c9 c10 c11 : Nat) (us : List Value) (bf mv : List Int), e = .returned (.tuple #[.slice A9 (reachT halls ways most).length c9, .slice A10 (reachT halls ways most).length c10, .slice A11 (reachT halls ways most).length c11]) ∧
    Ow w' w.heap.size 31 1 (.slice A9 (reachT halls ways most).length c9) (reachT halls ways most).length us ∧ RowsZ w' w.heap.size us ((reachT halls ways most).map Prod.fst) ∧
    Ow w' w.heap.size 3 1 (.slice A10 (reachT halls ways most).length c10) (reachT halls ways most).length (bf.map (Value.int .i64)) ∧
    Ow w' w.heap.size 2 1 (.slice A11 (reachT halls ways most).length c11) (reachT halls ways most).length (mv.map (Value.int .i64)) ∧ Lnk (reachT halls ways most) bf mv ∧ Below w.heap.size w w'

set_option maxRecDepth 100000 in
set_option maxHeartbeats 8000000 in
theorem l12All_any (v u : Value) (halls : List Int) (ways : List (List Int)) (most : Int) (w : World) (hv : SlI w v halls) (hu : SlII w u ways) (ht : travOk halls ways = true) :
    Calls Try.prog 66 #[v, u, .int .i64 most] w (AllP halls ways most w) := by
  have HV := Lib.hid hv; have HU := Lib.hid hu; have HTR := Lib.hid ht
  obtain ⟨_, _, h4, hway⟩ := travOk_at ht
  have H5 := Lib.hid (lens5 ht); have H4 := Lib.hid (lens4 ht)
  have HP6 : Hid (∀ s, Good (lensW ways) s → ∀ k, k < ways.length → 0 ≤ plc s k ∧ plc s k ≤ 6) := Lib.hid fun s hs k hk => by
    have h1 := hs.at_.2 k hk
    have h2 := (wayOk_at (hway _ (List.getElem_mem hk))).1
    omega
  have HMO : Hid (∀ (s : List Int), Good (lensW ways) s → ∀ (r : Value) (W : World), SlI W r s → Below w.heap.size w W → _) := Lib.hid fun s hs r W h hW => l12Moves_any v u r halls ways s most W (hv.ex hW) (hu.ex hW) h hs.at_.1 ht (fun k hk => (HP6.out s hs k hk).1)
  have HNE : Hid (∀ (s : List Int), Good (lensW ways) s → ∀ (r : Value) (k : Nat), k < ways.length → ∀ W, SlI W r s → _) := Lib.hid fun s hs r k hk W h => l12Next_any r s k W h (by rw [hs.at_.1]; exact hk) (by rw [hs.at_.1]; omega) ⟨(HP6.out s hs k hk).1, by have := (HP6.out s hs k hk).2; omega⟩
  have HNU : Hid (∀ (s : List Int), Good (lensW ways) s → ∀ (r : Value) (W : World), SlI W r s → _) := Lib.hid fun s hs r W h => l12Number_any r s W h (fun k hk => HP6.out s hs k (by rw [← hs.at_.1]; exact hk)) (by rw [hs.at_.1]; omega)
  have HOK : Hid (∀ i, AccOk (lensW ways) (bfs (movesL halls ways most) (zeroS ways.length) i)) := Lib.hid fun i => by
    have h9 := bfs_ok (mvOk_moves (halls := halls) (ways := ways) (most := most)) i; rwa [lensW_len] at h9
  have HEND : Hid (∀ i, (bfs (movesL halls ways most) (zeroS ways.length) i).length = i → bfs (movesL halls ways most) (zeroS ways.length) i = reachT halls ways most) := Lib.hid fun i hi => by
    have h9 := bfs_end (mvOk_moves (halls := halls) (ways := ways) (most := most)) H5.out H4.out (i := i)
    rw [lensW_len] at h9; exact h9 hi
  have HSZ : Hid (SeenOk (lensW ways) [(zeroS ways.length, [])] ((List.replicate 2401 false).set 0 true)) := Lib.hid (by have h9 := SeenOk.zero H5.out H4.out; rwa [lensW_len] at h9)
  have HML4 : Hid (∀ s, (movesL halls ways most s).length ≤ 4) := Lib.hid fun s => by
    unfold movesL movesK; rw [List.length_map]; exact Nat.le_trans (List.length_filter_le _ _) (by simpa using h4)
  have HZR : Hid (List.replicate ways.length (Value.int .i64 0) = (zeroS ways.length).map (Value.int .i64)) := Lib.hid (by unfold zeroS; rw [List.map_replicate])
  obtain ⟨A, d, rfl, hla, ha⟩ := hv.op
  obtain ⟨B, e, rfl, hlb, hat⟩ := hu.op
  clear hv hu ha hat ht hway
  go_enter Try.func66, Try.ntmps66
  go_upto_region 4 with (first | (at_make; refine wpList_make1 w rfl (.tmp 18) (.tmp 18) _ rfl w.heap.size 2 (.int .i64 0) 8 Try.underlying31 infoI64 rfl .i64 .i64 ways.length ?_ ?_ (by omega) (by omega) (Nat.le_refl _) ?_; rfl; rfl; intro w1 hown1 hb1 hsz1) | fail)
  have HO1 : Hid (OwI w1 w.heap.size (.slice (some ⟨w.heap.size, 0, none⟩) ways.length ways.length) (zeroS ways.length)) := Lib.hid (by unfold OwI; rw [← HZR.out, show (zeroS ways.length).length = ways.length by simp [zeroS]]; exact hown1)
  have HB1 := Lib.hid hb1
  have HA4 : Hid (∀ W5, Below (((w1.alloc (.cells #[.slice (some ⟨w.heap.size, 0, none⟩) ways.length ways.length] 31)).alloc (.cells #[.int .i64 (-1)] 3)).alloc (.cells #[.int .i64 (-1)] 2)).heap.size (((w1.alloc (.cells #[.slice (some ⟨w.heap.size, 0, none⟩) ways.length ways.length] 31)).alloc (.cells #[.int .i64 (-1)] 3)).alloc (.cells #[.int .i64 (-1)] 2)) W5 →
      Ow W5 w.heap.size 4 1 (.slice (some ⟨w1.heap.size + 1 + 1 + 1, 0, none⟩) 2401 2401) 2401 (List.replicate 2401 (.bool false)) →
      AllS w (.slice (some ⟨w1.heap.size, 0, none⟩) 1 1) 1 [.slice (some ⟨w.heap.size, 0, none⟩) ways.length ways.length] [zeroS ways.length] (.slice (some ⟨w1.heap.size + 1, 0, none⟩) 1 1) 1 [-1] (.slice (some ⟨w1.heap.size + 1 + 1, 0, none⟩) 1 1) 1 [-1] (w1.heap.size + 1 + 1 + 1) (List.replicate 2401 false) W5) := Lib.hid fun W5 hb5 ho5 => by
    have hlo := hb1.size
    refine ⟨?_, ?_, ?_, ?_, ?_, ?_, ?_⟩
    · exact (((Ow.lay w1 (lo := w.heap.size) (sz := 1) 31 #[.slice (some ⟨w.heap.size, 0, none⟩) ways.length ways.length] 1 hlo (by omega) rfl).alloc _).alloc _).ex hb5
    · intro i h1 h2
      obtain rfl : i = 0 := by simp at h1; exact h1
      exact (HO1.out.ex (below_next0 (below_next0 (below_alloc w1 _) (below_alloc _ _)) (below_alloc _ _))).ex hb5
    · intro i h1 h2
      obtain rfl : i = 0 := by simp at h1; exact h1
      exact .inr (by simp [Value.ownBlock]; omega)
    · have h9 := ((Ow.lay (w1.alloc (.cells #[.slice (some ⟨w.heap.size, 0, none⟩) ways.length ways.length] 31)) (lo := w.heap.size) (sz := 1) 3 #[.int .i64 (-1)] 1 (by simp; omega) (by omega) rfl).alloc (.cells #[.int .i64 (-1)] 2)).ex hb5
      simpa using h9
    · have h9 := (Ow.lay ((w1.alloc (.cells #[.slice (some ⟨w.heap.size, 0, none⟩) ways.length ways.length] 31)).alloc (.cells #[.int .i64 (-1)] 3)) (lo := w.heap.size) (sz := 1) 2 #[.int .i64 (-1)] 1 (by simp; omega) (by omega) rfl).ex hb5
      simpa using h9
    · rw [List.map_replicate]; exact ho5
    · exact below_next0 HB1.out (below_next0 (below_next0 (below_next0 (below_alloc w1 _) (below_alloc _ _)) (below_alloc _ _)) hb5)
  clear hown1 hb1
  go_wp2_with (first | (at_make; refine wpList_make1 _ rfl (.const (.int .i64 2401)) (.const (.int .i64 2401)) _ rfl w.heap.size 4 (.bool false) 1 Try.underlying109 infoB rfl .i64 .i64 2401 ?_ ?_ (by omega) (by omega) (by have h9 := HB1.out.size; simp; omega) ?_; rfl; rfl; intro w5 hown5 hb5 hsz5; have HA5 := Lib.hid (HA4.out w5 hb5 (by simpa using hown5)); have hc5 := Ow.cell HA5.out.se (k := 0) (by simp); have hf5 := Ow.free HA5.out.se 0; rw [List.getElem_map, List.getElem_replicate] at hc5; clear hown5 hb5) | fail)
  have HA6 := Lib.hid (HA5.out.see 0)
  clear hc5 hf5 HA5 HA4 HO1 hsz1 hsz5
  go_wp2
  go_loopw [9, 10, 11, 13] (fun v9 v10 v11 i wr => ∃ (k c9 c10 c11 : Nat) (A9 A10 A11 : Option Addr) (acc : Rch) (us : List Value) (bf mv : List Int) (bs : List Bool), v9 = .slice A9 acc.length c9 ∧ v10 = .slice A10 acc.length c10 ∧ v11 = .slice A11 acc.length c11 ∧ i = .int .i64 k ∧ k ≤ acc.length ∧
    Hid (acc = bfs (movesL halls ways most) (zeroS ways.length) k) ∧ Hid (Lnk acc bf mv) ∧ Hid (SeenOk (lensW ways) acc bs) ∧
    Hid (AllS w (.slice A9 acc.length c9) acc.length us (acc.map Prod.fst) (.slice A10 acc.length c10) acc.length bf (.slice A11 acc.length c11) acc.length mv (w1.heap.size + 1 + 1 + 1) bs wr)) (fun _ _ _ i _ => 2402 - (intOf i).toNat)
  case atStart => exact ⟨0, 1, 1, 1, _, _, _, [(zeroS ways.length, [])], _, _, _, _, rfl, rfl, rfl, rfl, by simp, Lib.hid rfl, Lib.hid (Lnk.zero _), HSZ, HA6⟩
  case round =>
    obtain ⟨k, c9, c10, c11, A9, A10, A11, acc, us, bf, mv, bs, rfl, rfl, rfl, rfl, hk, HACC, HLN, HSE, HA⟩ := hrel
    clear HA6
    have HAO : Hid (AccOk (lensW ways) acc) := Lib.hid (by rw [HACC.out]; exact HOK.out k)
    have hl24 := HAO.out.len H5.out H4.out
    have HUL : Hid (us.length = acc.length) := Lib.hid (by have h9 := HA.out.st.len; omega)
    by_cases hlt : k < acc.length
    · have hki : (k : Int) < (acc.length : Int) := by omega
      obtain ⟨s, path, hsp⟩ : ∃ s path, acc[k] = (s, path) := ⟨_, _, rfl⟩
      have HGD : Hid (Good (lensW ways) s) := Lib.hid (by have h9 := HAO.out.good _ (List.getElem_mem hlt); rwa [hsp] at h9)
      have HSP := Lib.hid hsp
      have hku : k < us.length := by rw [HUL.out]; exact hlt
      obtain ⟨g9, rfl, _, hc9⟩ := Ow.at1 HA.out.st hku
      have hrow := HA.out.rows k hku (by simpa using hlt)
      rw [List.getElem_map, hsp] at hrow
      generalize us[k] = uk at hc9 hrow
      have HM := Lib.hid (HMO.out s HGD.out uk wr hrow.sl HA.out.below)
      clear hrow hsp
      go_wp2_with fail
      refine HM.out.mono ?_
      rintro eA wA ⟨Am, cm, rfl, hM, hbA⟩
      have HDA : Hid (AllD w (.slice (some ⟨g9, 0, none⟩) acc.length c9) acc.length us (acc.map Prod.fst) (.slice A10 acc.length c10) acc.length bf (.slice A11 acc.length c11) acc.length mv (w1.heap.size + 1 + 1 + 1) bs (.slice Am (movesL halls ways most s).length cm) (movesL halls ways most s) wA) := Lib.hid ⟨HA.out.ex hbA, hM.mono HA.out.below.size, Ow.sep_new' HA.out.mo hM (Nat.le_refl _)⟩
      have HNXT : Hid (stepsN s path acc (movesL halls ways most s) = bfs (movesL halls ways most) (zeroS ways.length) (k + 1)) := Lib.hid (by
        show _ = roundN _ (bfs (movesL halls ways most) (zeroS ways.length) k) k
        rw [← HACC.out]; unfold roundN; rw [dif_pos hlt, HSP.out])
      clear hM hbA hc9
      have hml := HML4.out s
      go_wp2
      go_loopw [9, 10, 11, 15] (fun v9 v10 v11 j wi => ∃ (q c9 c10 c11 : Nat) (A9 A10 A11 : Option Addr) (ac : Rch) (us : List Value) (bf mv : List Int) (bs : List Bool), v9 = .slice A9 ac.length c9 ∧ v10 = .slice A10 ac.length c10 ∧ v11 = .slice A11 ac.length c11 ∧ j = .int .i64 q ∧ q ≤ (movesL halls ways most s).length ∧
        Hid (ac = stepsN s path acc ((movesL halls ways most s).take q)) ∧ Hid (Lnk ac bf mv) ∧ Hid (SeenOk (lensW ways) ac bs) ∧
        Hid (AllD w (.slice A9 ac.length c9) ac.length us (ac.map Prod.fst) (.slice A10 ac.length c10) ac.length bf (.slice A11 ac.length c11) ac.length mv (w1.heap.size + 1 + 1 + 1) bs (.slice Am (movesL halls ways most s).length cm) (movesL halls ways most s) wi)) (fun _ _ _ j _ => (movesL halls ways most s).length - (intOf j).toNat)
      case atStart => exact ⟨0, _, _, _, _, _, _, acc, _, _, _, _, rfl, rfl, rfl, rfl, Nat.zero_le _, Lib.hid rfl, HLN, HSE, HDA⟩
      case round =>
        obtain ⟨q, e9, e10, e11, P9, P10, P11, ac, vs, bg, mw, bt, rfl, rfl, rfl, rfl, hq, HAC, HLI, HSI, HDI⟩ := hrel
        by_cases hqt : q < (movesL halls ways most s).length
        · have hqi : (q : Int) < ((movesL halls ways most s).length : Int) := by omega
          obtain ⟨cn, hcn, hck, _⟩ := mem_moves.1 (List.getElem_mem hqt)
          have HSN : Hid (stepsN s path acc ((movesL halls ways most s).take (q + 1)) = stepN s path ac (cn : Int)) := Lib.hid (by rw [stepsN_snoc s path acc _ q hqt, ← HAC.out, hck])
          have HGN : Hid (Good (lensW ways) (nxS s (cn : Int))) := Lib.hid (good_nx mvOk_moves HGD.out (by rw [← hck]; exact List.getElem_mem hqt))
          have HPRE : Hid (acc <+: ac) := Lib.hid (by rw [HAC.out]; exact stepsN_pre _ _ _ _)
          have HAI : Hid (AccOk (lensW ways) ac) := Lib.hid (by rw [HAC.out]; exact AccOk.steps mvOk_moves HGD.out _ HAO.out (fun c hc => List.mem_of_mem_take hc))
          have hal := HAI.out.len H5.out H4.out
          have hpre := HPRE.out.length_le
          have HKQ : Hid (ac[k]'(by omega) = (s, path)) := Lib.hid (by rw [← HSP.out]; exact (HPRE.out.getElem hlt).symm)
          have HVL : Hid (vs.length = ac.length) := Lib.hid (by have h9 := HDI.out.c.st.len; omega)
          have hkv : k < vs.length := by rw [HVL.out]; omega
          obtain ⟨g9, rfl, _, hc9⟩ := Ow.at1 HDI.out.c.st hkv
          have hrow := HDI.out.c.rows k hkv (by simp; omega)
          rw [List.getElem_map, HKQ.out] at hrow
          generalize vs[k] = uk at hc9 hrow
          obtain ⟨gm, rfl, _, hcm⟩ := Ow.at1 HDI.out.m (i := q) (by simpa using hqt)
          rw [List.getElem_map, hck] at hcm
          have hki2 : (k : Int) < (ac.length : Int) := by omega
          have HNX := Lib.hid (fun W (hW : Below wr.heap.size wr W) => HNE.out s HGD.out uk cn hcn W (hrow.sl.ex hW))
          have HCK := Lib.hid hck
          clear hck
          have HCJ := Lib.hid (keepZ ⟨hc9, hcm⟩ (Below.refl wr.heap.size wr).drew)
          have hnum := HGN.out.num H5.out H4.out
          obtain ⟨N, hN⟩ := Int.eq_ofNat_of_zero_le hnum.1
          have hNl : N < 2401 := by omega
          have HNN := Lib.hid hN
          clear hrow hnum hN
          go_wp2
          go_region_held3 (fun w' => w'.cell? ⟨g9, k, none⟩ = some uk ∧ w'.cell? ⟨gm, q, none⟩ = some (.int .i64 (cn : Int))) (first | (exact keepZ (by assumption) hn7) | (exact HCJ.out)) (first | (go_at_call 88; refine (HNX.out _ (Below.refl _ _).drew).mono ?_; rintro eA wB ⟨A5, c5, rfl, ho5, hbB⟩; have hn7 := hbB))
          have HB5 := Lib.hid (below_next0 (Below.refl wr.heap.size wr).drew hbB)
          have HD5 := Lib.hid (HDI.out.ex HB5.out)
          have HO5 : Hid (OwI wB wr.drew.heap.size (.slice A5 s.length c5) (nxS s (cn : Int))) := Lib.hid ho5
          have HSP5 : Hid (Sep (.slice A5 s.length c5) (.slice P11 ac.length e11)) := Lib.hid (Ow.sep_new' HDI.out.c.mo ho5 (Nat.le_refl _))
          have HNU5 := Lib.hid (HNU.out (nxS s (cn : Int)) HGN.out (.slice A5 s.length c5) wB ho5.sl)
          have hcs := Ow.cell HD5.out.c.se (k := N) (by rw [List.length_map, HSI.out.len]; exact hNl)
          have HBT : Hid (bt[N]'(by rw [HSI.out.len]; exact hNl) = hasS ac (nxS s (cn : Int))) := Lib.hid (HSI.out.get HGN.out HNN.out _)
          rw [List.getElem_map, HBT.out] at hcs
          have hfs := Ow.free HD5.out.c.se N
          have hNi : (N : Int) < 2401 := by omega
          have HLO5 := Lib.hid HDI.out.c.below.size
          clear ho5 hbB hn7 hc9 hcm HBT HNX HCJ
          cases hh : hasS ac (nxS s (cn : Int)) with
          | true =>
            have HSE : Hid (stepsN s path acc ((movesL halls ways most s).take (q + 1)) = ac) := Lib.hid (by rw [HSN.out]; unfold stepN; rw [if_pos hh])
            rw [hh] at hcs
            clear hh
            go_wp2_with fail
            refine HNU5.out.mono ?_
            rintro eC wC ⟨rfl, rfl⟩
            rw [HNN.out]
            go_wp2
            go_roundw
            case rel => exact ⟨q + 1, e9, e10, e11, _, P10, P11, ac, vs, bg, mw, bt, rfl, rfl, rfl, by go_num, by omega, Lib.hid HSE.out.symm, HLI, HSI, HD5⟩
            case measure => simp [intOf]; omega
          | false =>
            have HSE : Hid (stepsN s path acc ((movesL halls ways most s).take (q + 1)) = ac ++ [(nxS s (cn : Int), path ++ [(cn : Int)])]) := Lib.hid (by rw [HSN.out]; unfold stepN; rw [if_neg (by rw [hh]; decide)])
            have HLK := Lib.hid (HLI.out.snoc (by omega) HKQ.out (nxS s (cn : Int)) (cn : Int))
            have HSK : Hid (SeenOk (lensW ways) (ac ++ [(nxS s (cn : Int), path ++ [(cn : Int)])]) (bt.set N true)) := Lib.hid (by
              have h9 := HSI.out.snoc H5.out H4.out HGN.out (path ++ [(cn : Int)])
              rw [HNN.out] at h9; exact h9)
            rw [hh] at hcs
            clear hh
            have HD6 := Lib.hid (HD5.out.see N)
            have HO6 : Hid (OwI (wB.setCell ⟨w1.heap.size + 1 + 1 + 1, N, none⟩ (.bool true)) w.heap.size (.slice A5 s.length c5) (nxS s (cn : Int))) := Lib.hid (OwI.keptS (u := .slice (some ⟨w1.heap.size + 1 + 1 + 1, 0, none⟩) 2401 2401) (HO5.out.mono HLO5.out) (Ow.grow (k := N) HD5.out.c.se (.bool true)) (Ow.sep_type HO5.out HD5.out.c.se (by decide)))
            go_wp2_with fail
            refine HNU5.out.mono ?_
            rintro eC wC ⟨rfl, rfl⟩
            rw [HNN.out]
            go_wp2_with fail
            refine HNU5.out.mono ?_
            rintro eC wC ⟨rfl, rfl⟩
            rw [HNN.out]
            go_upto_region 16 with fail
            refine wp_gen (fun W6 hW6 => ?_)
            rw [← hW6] at HD6 HO6
            clear hW6 hcs hfs HNU5 HO5 HD5 HB5
            have HLO6 := Lib.hid HD6.out.c.below.size
            obtain ⟨gm2, hgm, _, hcm6⟩ := Ow.at1 HD6.out.m (i := q) (by simpa using hqt)
            injection hgm with hgm; injection hgm with hgm; subst hgm
            have HCM : Hid ((movesL halls ways most s)[q] = (cn : Int)) := Lib.hid HCK.out
            clear hcm6
            have HARMM : Hid (∀ W : World, OwI W w.heap.size (.slice (some ⟨gm, 0, none⟩) (movesL halls ways most s).length cm) (movesL halls ways most s) → W.cell? ⟨gm, q, none⟩ = some (.int .i64 (cn : Int))) := Lib.hid fun W h => by
              have h9 := OwI.cell h hqt
              rwa [HCM.out] at h9
            go_wp2_with (first | (at_builtin; refine wpList_app W6 rfl (.tmp 65) (.tmp 67) 32 rfl w.heap.size 31 (.slice none 0 0) 1 24 Try.underlying32 infoSI rfl (by omega) (.slice (some ⟨g9, 0, none⟩) ac.length e9) ac.length vs rfl HD6.out.c.st #[.slice A5 s.length c5] 31 1 rfl rfl (by intro v hv; simp at hv; subst hv; rfl) (by omega) (by omega) HLO6.out ?_; intro A7 c7 w7 ho7 hg7 hsz7 hor7; have HD7 := Lib.hid (HD6.out.apS (by rw [HVL.out]; simp) HO6.out HSP5.out ho7 hg7); have HLO7 := Lib.hid HD7.out.c.below.size; clear ho7 hg7 hsz7 hor7) | (at_builtin; refine wpList_app w7 rfl (.tmp 69) (.tmp 71) 73 rfl w.heap.size 3 (.int .i64 0) 1 8 Try.underlying73 infoN rfl (by omega) (.slice P10 ac.length e10) ac.length _ rfl HD7.out.c.be #[.int .i64 (k : Int)] 3 1 rfl rfl (by intro v hv; simp at hv; subst hv; rfl) (by omega) (by omega) HLO7.out ?_; intro A8 c8 w8 ho8 hg8 hsz8 hor8; have HD8 := Lib.hid (HD7.out.apB ho8 hg8); have HLO8 := Lib.hid HD8.out.c.below.size; have hcm8 := HARMM.out _ HD8.out.m; clear ho8 hg8 hsz8 hor8) | (at_builtin; refine wpList_app w8 rfl (.tmp 73) (.tmp 78) 31 rfl w.heap.size 2 (.int .i64 0) 1 8 Try.underlying31 infoI64 rfl (by omega) (.slice P11 ac.length e11) ac.length _ rfl HD8.out.c.mo #[.int .i64 (cn : Int)] 2 1 rfl rfl (by intro v hv; simp at hv; subst hv; rfl) (by omega) (by omega) HLO8.out ?_; intro A9 c9 w9 ho9 hg9 hsz9 hor9; have HD9 := Lib.hid (HD8.out.apM ho9 hg9 hor9); clear ho9 hg9 hsz9 hor9) | fail)
            have hlen : (ac ++ [(nxS s (cn : Int), path ++ [(cn : Int)])]).length = ac.length + 1 := by simp
            have HLEN := Lib.hid hlen
            have HD10 : Hid (AllD w (.slice A7 (ac ++ [(nxS s (cn : Int), path ++ [(cn : Int)])]).length c7) (ac ++ [(nxS s (cn : Int), path ++ [(cn : Int)])]).length (vs ++ [.slice A5 s.length c5]) ((ac ++ [(nxS s (cn : Int), path ++ [(cn : Int)])]).map Prod.fst) (.slice A8 (ac ++ [(nxS s (cn : Int), path ++ [(cn : Int)])]).length c8) (ac ++ [(nxS s (cn : Int), path ++ [(cn : Int)])]).length (bg ++ [(k : Int)]) (.slice A9 (ac ++ [(nxS s (cn : Int), path ++ [(cn : Int)])]).length c9) (ac ++ [(nxS s (cn : Int), path ++ [(cn : Int)])]).length (mw ++ [(cn : Int)]) (w1.heap.size + 1 + 1 + 1) (bt.set N true) (.slice (some ⟨gm, 0, none⟩) (movesL halls ways most s).length cm) (movesL halls ways most s) w9) := Lib.hid (by
              rw [hlen, List.map_append]; exact HD9.out)
            clear hlen
            go_roundw
            case rel => exact ⟨q + 1, c7, c8, c9, A7, A8, A9, _, _, _, _, _, by rw [HLEN.out], by rw [HLEN.out], by rw [HLEN.out], by go_num, by omega, Lib.hid HSE.out.symm, HLK, HSK, HD10⟩
            case measure => simp [intOf]; omega
        · have hqi : ¬ ((q : Int) < ((movesL halls ways most s).length : Int)) := by omega
          have HAN : Hid (ac = bfs (movesL halls ways most) (zeroS ways.length) (k + 1)) := Lib.hid (by rw [HAC.out, List.take_of_length_le (by omega)]; exact HNXT.out)
          have hle : k + 1 ≤ ac.length := by
            have h9 : acc.length ≤ ac.length := by rw [HAC.out]; exact (stepsN_pre _ _ _ _).length_le
            omega
          go_wp2
          go_roundw
          case rel => exact ⟨k + 1, e9, e10, e11, P9, P10, P11, ac, vs, bg, mw, bt, rfl, rfl, rfl, by go_num, hle, HAN, HLI, HSI, Lib.hid HDI.out.c⟩
          case measure => simp [intOf]; omega
    · have hki : ¬ ((k : Int) < (acc.length : Int)) := by omega
      have HEQ : Hid (acc = reachT halls ways most) := Lib.hid (by rw [HACC.out]; refine HEND.out k ?_; rw [← HACC.out]; omega)
      go_wp2
      go_ret3
      unfold AllP
      rw [← HEQ.out]
      exact ⟨A9, A10, A11, c9, c10, c11, us, bf, mv, rfl, HA.out.st, HA.out.rows, HA.out.be, HA.out.mo, HLN.out, HA.out.below⟩
end Go.Proofs.Ytegabdhmfemgkaa
