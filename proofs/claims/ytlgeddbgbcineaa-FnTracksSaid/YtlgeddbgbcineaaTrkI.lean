/-
TracksOf of the program. Condition: the slices read as lists.
-/
import Derived.Test.YtlgeddbgbcineaaTrkM
import Derived.Deep.CutRange
import Derived.Deep.RegionLaw
namespace Go.Proofs.Ytlgeddbgbcineaa
open Go.RowKit
set_option linter.unusedVariables false

def trkR (gs : List (List Int)) (ts : List Reading) : List (List Int) × Int := if readsOk gs ts = true then (trG gs ts, 0) else ([], 1)
/-- the followers so far, and which readings are such -/
def nxL (n : Nat) (fs : List Int) : List Int := fs ++ List.replicate (n - fs.length) 0
def inL (n : Nat) (fs : List Int) : List Bool := (List.range n).map (fun b : Nat => fs.contains (b : Int))
section
variable {n : Nat} {fs : List Int}
theorem nxL_len (h : fs.length ≤ n) : (nxL n fs).length = n := by simp [nxL]; omega
theorem nxL_nil (n : Nat) : nxL n [] = List.replicate n 0 := by simp [nxL]
theorem nxL_set (h : fs.length < n) (f : Int) : (nxL n fs).set fs.length f = nxL n (fs ++ [f]) := by
  unfold nxL
  rw [set_take_rep fs fs.length n _ h f rfl]
  simp
theorem nxL_set2 (h : fs.length < n) (f f' : Int) : (nxL n (fs ++ [f])).set fs.length f' = nxL n (fs ++ [f']) := by
  rw [← nxL_set h f, ← nxL_set h f', List.set_set]
theorem nxL_iAt {i : Nat} (h : i < fs.length) : iAt (nxL n fs) i = iAt fs i := by
  unfold iAt nxL
  rw [List.getD_eq_getElem?_getD, List.getD_eq_getElem?_getD, List.getElem?_append_left h]
theorem nxL_last (f : Int) (h : fs.length < n) : iAt (nxL n (fs ++ [f])) fs.length = f := by
  rw [nxL_iAt (by simp)]
  rw [iAt_snoc, if_neg (by omega), if_pos rfl]
theorem inL_len : (inL n fs).length = n := by simp [inL]
theorem inL_nil (n : Nat) : inL n [] = List.replicate n false := by
  apply List.ext_getElem (by simp [inL])
  intro i h1 h2
  simp [inL]
theorem inL_at {b : Nat} (h : b < n) : bAt (inL n fs) b = fs.contains (b : Int) := by
  rw [bAt_eq (by rw [inL_len]; exact h)]; simp [inL]
theorem inL_no : inL n (fs ++ [-1]) = inL n fs := by
  unfold inL
  apply List.map_congr_left
  intro b _
  have h : ¬ ((b : Int) = -1) := by omega
  rw [Bool.eq_iff_iff]
  simp [h]
theorem inL_set {j : Nat} (hj : j < n) : (inL n fs).set j true = inL n (fs ++ [(j : Int)]) := by
  apply List.ext_getElem (by simp [inL])
  intro b h1 h2
  rw [List.getElem_set]
  by_cases e : j = b
  · subst e; simp [inL]
  · rw [if_neg e]
    have h : ¬ ((b : Int) = (j : Int)) := by omega
    simp [inL, h]
end
theorem test_eq {E : Nat → Nat → Bool} {n : Nat} {fs : List Int} (b : Nat) : testK E n fs b = (ER E fs fs.length b && decide (mostK (ER E (fs ++ [(b : Int)])) n = mostK E n)) := by
  unfold testK ER
  rw [if_neg (Nat.lt_irrefl _)]
theorem ER_not {E : Nat → Nat → Bool} {fs : List Int} {b : Nat} (h : ER E fs fs.length b = true) : (b : Int) ∉ fs := by
  unfold ER at h
  rw [if_neg (Nat.lt_irrefl _)] at h
  simp only [Bool.and_eq_true, Bool.not_eq_true'] at h
  simpa using h.2
theorem TabOff.cells {R : Nat → Prop} {w : World} {A : Option Addr} {c n : Nat} {E : Nat → Nat → Bool} (h : TabOff R w (.slice A n c) E n) {i : Nat} (hi : i < n) : ∃ b o b' o' c', A = some ⟨b, o, none⟩ ∧ w.cell? ⟨b, o + i, none⟩ = some (.slice (some ⟨b', o', none⟩) n c') ∧ ∀ j, j < n → w.cell? ⟨b', o' + j, none⟩ = some (.bool (E i j)) := by
  obtain ⟨A1, c1, hv, hc⟩ := SlTab.op h.sl
  injection hv with hv _ hv2
  subst hv hv2
  obtain ⟨b, o, b', o', c', h1, _, _, h2, _, h3⟩ := hc i hi
  exact ⟨b, o, b', o', c', h1, h2, h3⟩
theorem firstK_at {t : Nat → Bool} {n j : Nat} (hj : j < n) : firstK t n (n - j) = if t j = true then (j : Int) else firstK t n (n - (j + 1)) := by
  have e : n - j = (n - (j + 1)) + 1 := by omega
  have e2 : n - (n - (j + 1) + 1) = j := by omega
  rw [e, firstK, e2]
theorem makeN (n : Nat) (hn : n ≤ 14) : ∃ M : Array Value, M.toList = List.replicate n (Value.int .i64 0) ∧ ∀ W : World, (Instr.makeSlice 80 (.int .i64 (n : Int)) (.int .i64 (n : Int))).run Try.prog W = .ok (.slice (some ⟨W.heap.size, 0, none⟩) n n) (W.alloc (.cells M 3)) := by
  obtain ⟨i0, hi, hz0, hz1, hz2⟩ := info_parts infoN
  refine ⟨madeCells (Value.int .i64 0).cells (((n : Int)).toNat * i0.size), ?_, fun W => ?_⟩
  · rw [hz1, Int.toNat_natCast, Nat.mul_one]
    exact toList_madeCells_one (Value.int .i64 0) n
  · have h := run_makeSlice (P := Try.prog) W 80 3 i0 (.int .i64 0) Try.underlying80 hi hz0 .i64 .i64 (n : Int) (n : Int) (by omega) (by omega) (by rw [hz1]; first | omega | (simp; omega) | (unfold maxLen; omega)) (by rw [hz2]; first | omega | (simp; omega)) (by first | omega | (simp; omega) | (unfold maxLen; omega))
    simpa using h

theorem ownMade2 {M : Array Value} {m : Nat} {e : TypeId} {x : Value} (hM : M.toList = List.replicate m x) (hm : m ≤ 1048576) (W : World) (o : Obj) (lo : Nat) (hlo : lo ≤ W.heap.size) : Ow ((W.alloc o).alloc (.cells M e)) lo e 1 (.slice (some ⟨W.heap.size + 1, 0, none⟩) m m) m (List.replicate m x) := by
  have h := ownMade (e := e) hM hm (W.alloc o) lo (by simp; omega)
  rwa [show (W.alloc o).heap.size = W.heap.size + 1 by simp] at h
theorem two_mk {W : World} {lo g8 g9 n : Nat} (ho : Ow W lo 3 1 (.slice (some ⟨g8, 0, none⟩) n n) n (List.replicate n (.int .i64 0))) (ht : Ow W lo 4 1 (.slice (some ⟨g9, 0, none⟩) n n) n (List.replicate n (.bool false))) (hne : g8 ≠ g9) : Two W lo g8 g9 n (nxL n []) (inL n []) :=
  ⟨by rw [nxL_nil, List.map_replicate]; exact ho, by rw [inL_nil, List.map_replicate]; exact ht, by rw [nxL_nil]; simp, inL_len, hne⟩

set_option maxRecDepth 100000 in
set_option maxHeartbeats 8000000 in
theorem implTracks_any (v u : Value) (gs : List (List Int)) (ts : List Reading) (w : World) (hv : SlII w v gs) (hu : SlReading w u ts) :
    Calls Try.prog 45 #[v, u] w fun e w' => ∃ A c us, e = .returned (.tuple #[.slice A (trkR gs ts).1.length c, .int .i64 (trkR gs ts).2]) ∧ OwII w' w.heap.size (.slice A (trkR gs ts).1.length c) us (trkR gs ts).1 ∧ Below w.heap.size w w' := by
  have HV := Lib.hid hv; have HU := Lib.hid hu
  obtain ⟨Ar, cr, rfl, hlr, har⟩ := hu.op
  clear hv hu har
  have HR : Hid (trkR gs ts = if readsOk gs ts = true then (trG gs ts, 0) else ([], 1)) := Lib.hid rfl
  have HNIL := Lib.hid (fun w' : World => owII_nil w' w.heap.size)
  cases hok : readsOk gs ts with
  | false =>
    have HC := Lib.hid (validReadings_any _ _ gs ts w HV.out HU.out)
    rw [hok] at HC HR
    clear hok
    go_enter Try.func45, Try.ntmps45
    go_wp2_with fail
    refine HC.out.mono ?_
    rintro e w1 ⟨rfl, hb1⟩
    have HB1 := Lib.hid hb1
    clear hb1
    go_wp2
    go_ret2
    exact ⟨none, 0, [], by rw [HR.out]; rfl, by rw [HR.out]; exact HNIL.out _, HB1.out⟩
  | true =>
    have HC := Lib.hid (validReadings_any _ _ gs ts w HV.out HU.out)
    have HOK := Lib.hid hok
    have h14 := (readsOk_ok hok).2.1
    have HFK := Lib.hid (fsG_ok gs ts)
    have HRI := Lib.hid (riseG hok)
    have HFL := Lib.hid (fsG_len gs ts)
    have HTR : Hid (trG gs ts = trK (fsG gs ts) ts.length) := Lib.hid rfl
    have HFS : Hid (fsG gs ts = folK (edG gs ts) ts.length ts.length) := Lib.hid rfl
    rw [hok] at HC HR
    clear hok
    go_enter Try.func45, Try.ntmps45
    go_wp2_with fail
    refine HC.out.mono ?_
    rintro e w1 ⟨rfl, hb1⟩
    have HB1 := Lib.hid hb1
    clear hb1
    go_wp2_with fail
    refine (mayTable_any _ _ gs ts w1 (HV.out.ex HB1.out) (HU.out.ex HB1.out) HOK.out).mono ?_
    rintro e w2 ⟨A2, c2, us2, rfl, ho2, hb2⟩
    have HB2 := Lib.hid (below_next0 HB1.out hb2)
    have HT2 := Lib.hid ho2
    clear ho2 hb2 HB1 HC
    generalize edG gs ts = E at HFK HFS HT2
    generalize trG gs ts = TR at HR HTR
    generalize fsG gs ts = FL at HFK HRI HFL HTR HFS
    have HLV : Hid (∃ lv, Rise lv ts.length FL) := Lib.hid ⟨_, HRI.out⟩
    clear HRI HOK HV HU
    generalize hnn : ts.length = n at *
    clear hnn
    have HMO : Hid (∀ W, Below w2.heap.size w2 W → Calls Try.prog 70 #[.slice A2 n c2] W fun e w' => e = .returned (.int .i64 ((mostK E n : Nat) : Int)) ∧ Below W.heap.size W w') := Lib.hid (fun W hW => most_any _ E n h14 W (show SlTab W _ E n from (HT2.out.ex hW).sl))
    obtain ⟨M1, hM1, hmk1⟩ := makeN n h14
    obtain ⟨M2, hM2, hmk2⟩ := makeB n h14
    have HM1 := Lib.hid hM1; have HM2 := Lib.hid hM2
    clear hM1 hM2
    go_upto_region 4 with fail
    go_cut [7, 8, 9] from 23 to 103 (fun t7 t8 t9 wx => ∃ g8 g9 : Nat, t7 = .int .i64 ((mostK E n : Nat) : Int) ∧ t8 = .slice (some ⟨g8, 0, none⟩) n n ∧ t9 = .slice (some ⟨g9, 0, none⟩) n n ∧
      Hid (Two wx w2.heap.size g8 g9 n (nxL n []) (inL n [])) ∧ Hid (Below w2.heap.size w2 wx))
    case first =>
      have hb0 := Below.refl w2.heap.size w2
      go_region_law (first | (go_simp; go_at_call 70; refine Calls.mono (HMO.out _ (by repeat' (first | exact Below.refl _ _ | apply Below.drew | refine Below.alloc ?_ (by first | exact Nat.le_refl _ | (simp; done) | (simp; omega)) _))) ?_; rintro eA wA ⟨rfl, hbA⟩) | fail)
      all_goals
        have hX : Below w2.heap.size w2 wA := below_next0 (by repeat' (first | exact Below.refl _ _ | apply Below.drew | refine Below.alloc ?_ (by first | exact Nat.le_refl _ | (simp; done) | (simp; omega)) _)) hbA
        have hs := hX.size
        have hsA := hbA.size
        clear hb0
        go_wp2_with fail
        go_meet
        refine ⟨_, _, rfl, rfl, rfl, Lib.hid (two_mk ?_ ?_ ?_), Lib.hid ?_⟩
        · first
            | exact (ownMade HM1.out (by omega) wA w2.heap.size hs).ex (below_alloc _ _)
            | exact ownMade2 HM1.out (by omega) wA _ w2.heap.size hs
            | exact ((Ow.drewN (ownMade HM1.out (by omega) w2 w2.heap.size (Nat.le_refl _)) 1).ex hbA).ex (below_alloc _ _)
            | exact ownMade HM1.out (by omega) wA w2.heap.size hs
            | exact (Ow.drewN ((ownMade HM1.out (by omega) w2 w2.heap.size (Nat.le_refl _)).ex (below_alloc _ _)) 1).ex hbA
            | exact (Ow.drewN (ownMade2 HM1.out (by omega) w2 _ w2.heap.size (Nat.le_refl _)) 1).ex hbA
        · first
            | exact (ownMade HM2.out (by omega) wA w2.heap.size hs).ex (below_alloc _ _)
            | exact ownMade2 HM2.out (by omega) wA _ w2.heap.size hs
            | exact ((Ow.drewN (ownMade HM2.out (by omega) w2 w2.heap.size (Nat.le_refl _)) 1).ex hbA).ex (below_alloc _ _)
            | exact ownMade HM2.out (by omega) wA w2.heap.size hs
            | exact (Ow.drewN ((ownMade HM2.out (by omega) w2 w2.heap.size (Nat.le_refl _)).ex (below_alloc _ _)) 1).ex hbA
            | exact (Ow.drewN (ownMade2 HM2.out (by omega) w2 _ w2.heap.size (Nat.le_refl _)) 1).ex hbA
        · simp at hsA; omega
        · repeat' (first | exact hX | refine Below.alloc ?_ (by first | exact hs | (simp; omega)) _)
    case rest =>
      obtain ⟨g8, g9, rfl, rfl, rfl, HTW, HBX⟩ := hcut
      obtain ⟨wX, rfl⟩ : ∃ wX : World, wX = wc := ⟨_, rfl⟩
      clear hmk1 hmk2 HM1 HM2 HMO
      have HKL0 := Lib.hid (fol_len E n)
      have HKO : Hid (∀ k, k ≤ n → FsOk E n (folK E n k)) := Lib.hid (fun k hk => fol_ok E n k hk)
      have HKS : Hid (∀ k, folK E n (k + 1) = folK E n k ++ [firstK (testK E n (folK E n k)) n n]) := Lib.hid (fun _ => rfl)
      have HK0 : Hid (folK E n 0 = []) := Lib.hid rfl
      have HTO0 : Hid (TabOff (R2 g8 g9) wX (.slice A2 n c2) (ER E []) n) := Lib.hid (((TabOff.old HT2.out (fun k hk => by have h1 := HTW.out.g1lo.1; have h2 := HTW.out.g2lo.1; rcases hk with rfl | rfl <;> assumption)).ex HBX.out).cong (fun i b _ _ => (ER_nil E i b).symm))
      generalize folK E n = FK at HKL0 HKO HKS HK0 HFS
      have hmq := most_le E n
      obtain ⟨mq, HME⟩ : ∃ mq : Nat, Hid (mostK E n = mq) := ⟨_, Lib.hid rfl⟩
      rw [HME.out] at hmq ⊢
      clear HT2
      go_wp2
      go_loopw [6, 10, 11, 33] (fun v6 _ _ v33 wr => ∃ (k c : Nat) (A : Option Addr), v6 = .slice A n c ∧ v33 = .int .i64 k ∧ k ≤ n ∧ Hid (TabOff (R2 g8 g9) wr (.slice A n c) (ER E (FK k)) n) ∧ Hid (Two wr w2.heap.size g8 g9 n (nxL n (FK k)) (inL n (FK k))) ∧ Hid (Below w2.heap.size w2 wr)) (fun _ _ _ v33 _ => n - (intOf v33).toNat)
      case atStart => exact ⟨0, c2, A2, rfl, rfl, by omega, by rw [HK0.out]; exact HTO0, by rw [HK0.out]; exact HTW, HBX⟩
      case round =>
        clear HTO0 HTW HBX
        obtain ⟨k, c, A, rfl, rfl, hk, HTO, HTW, HBW⟩ := hrel
        by_cases hlt : k < n
        · have hlti : (k : Int) < (n : Int) := by omega
          have HKL := Lib.hid (HKL0.out k)
          have HKSK := Lib.hid (HKS.out k)
          have hxc := HTW.out.oc hlt; have hxf := HTW.out.of_ k
          have hlo8 := HTW.out.g1lo.1; have hlo9 := HTW.out.g2lo.1
          have HT1 : Hid (Two (wr.setCell ⟨g8, k, none⟩ (.int .i64 (-1))) w2.heap.size g8 g9 n (nxL n (FK k ++ [-1])) (inL n (FK k))) := Lib.hid (by
            rw [← nxL_set (by rw [HKL.out]; exact hlt) (-1), HKL.out]; exact HTW.out.setO k (-1))
          have HTO1 : Hid (TabOff (R2 g8 g9) (wr.setCell ⟨g8, k, none⟩ (.int .i64 (-1))) (.slice A n c) (ER E (FK k)) n) := Lib.hid (HTO.out.gr (GrS.set (.inl rfl) _))
          have HB1 : Hid (Below w2.heap.size w2 (wr.setCell ⟨g8, k, none⟩ (.int .i64 (-1)))) := Lib.hid (HBW.out.setCell (p := ⟨g8, k, none⟩) hlo8 _)
          go_wp2
          clear hxc hxf
          go_loopw [11, 41] (fun _ v41 wq => ∃ j : Nat, v41 = .int .i64 j ∧ j ≤ n ∧ Hid (firstK (testK E n (FK k)) n (n - j) = firstK (testK E n (FK k)) n n) ∧ Hid (TabOff (R2 g8 g9) wq (.slice A n c) (ER E (FK k)) n) ∧ Hid (Two wq w2.heap.size g8 g9 n (nxL n (FK k ++ [-1])) (inL n (FK k))) ∧ Hid (Below w2.heap.size w2 wq)) (fun _ v41 _ => n - (intOf v41).toNat)
          case atStart => exact ⟨0, rfl, by omega, Lib.hid rfl, HTO1, HT1, HB1⟩
          case round =>
            clear HT1 HTO1 HB1 HTO HTW HBW
            obtain ⟨j, rfl, hj, HF, HTO, HTW, HBW⟩ := hrel
            obtain ⟨wq, hwq⟩ : ∃ x : World, x = wr := ⟨wr, rfl⟩
            subst hwq
            by_cases hltj : j < n
            · have hltji : (j : Int) < (n : Int) := by omega
              obtain ⟨b, o, b', o', c', rfl, hc0, hc1⟩ := HTO.out.cells hlt
              replace hc1 := hc1 j hltj
              have HFA := Lib.hid (firstK_at (t := testK E n (FK k)) hltj)
              have HTE := Lib.hid (test_eq (E := E) (n := n) (fs := FK k) j)
              rw [HKL.out, HME.out] at HTE
              cases hE : ER E (FK k) k j with
              | false =>
                rw [hE] at hc1
                have HN : Hid (firstK (testK E n (FK k)) n (n - (j + 1)) = firstK (testK E n (FK k)) n n) := Lib.hid (by rw [← HF.out, HFA.out, if_neg (by rw [HTE.out, hE]; simp)])
                clear hE
                go_wp2
                go_roundw
                case rel => exact ⟨j + 1, by go_num, by omega, HN, HTO, HTW, HBW⟩
                case measure => simp [intOf]; omega
              | true =>
                rw [hE] at hc1
                have HNI : Hid ((j : Int) ∉ FK k) := Lib.hid (ER_not (E := E) (by rw [HKL.out]; exact hE))
                have HMQ : Hid (mostK (woE (ER E (FK k)) k (j : Int)) n = mostK (ER E (FK k ++ [(j : Int)])) n) := Lib.hid (most_cong (fun i b hi _ => by have h := woE_ER (E := E) (fs := FK k) (f := (j : Int)) (.inr HNI.out) i b hi; rw [HKL.out] at h; exact h))
                rw [hE, Bool.true_and] at HTE
                clear hE
                go_wp2_with fail
                refine (without_any _ (ER E (FK k)) n h14 k (j : Int) _ HTO.out.sl).mono ?_
                rintro e w5 ⟨A5, c5, us5, rfl, ho5, hb5⟩
                have HS5 := Lib.hid (show SlTab w5 (.slice A5 n c5) (woE (ER E (FK k)) k (j : Int)) n from ho5.sl)
                have HTO5 := Lib.hid (HTO.out.ex hb5); have HTW5 := Lib.hid (HTW.out.ex hb5); have HBW5 := Lib.hid (below_next0 HBW.out hb5)
                clear ho5 hb5 hc0 hc1
                go_wp2_with fail
                refine (most_any _ _ n h14 w5 HS5.out).mono ?_
                rintro e w6 ⟨rfl, hb6⟩
                rw [HMQ.out]
                have HTO6 := Lib.hid (HTO5.out.ex hb6); have HTW6 := Lib.hid (HTW5.out.ex hb6); have HBW6 := Lib.hid (below_next0 HBW5.out hb6)
                clear hb6 HS5 HTO5 HTW5 HBW5 HMQ HTO HTW HBW
                generalize mostK (ER E (FK k ++ [(j : Int)])) n = q at HTE
                by_cases hq : q = mq
                · have hqb : ((q : Int) == (mq : Int)) = true := by subst hq; simp
                  have HFE : Hid (FK (k + 1) = FK k ++ [(j : Int)]) := Lib.hid (by rw [HKSK.out, ← HF.out, HFA.out, if_pos (by rw [HTE.out]; exact decide_eq_true hq)])
                  have HNF : Hid (∀ i b : Nat, i < n → woE (ER E (FK k)) k (j : Int) i b = ER E (FK k ++ [(j : Int)]) i b) := Lib.hid (fun i b hi => by have h := woE_ER (E := E) (fs := FK k) (f := (j : Int)) (.inr HNI.out) i b hi; rw [HKL.out] at h; exact h)
                  have hyc := HTW6.out.oc hlt; have hyf := HTW6.out.of_ k
                  have HTY : Hid (Two (w6.setCell ⟨g8, k, none⟩ (.int .i64 (j : Int))) w2.heap.size g8 g9 n (nxL n (FK k ++ [(j : Int)])) (inL n (FK k))) := Lib.hid (by
                    have h := nxL_set2 (n := n) (fs := FK k) (by rw [HKL.out]; exact hlt) (-1) (j : Int)
                    rw [HKL.out] at h
                    rw [← h]; exact HTW6.out.setO k (j : Int))
                  have hzc := HTY.out.tc hltj; have hzf := HTY.out.tf j
                  clear HTE
                  have HTE : Hid (Two ((w6.setCell ⟨g8, k, none⟩ (.int .i64 (j : Int))).setCell ⟨g9, j, none⟩ (.bool true)) w2.heap.size g8 g9 n (nxL n (FK k ++ [(j : Int)])) (inL n (FK k ++ [(j : Int)]))) := Lib.hid (by rw [← inL_set hltj]; exact HTY.out.setT j)
                  have HTOE : Hid (TabOff (R2 g8 g9) ((w6.setCell ⟨g8, k, none⟩ (.int .i64 (j : Int))).setCell ⟨g9, j, none⟩ (.bool true)) (.slice (some ⟨b, o, none⟩) n c) (ER E (FK k)) n) := Lib.hid ((HTO6.out.gr (GrS.set (.inl rfl) _)).gr (GrS.set (.inr rfl) _))
                  have HBE : Hid (Below w2.heap.size w2 ((w6.setCell ⟨g8, k, none⟩ (.int .i64 (j : Int))).setCell ⟨g9, j, none⟩ (.bool true))) := Lib.hid ((HBW6.out.setCell (p := ⟨g8, k, none⟩) hlo8 _).setCell (p := ⟨g9, j, none⟩) hlo9 _)
                  have hxe := HTE.out.oc hlt
                  have hla := nxL_last (n := n) (fs := FK k) (j : Int) (by rw [HKL.out]; exact hlt)
                  rw [HKL.out] at hla
                  rw [hla] at hxe
                  clear hla hq
                  go_wp2_with fail
                  refine (without_any _ (ER E (FK k)) n h14 k ((j : Int)) _ HTOE.out.sl).mono ?_
                  rintro e w7 ⟨A7, c7, us7, rfl, ho7, hb7⟩
                  have HTO7 : Hid (TabOff (R2 g8 g9) w7 (.slice A7 n c7) (ER E (FK (k + 1))) n) := Lib.hid ((TabOff.new ho7 (fun g hg => by have h1 := HTE.out.g1lo.2; have h2 := HTE.out.g2lo.2; rcases hg with rfl | rfl <;> assumption)).cong (fun i b hi _ => by rw [HFE.out]; exact HNF.out i b hi))
                  have HTW7 : Hid (Two w7 w2.heap.size g8 g9 n (nxL n (FK (k + 1))) (inL n (FK (k + 1)))) := Lib.hid (by rw [HFE.out]; exact HTE.out.ex hb7)
                  have HBW7 := Lib.hid (below_next0 HBE.out hb7)
                  clear ho7 hb7 hxe  hyc hyf hzc hzf
                  go_wp2
                  go_roundw
                  case rel => exact ⟨k + 1, c7, A7, rfl, by go_num, by omega, HTO7, HTW7, HBW7⟩
                  case measure => simp [intOf]; omega
                · have hqb : ((q : Int) == (mq : Int)) = false := by rw [beq_eq_false_iff_ne]; omega
                  have HN : Hid (firstK (testK E n (FK k)) n (n - (j + 1)) = firstK (testK E n (FK k)) n n) := Lib.hid (by rw [← HF.out, HFA.out, if_neg (by rw [HTE.out]; simpa using hq)])
                  clear hq HTE
                  go_wp2
                  go_roundw
                  case rel => exact ⟨j + 1, by go_num, by omega, HN, HTO6, HTW6, HBW6⟩
                  case measure => simp [intOf]; omega
            · have hjn : j = n := by omega
              have HFE : Hid (FK (k + 1) = FK k ++ [-1]) := Lib.hid (by rw [HKSK.out, ← HF.out, hjn, Nat.sub_self]; rfl)
              have HNF : Hid (∀ i b : Nat, i < n → woE (ER E (FK k)) k (-1) i b = ER E (FK k ++ [-1]) i b) := Lib.hid (fun i b hi => by have h := woE_ER (E := E) (fs := FK k) (f := -1) (.inl rfl) i b hi; rw [HKL.out] at h; exact h)
              have HTE : Hid (Two wq w2.heap.size g8 g9 n (nxL n (FK k ++ [-1])) (inL n (FK k ++ [-1]))) := Lib.hid (by rw [inL_no]; exact HTW.out)
              have HTOE := HTO; have HBE := HBW
              have hxe := HTE.out.oc hlt
              have hla := nxL_last (n := n) (fs := FK k) (-1) (by rw [HKL.out]; exact hlt)
              rw [HKL.out] at hla
              rw [hla] at hxe
              have hltji : ¬ ((j : Int) < (n : Int)) := by omega
              clear hla hjn
              go_wp2_with fail
              refine (without_any _ (ER E (FK k)) n h14 k (-1) _ HTOE.out.sl).mono ?_
              rintro e w7 ⟨A7, c7, us7, rfl, ho7, hb7⟩
              have HTO7 : Hid (TabOff (R2 g8 g9) w7 (.slice A7 n c7) (ER E (FK (k + 1))) n) := Lib.hid ((TabOff.new ho7 (fun g hg => by have h1 := HTE.out.g1lo.2; have h2 := HTE.out.g2lo.2; rcases hg with rfl | rfl <;> assumption)).cong (fun i b hi _ => by rw [HFE.out]; exact HNF.out i b hi))
              have HTW7 : Hid (Two w7 w2.heap.size g8 g9 n (nxL n (FK (k + 1))) (inL n (FK (k + 1)))) := Lib.hid (by rw [HFE.out]; exact HTE.out.ex hb7)
              have HBW7 := Lib.hid (below_next0 HBE.out hb7)
              clear ho7 hb7 hxe 
              go_wp2
              go_roundw
              case rel => exact ⟨k + 1, c7, A7, rfl, by go_num, by omega, HTO7, HTW7, HBW7⟩
              case measure => simp [intOf]; omega
        · have hkn : k = n := by omega
          have hlti : ¬ ((k : Int) < (n : Int)) := by omega
          have HCE : Hid (∀ W, Below wr.heap.size wr W → ∀ i, i < n → W.cell? ⟨g8, i, none⟩ = some (.int .i64 (iAt FL i)) ∧ W.cell? ⟨g9, i, none⟩ = some (.bool (FL.contains (i : Int)))) := Lib.hid (fun W hW i hi => by
            have h := HTW.out.ex hW
            rw [hkn, ← HFS.out] at h
            have h1 := h.oc hi; have h2 := h.tc hi
            rw [nxL_iAt (by rw [HFL.out]; exact hi)] at h1
            rw [inL_at hi] at h2
            exact ⟨h1, h2⟩)
          have HBL := Lib.hid (below_next0 HB2.out HBW.out)
          have HTS : Hid (∀ i, trK FL (i + 1) = if FL.contains (i : Int) = true then trK FL i else trK FL i ++ [chn FL (i : Int)]) := Lib.hid (fun _ => rfl)
          have HTL : Hid (∀ i, (trK FL i).length ≤ i) := Lib.hid (fun i => by have := trK_len FL i; omega)
          have HT0 : Hid (trK FL 0 = []) := Lib.hid rfl
          have HFI : Hid (∀ a : Nat, a < n → chn FL (a : Int) = (a : Int) :: chn FL (iAt FL a) ∧ (iAt FL a < 0 ∨ ∃ b : Nat, b < n ∧ iAt FL a = (b : Int))) := Lib.hid (fun a ha => by
            obtain ⟨lv, hlv⟩ := HLV.out
            refine ⟨chn_pos hlv ha, ?_⟩
            rcases (hlv a ha).2 with h | ⟨b, hb, h, _⟩
            · exact .inl (by omega)
            · exact .inr ⟨b, hb, h⟩)
          have HCL : Hid (∀ x, (chn FL x).length ≤ 9) := Lib.hid (fun x => chn_len)
          have HCN : Hid (∀ x, x < 0 → chn FL x = []) := Lib.hid (fun x h => chn_neg FL h)
          have HOE := Lib.hid (owII_empty wr wr.heap.size (Nat.le_refl _))
          have HBE := Lib.hid (below_alloc wr (.cells #[] 49))
          have hszr := HBL.out.size
          clear HTO HTW HBW hkn
          generalize hchn : chn FL = ch at HTS HFI HCL HCN
          generalize htrk : trK FL = tk at HTS HTL HT0
          have HTE : Hid (TR = tk n) := Lib.hid (by rw [HTR.out, htrk])
          clear hchn htrk HTR
          obtain ⟨wL, hwL⟩ : ∃ x : World, x = wr := ⟨wr, rfl⟩
          subst hwL
          go_wp2
          go_loopw [12, 13, 14, 15, 79] (fun v12 _ _ _ v79 wr => ∃ (i m c : Nat) (A : Option Addr) (us : List Value), v12 = .slice A m c ∧ v79 = .int .i64 i ∧ i ≤ n ∧ m ≤ i ∧ Hid ((tk i).length = m) ∧ Hid (OwII wr wL.heap.size (.slice A m c) us (tk i)) ∧ Hid (Below wL.heap.size wL wr)) (fun _ _ _ _ v79 _ => n - (intOf v79).toNat)
          case atStart => exact ⟨0, 0, 0, _, [], rfl, rfl, by omega, by omega, Lib.hid (by rw [HT0.out]; rfl), by rw [HT0.out]; exact HOE, HBE⟩
          case round =>
            clear HOE HBE
            obtain ⟨i, m, cm, Am, us, rfl, rfl, hi, hmi, HML, HO, HB⟩ := hrel
            obtain ⟨wT, hwT⟩ : ∃ x : World, x = wr := ⟨wr, rfl⟩
            subst hwT
            by_cases hlt2 : i < n
            · have hii : (i : Int) < (n : Int) := by omega
              have hcx := (HCE.out wT HB.out i hlt2).2
              have HTSI := Lib.hid (HTS.out i)
              cases hcb : FL.contains (i : Int) with
              | true =>
                rw [hcb] at hcx HTSI
                have HE : Hid (tk (i + 1) = tk i) := Lib.hid (by rw [HTSI.out]; rfl)
                clear hcb
                go_wp2
                go_roundw
                case rel => exact ⟨i + 1, m, cm, Am, us, rfl, by go_num, by omega, by omega, by rw [HE.out]; exact HML, by rw [HE.out]; exact HO, HB⟩
                case measure => simp [intOf]; omega
              | false =>
                rw [hcb] at hcx HTSI
                have HE : Hid (tk (i + 1) = tk i ++ [ch (i : Int)]) := Lib.hid (by rw [HTSI.out]; rfl)
                have hT := HB.out.size
                have HX0 := Lib.hid (owI_empty wT wT.heap.size (Nat.le_refl _))
                have HX1 := Lib.hid (below_alloc wT (.cells #[] 2))
                clear hcb
                go_wp2
                clear hcx
                go_loopw [14, 15] (fun v14 v15 wr => ∃ (xs : List Int) (at_ : Int) (A : Option Addr) (l c : Nat), v14 = .slice A l c ∧ v15 = .int .i64 at_ ∧ Hid (xs.length = l) ∧ Hid (xs ++ ch at_ = ch (i : Int)) ∧ Hid (at_ < 0 ∨ ∃ b : Nat, b < n ∧ at_ = (b : Int)) ∧ Hid (OwI wr wT.heap.size (.slice A l c) xs) ∧ Hid (Below wT.heap.size wT wr)) (fun _ v15 _ => (ch (intOf v15)).length)
                case atStart => exact ⟨[], (i : Int), _, 0, 0, rfl, rfl, Lib.hid rfl, Lib.hid rfl, Lib.hid (.inr ⟨i, hlt2, rfl⟩), HX0, HX1⟩
                case round =>
                  clear HX0 HX1
                  obtain ⟨xs, at_, A, l, c, rfl, rfl, HXL, HXC, HAT, HXO, HXB⟩ := hrel
                  obtain ⟨wI, hwI⟩ : ∃ x : World, x = wr := ⟨wr, rfl⟩
                  subst hwI
                  rcases HAT.out with hneg | ⟨a, ha, hae⟩
                  · have hatb : decide (0 ≤ at_) = false := decide_eq_false (by omega)
                    have HXE : Hid (xs = ch (i : Int)) := Lib.hid (by rw [← HXC.out, HCN.out _ hneg, List.append_nil])
                    have HO5 := Lib.hid (HO.out.ex HXB.out)
                    have HOO : Hid (Ow wI wL.heap.size 49 1 (.slice Am m cm) m us) := Lib.hid (by have h := HO5.out.outer; rw [HML.out] at h; exact h)
                    have HBI := Lib.hid (below_next0 HB.out HXB.out)
                    have hszI := HBI.out.size
                    have HRL := Lib.hid HO.out.rlt
                    go_wp2_with (first | (at_builtin; refine wpList_app wI rfl (.tmp 98) (.tmp 100) 22 rfl wL.heap.size 49 (.slice none 0 0) 1 24 Try.underlying22 infoII rfl (by omega) (.slice Am m cm) m us rfl HOO.out #[.slice A l c] 49 1 rfl rfl (by intro v hv; simp at hv; subst hv; rfl) (by omega) (by omega) hszI ?_; intro A7 c7 w7 ho7 hg7 hsz7 hor7; have HO7 := Lib.hid (OwII.snoc HO5.out (w0 := wT) HRL.out HXO.out hT (by rw [HML.out]; exact ho7) hg7); have HB7 := Lib.hid (below_own HBI.out HOO.out hg7 hszI (Nat.le_refl _)); clear ho7 hg7 hsz7 hor7) | fail)
                    go_roundw
                    case rel => exact ⟨i + 1, m + 1, c7, A7, us ++ [.slice A l c], rfl, by go_num, by omega, by omega, Lib.hid (by rw [HE.out, List.length_append, HML.out]; rfl), by rw [HE.out, ← HXE.out]; exact HO7, HB7⟩
                    case measure => simp [intOf]; omega
                  · have hl9 : l ≤ 9 := by
                      have h := HCL.out (i : Int)
                      rw [← HXC.out, List.length_append, HXL.out] at h
                      omega
                    obtain ⟨hf1, hf2⟩ := HFI.out a ha
                    have HF1 := Lib.hid hf1; have HF2 := Lib.hid hf2
                    have hai : (a : Int) < (n : Int) := by omega
                    have hszX := HXB.out.size
                    clear hf1 hf2
                    subst hae
                    go_wp2_with (first | (at_builtin; refine wpList_appI wI rfl (.tmp 94) (.tmp 96) rfl wT.heap.size wT.heap.size wT A l c xs (a : Int) 2 1 rfl HXO.out HXL.out rfl HXB.out (Nat.le_refl _) hszX (by omega) ?_; intro A3 c3 w3 ho3 hg3 hs3 hb3; have HO3 := Lib.hid ho3; have HB3 := Lib.hid hb3; have hcy := (HCE.out w3 (below_next0 HB.out hb3) a ha).1; clear ho3 hg3 hs3 hb3) | fail)
                    go_roundw
                    case rel => exact ⟨xs ++ [(a : Int)], iAt FL a, A3, l + 1, c3, rfl, rfl, Lib.hid (by rw [List.length_append, HXL.out]; rfl), Lib.hid (by rw [← HXC.out, HF1.out, List.append_assoc]; rfl), HF2, HO3, HB3⟩
                    case measure =>
                      show (ch (iAt FL a)).length < (ch (a : Int)).length
                      rw [HF1.out]; simp
            · have hin : i = n := by omega
              have hii : ¬ ((i : Int) < (n : Int)) := by omega
              have HRE : Hid (trkR gs ts = (tk i, 0)) := Lib.hid (by rw [HR.out, if_pos trivial, HTE.out, hin])
              have HBF := Lib.hid (below_next0 HBL.out HB.out)
              have HOF : Hid (OwII wT w.heap.size (.slice Am (tk i).length cm) us (tk i)) := Lib.hid (by rw [HML.out]; exact HO.out.mono hszr)
              clear hin
              go_wp2
              go_ret2
              exact ⟨Am, cm, by rw [HRE.out]; show _ = Ending.returned (.tuple #[.slice Am (tk i).length cm, .int .i64 0]); rw [HML.out]; rfl, ⟨us, by rw [HRE.out]; exact HOF.out⟩, HBF.out⟩
end Go.Proofs.Ytlgeddbgbcineaa
