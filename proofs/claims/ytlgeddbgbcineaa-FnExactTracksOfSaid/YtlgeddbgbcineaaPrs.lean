/-
l14Pairs and FewestCarriers of the reference. Condition: valid readings, followers that may follow.
-/
import Derived.Test.YtlgeddbgbcineaaGrw
import Derived.Test.YtlgeddbgbcineaaFewI
namespace Go.Proofs.Ytlgeddbgbcineaa
open Go.RowKit
set_option linter.unusedVariables false

def fxL (n k : Nat) : List Bool := (List.range n).map (fxK k)
theorem fxL_len (n k : Nat) : (fxL n k).length = n := by simp [fxL]
theorem fxL_at {n k j : Nat} (h : j < n) : bAt (fxL n k) j = fxK k j := by
  rw [bAt_eq (by rw [fxL_len]; exact h)]; simp [fxL]
theorem fxL_zero (n : Nat) : fxL n 0 = List.replicate n false := by
  apply List.ext_getElem (by simp [fxL])
  intro i h1 h2
  simp [fxL, fxK]
theorem fxL_succ {n k : Nat} (hk : k < n) : (fxL n k).set k true = fxL n (k + 1) := by
  apply List.ext_getElem (by simp [fxL])
  intro i h1 h2
  rw [List.getElem_set]
  by_cases e : k = i
  · subst e; simp [fxL, fxK]
  · rw [if_neg e]; simp [fxL, fxK]; omega
def negL (n k : Nat) : List Int := List.replicate k (-1) ++ List.replicate (n - k) 0
theorem negL_succ {n k : Nat} (hk : k < n) : (negL n k).set k (-1) = negL n (k + 1) := by
  unfold negL
  rw [set_take_rep _ _ _ _ hk _ (by simp), List.replicate_succ']
theorem negL_end (n : Nat) : negL n n = List.replicate n (-1) := by simp [negL]
theorem negL_zero (n : Nat) : negL n 0 = List.replicate n 0 := by simp [negL]
theorem negL_len {n k : Nat} (h : k ≤ n) : (negL n k).length = n := by simp [negL]; omega
theorem startK_le (n : Nat) (fs : List Int) : ∀ k, (startK n fs k).2 ≤ k
  | 0 => Nat.le_refl _
  | k + 1 => by have := startK_le n fs k; rw [startK]; split <;> (first | omega | (dsimp only; omega))
theorem run_step {E : Nat → Nat → Bool} {fx : Nat → Bool} {n s : Nat} {p : List Int × Nat} (k : Nat) : runK E fx n s p (k + 1) = ((growK E fx n (n + 1) (s + k) (runK E fx n s p k).1 (List.replicate n false)).2.1, if (growK E fx n (n + 1) (s + k) (runK E fx n s p k).1 (List.replicate n false)).1 = true then (runK E fx n s p k).2 + 1 else (runK E fx n s p k).2) := by
  rw [runK]; rfl
theorem run_cnt {E : Nat → Nat → Bool} {fx : Nat → Bool} {n s : Nat} {p : List Int × Nat} : ∀ k, (runK E fx n s p k).2 ≤ p.2 + k
  | 0 => Nat.le_refl _
  | k + 1 => by have := run_cnt (E := E) (fx := fx) (n := n) (s := s) (p := p) k; rw [run_step]; dsimp only; split <;> omega
theorem start_ed {E : Nat → Nat → Bool} {n : Nat} {fs : List Int} (h : FsOk E n fs) : ∀ k, k ≤ fs.length → Ed E n (startK n fs k).1 := by
  intro k hk b hb
  rcases start_at h k hk b hb with ⟨h1, _⟩ | ⟨i, h1, h2, h3⟩
  · exact .inl h1
  · refine .inr ⟨i, by have := h.len; omega, h3, ?_⟩
    rcases h.ed i (by omega) with h4 | ⟨c, hc, h4, h5⟩
    · omega
    · have : c = b := by omega
      subst this; exact h5

set_option maxRecDepth 100000 in
set_option maxHeartbeats 4000000 in
theorem l14Pairs_any (v u x : Value) (gs : List (List Int)) (ts : List Reading) (fs : List Int) (w : World) (hv : SlII w v gs) (hu : SlReading w u ts) (hx : SlI w x fs) (hok : readsOk gs ts = true) (hfs : FsOk (edG gs ts) ts.length fs) :
    Calls Try.prog 69 #[v, u, x] w fun e w' => e = .returned (.int .i64 ((pairsK (edG gs ts) ts.length fs : Nat) : Int)) ∧ Below w.heap.size w w' := by
  have HV := Lib.hid hv; have HU := Lib.hid hu
  obtain ⟨Ag, cg, rfl, hlg, _⟩ := hv.op
  obtain ⟨Ar, cr, rfl, hlr, har⟩ := hu.op
  obtain ⟨Ax, cx, rfl, hlx, hax⟩ := hx.op
  have h14 := (readsOk_ok hok).2.1
  have HAX := Lib.hid hax
  have hfl := hfs.len
  have HGR := Lib.hid (fun lo g1 g2 g3 hlo hg2 => l14Grow_any (.slice Ag gs.length cg) (.slice Ar ts.length cr) gs ts w HV.out HU.out hok (fxK fs.length) ts.length rfl lo g1 g2 g3 hlo hg2)
  have HPK : Hid (pairsK (edG gs ts) ts.length fs = (runK (edG gs ts) (fxK fs.length) ts.length fs.length (startK ts.length fs fs.length) (ts.length - fs.length)).2) := Lib.hid rfl
  have HED : Hid (∀ k, fs.length + k ≤ ts.length → (runK (edG gs ts) (fxK fs.length) ts.length fs.length (startK ts.length fs fs.length) k).1.length = ts.length ∧ Ed (edG gs ts) ts.length (runK (edG gs ts) (fxK fs.length) ts.length fs.length (startK ts.length fs fs.length) k).1) := Lib.hid (fun k hk => run_ed (edG gs ts) _ ts.length fs.length _ (start_len _ _ _) (start_ed hfs _ (Nat.le_refl _)) k hk)
  have HCN : Hid (∀ k, (runK (edG gs ts) (fxK fs.length) ts.length fs.length (startK ts.length fs fs.length) k).2 ≤ fs.length + k) := Lib.hid (fun k => by
    have h1 := run_cnt (E := edG gs ts) (fx := fxK fs.length) (n := ts.length) (s := fs.length) (p := startK ts.length fs fs.length) k
    have h2 := startK_le ts.length fs fs.length
    omega)
  have HRA := Lib.hid (fun k => run_step (E := edG gs ts) (fx := fxK fs.length) (n := ts.length) (s := fs.length) (p := startK ts.length fs fs.length) k)
  have HSE : Hid (∀ k, k < fs.length → iAt fs k = -1 ∨ ∃ b : Nat, b < ts.length ∧ iAt fs k = (b : Int)) := Lib.hid (fun k hk => (hfs.ed k hk).imp id (fun ⟨b, h1, h2, _⟩ => ⟨b, h1, h2⟩))
  have HR0 : Hid (runK (edG gs ts) (fxK fs.length) ts.length fs.length (startK ts.length fs fs.length) 0 = startK ts.length fs fs.length) := Lib.hid rfl
  generalize hE0 : edG gs ts = E at HGR HPK HED HCN HRA HR0
  clear hE0
  generalize hrr : runK E (fxK fs.length) ts.length fs.length (startK ts.length fs fs.length) = RN at HPK HED HCN HRA HR0
  generalize hpk : pairsK E ts.length fs = Q at HPK
  clear hrr hpk hv hu hx hok hfs har hax
  generalize hnn : ts.length = n at *
  clear hnn
  go_enter Try.func69, Try.ntmps69
  go_wp2_with (first
    | (at_make; refine wpList_make1 _ rfl (.tmp 14) (.tmp 14) _ rfl w.heap.size 3 (.int .i64 0) 8 Try.underlying80 infoN rfl .i64 .i64 n ?_ ?_ (by omega) (by omega) (Nat.le_refl _) ?_; rfl; rfl; intro w1 hown1 hb1 hsz1; have HO1 := Lib.hid hown1; have HB1 := Lib.hid hb1; clear hown1 hb1)
    | (at_make; refine wpList_make1 _ rfl (.tmp 17) (.tmp 17) _ rfl w.heap.size 4 (.bool false) 1 Try.underlying84 infoB rfl .i64 .i64 n ?_ ?_ (by omega) (by omega) (Nat.le_of_lt hsz1) ?_; rfl; rfl; intro w2 hown2 hb2 hsz2; have HO2 := Lib.hid hown2; have HB2 := Lib.hid (below_next0 HB1.out hb2); have HO1b := Lib.hid (HO1.out.ex hb2); clear hown2 hb2)
    | fail)
  have HT0 : Hid (Two w2 w.heap.size w.heap.size w1.heap.size n (negL n 0) (List.replicate n false)) := Lib.hid ⟨by rw [negL_zero, List.map_replicate]; exact HO1b.out, by rw [List.map_replicate]; exact HO2.out, by simp [negL], by simp, by omega⟩
  clear HO1 HO1b HO2 HB1
  go_loopw [10] (fun v10 wr => ∃ k : Nat, v10 = .int .i64 k ∧ k ≤ n ∧ Hid (Two wr w.heap.size w.heap.size w1.heap.size n (negL n k) (List.replicate n false)) ∧ Hid (Below w.heap.size w wr)) (fun v10 _ => n - (intOf v10).toNat)
  case atStart => exact ⟨0, rfl, by omega, HT0, HB2⟩
  case round =>
    clear HT0 HB2
    obtain ⟨k, rfl, hk, HT, HB⟩ := hrel
    by_cases hlt : k < n
    · have hki : (k : Int) < (n : Int) := by omega
      have hxc := HT.out.oc hlt; have hxf := HT.out.of_ k
      have HT1 : Hid (Two (wr.setCell ⟨w.heap.size, k, none⟩ (.int .i64 (-1))) w.heap.size w.heap.size w1.heap.size n (negL n (k + 1)) (List.replicate n false)) := Lib.hid (by rw [← negL_succ hlt]; exact HT.out.setO k (-1))
      have HB1 : Hid (Below w.heap.size w (wr.setCell ⟨w.heap.size, k, none⟩ (.int .i64 (-1)))) := Lib.hid (HB.out.setCell (p := ⟨w.heap.size, k, none⟩) (Nat.le_refl _) _)
      go_wp2
      go_roundw
      case rel => exact ⟨k + 1, by go_num, by omega, HT1, HB1⟩
      case measure => simp [intOf]; omega
    · have hki : ¬ ((k : Int) < (n : Int)) := by omega
      have HTS : Hid (Two wr w.heap.size w.heap.size w1.heap.size n (startK n fs 0).1 (fxL n 0)) := Lib.hid (by
        have e : k = n := by omega
        have h := HT.out
        rw [e, negL_end] at h
        rw [fxL_zero]; exact h)
      clear HT
      go_wp2
      obtain ⟨wA, rfl⟩ : ∃ wA : World, wA = wr := ⟨_, rfl⟩
      go_loopw [9, 11] (fun v9 v11 wr => ∃ k : Nat, v11 = .int .i64 k ∧ v9 = .int .i64 (((startK n fs k).2 : Nat) : Int) ∧ k ≤ fs.length ∧ Hid (Two wr w.heap.size w.heap.size w1.heap.size n (startK n fs k).1 (fxL n k)) ∧ Hid (Below w.heap.size w wr)) (fun _ v11 _ => fs.length - (intOf v11).toNat)
      case atStart => exact ⟨0, rfl, rfl, by omega, HTS, HB⟩
      case round =>
        clear HTS HB
        obtain ⟨k, rfl, rfl, hk, HT, HB⟩ := hrel
        by_cases hlt : k < fs.length
        · have hki : (k : Int) < (fs.length : Int) := by omega
          have hkn : k < n := by omega
          have hkni : (k : Int) < (n : Int) := by omega
          obtain ⟨bx, ox, hAx, hbx, hcx⟩ := HAX.out k hlt
          subst hAx
          have HXC : Hid (∀ W, Below w.heap.size w W → W.cell? ⟨bx, ox + k, none⟩ = some (.int .i64 (iAt fs k))) := Lib.hid (fun W hW => by rw [iAt_eq hlt]; exact (hW.cell (p := ⟨bx, ox + k, none⟩) hbx).trans (hcx k hlt))
          have hxt := HT.out.tc hkn; have hft := HT.out.tf k
          have hcn := startK_le n fs k
          have HT1 : Hid (Two (wr.setCell ⟨w1.heap.size, k, none⟩ (.bool true)) w.heap.size w.heap.size w1.heap.size n (startK n fs k).1 (fxL n (k + 1))) := Lib.hid (by rw [← fxL_succ hkn]; exact HT.out.setT k)
          have HB1 : Hid (Below w.heap.size w (wr.setCell ⟨w1.heap.size, k, none⟩ (.bool true))) := Lib.hid (HB.out.setCell (p := ⟨w1.heap.size, k, none⟩) (Nat.le_of_lt hsz1) _)
          have hxx := HXC.out _ HB1.out
          have HST : Hid (startK n fs (k + 1) = if 0 ≤ iAt fs k then ((startK n fs k).1.set (iAt fs k).toNat (k : Int), (startK n fs k).2 + 1) else startK n fs k) := Lib.hid rfl
          have hse := HSE.out k hlt
          generalize iAt fs k = y at hxx HST hse
          clear hcx HXC
          rcases hse with hse | ⟨b, hb, hse⟩
          · subst hse
            have HT2 : Hid (Two (wr.setCell ⟨w1.heap.size, k, none⟩ (.bool true)) w.heap.size w.heap.size w1.heap.size n (startK n fs (k + 1)).1 (fxL n (k + 1))) := Lib.hid (by rw [HST.out, if_neg (by omega)]; exact HT1.out)
            have HS2 : Hid ((startK n fs (k + 1)).2 = (startK n fs k).2) := Lib.hid (by rw [HST.out, if_neg (by omega)])
            go_wp2
            go_roundw
            case rel => exact ⟨k + 1, by go_num, by rw [HS2.out], by omega, HT2, HB1⟩
            case measure => simp [intOf]; omega
          · subst hse
            have hbi : (b : Int) < (n : Int) := by omega
            have hxo := HT1.out.oc hb; have hfo := HT1.out.of_ b
            have HT2 : Hid (Two ((wr.setCell ⟨w1.heap.size, k, none⟩ (.bool true)).setCell ⟨w.heap.size, b, none⟩ (.int .i64 (k : Int))) w.heap.size w.heap.size w1.heap.size n (startK n fs (k + 1)).1 (fxL n (k + 1))) := Lib.hid (by rw [HST.out, if_pos (by omega), Int.toNat_natCast]; exact HT1.out.setO b (k : Int))
            have HS2 : Hid ((startK n fs (k + 1)).2 = (startK n fs k).2 + 1) := Lib.hid (by rw [HST.out, if_pos (by omega)])
            have HB2 : Hid (Below w.heap.size w ((wr.setCell ⟨w1.heap.size, k, none⟩ (.bool true)).setCell ⟨w.heap.size, b, none⟩ (.int .i64 (k : Int)))) := Lib.hid (HB1.out.setCell (p := ⟨w.heap.size, b, none⟩) (Nat.le_refl _) _)
            go_wp2
            go_roundw
            case rel => exact ⟨k + 1, by go_num, by rw [HS2.out]; go_num, by omega, HT2, HB2⟩
            case measure => simp [intOf]; omega
        · obtain rfl : k = fs.length := by omega
          have hki : ¬ ((fs.length : Int) < (fs.length : Int)) := by omega
          have HTS : Hid (Two wr w.heap.size w.heap.size w1.heap.size n (RN 0).1 (fxL n fs.length)) := Lib.hid (by rw [HR0.out]; exact HT.out)
          have HS0 : Hid ((RN 0).2 = (startK n fs fs.length).2) := Lib.hid (by rw [HR0.out])
          clear HT
          go_wp2
          obtain ⟨wB, rfl⟩ : ∃ wB : World, wB = wr := ⟨_, rfl⟩
          go_loopw [9, 12] (fun v9 v12 wr => ∃ i k : Nat, v12 = .int .i64 (i : Int) ∧ v9 = .int .i64 (((RN k).2 : Nat) : Int) ∧ i ≤ n ∧ Hid (i = fs.length + k) ∧ Hid (Two wr w.heap.size w.heap.size w1.heap.size n (RN k).1 (fxL n fs.length)) ∧ Hid (Below w.heap.size w wr)) (fun _ v12 _ => n - (intOf v12).toNat)
          case atStart => exact ⟨fs.length, 0, rfl, by rw [HS0.out], by omega, Lib.hid rfl, HTS, HB⟩
          case round =>
            clear HTS HB
            obtain ⟨i, k, rfl, rfl, hi, HIK, HT, HB⟩ := hrel
            by_cases hlt : i < n
            · have hii : (i : Int) < (n : Int) := by omega
              obtain ⟨hel, hed⟩ := HED.out k (by have := HIK.out; omega)
              have hcn : (RN k).2 ≤ 14 := by have h1 := HCN.out k; have := HIK.out; omega
              have HRK := Lib.hid (HRA.out k)
              rw [← HIK.out] at HRK
              have HEDK := Lib.hid hed
              have hg1w := HT.out.g1lo.2; have hg2w := HT.out.g2lo.2
              have hbsz := HB.out.size
              clear hel hed
              go_wp2_with (first
                | (at_make; refine wpList_make1 _ rfl (.tmp 65) (.tmp 65) _ rfl w.heap.size 4 (.bool false) 1 Try.underlying84 infoB rfl .i64 .i64 n ?_ ?_ (by omega) (by omega) hbsz ?_; rfl; rfl; intro w3 hown3 hb3 hsz3; have HO3 := Lib.hid hown3; have HB3 := Lib.hid (below_next0 HB.out hb3); have HT3 := Lib.hid (HT.out.ex hb3); clear hown3 hb3)
                | fail)
              have HT4 : Hid (Two w3 w.heap.size w.heap.size wr.heap.size n (RN k).1 (List.replicate n false)) := Lib.hid ⟨HT3.out.o, by rw [List.map_replicate]; exact HO3.out, HT3.out.lo1, by simp, by omega⟩
              have hnr : ¬ R2 w.heap.size wr.heap.size w1.heap.size := by rintro (h | h) <;> omega
              refine (HGR.out w.heap.size w.heap.size w1.heap.size wr.heap.size (Nat.le_refl _) hnr (n + 1) i (RN k).1 (List.replicate n false) w3 HB3.out HT4.out ⟨HT3.out.g2lo.2, fun j hj => by rw [HT3.out.tc hj, fxL_at hj]⟩ hlt HEDK.out (by simp [untr])).mono ?_
              rintro eA wA ⟨rfl, htA, hgA⟩
              have HTA : Hid (Two wA w.heap.size w.heap.size w1.heap.size n (growK E (fxK fs.length) n (n + 1) i (RN k).1 (List.replicate n false)).2.1 (fxL n fs.length)) := Lib.hid ⟨htA.o, Ow.off HT3.out.t hgA (fun g hg hr => hnr (by
                have e : w1.heap.size = g := by simpa [Value.ownBlock] using hg
                rw [e]; exact hr)), htA.lo1, HT3.out.lt1, HT3.out.ne⟩
              have HBA : Hid (Below w.heap.size w wA) := Lib.hid (HB3.out.trans (GrS.below hgA (fun k _ hk => by rcases hk with rfl | rfl <;> omega) HB3.out.size))
              clear htA hgA HT4 HT3 HO3
              generalize growK E (fxK fs.length) n (n + 1) i (RN k).1 (List.replicate n false) = q at HRK HTA
              obtain ⟨q1, q2, q3⟩ := q
              have HIK2 : Hid (i + 1 = fs.length + (k + 1)) := Lib.hid (by have := HIK.out; omega)
              cases q1 with
              | true =>
                have HRF : Hid (RN (k + 1) = (q2, (RN k).2 + 1)) := Lib.hid (by rw [HRK.out]; rfl)
                go_wp2
                go_roundw
                case rel => exact ⟨i + 1, k + 1, by go_num, by rw [HRF.out]; go_num, by omega, HIK2, by rw [HRF.out]; exact HTA, HBA⟩
                case measure => simp [intOf]; omega
              | false =>
                have HRF : Hid (RN (k + 1) = (q2, (RN k).2)) := Lib.hid (by rw [HRK.out]; rfl)
                go_wp2
                go_roundw
                case rel => exact ⟨i + 1, k + 1, by go_num, by rw [HRF.out], by omega, HIK2, by rw [HRF.out]; exact HTA, HBA⟩
                case measure => simp [intOf]; omega
            · have hii : ¬ ((i : Int) < (n : Int)) := by omega
              have HKE : Hid (Q = (RN k).2) := Lib.hid (by
                have h1 := HIK.out
                rw [HPK.out, show n - fs.length = k by omega])
              go_wp2
              go_ret
              rw [HKE.out]
              exact ⟨rfl, HB.out⟩

set_option maxRecDepth 100000 in
set_option maxHeartbeats 4000000 in
theorem specFewest_any (v u : Value) (gs : List (List Int)) (ts : List Reading) (w : World) (hv : SlII w v gs) (hu : SlReading w u ts) :
    Calls Try.prog 43 #[v, u] w fun e w' => e = .returned (.tuple #[.int .i64 (fewR gs ts).1, .int .i64 (fewR gs ts).2]) ∧ Below w.heap.size w w' := by
  have HV := Lib.hid hv; have HU := Lib.hid hu
  obtain ⟨Ar, cr, rfl, hlr, har⟩ := hu.op
  clear hv hu har
  have HR : Hid (fewR gs ts = if readsOk gs ts = true then (((fewG gs ts : Nat) : Int), 0) else (0, 1)) := Lib.hid rfl
  cases hok : readsOk gs ts with
  | false =>
    have HC := Lib.hid (l14Ok_any _ _ gs ts w HV.out HU.out)
    rw [hok] at HC HR
    clear hok
    go_enter Try.func43, Try.ntmps43
    go_wp2_with fail
    refine HC.out.mono ?_
    rintro e w1 ⟨rfl, hb1⟩
    have HB1 := Lib.hid hb1
    clear hb1
    go_wp2
    go_ret2
    exact ⟨by rw [HR.out]; rfl, HB1.out⟩
  | true =>
    have HC := Lib.hid (l14Ok_any _ _ gs ts w HV.out HU.out)
    have HOK := Lib.hid hok
    have h14 := (readsOk_ok hok).2.1
    have HFI := Lib.hid (fewG_int gs ts)
    have hml := most_le (edG gs ts) ts.length
    have HPN : Hid (pairsK (edG gs ts) ts.length [] = mostK (edG gs ts) ts.length) := Lib.hid (pairs_nil _ _)
    rw [hok] at HC HR
    clear hok
    go_enter Try.func43, Try.ntmps43
    go_wp2_with fail
    refine HC.out.mono ?_
    rintro e w1 ⟨rfl, hb1⟩
    have HB1 := Lib.hid hb1
    clear hb1
    have hal := below_alloc w1 (.cells #[] 3)
    have HBE := Lib.hid (below_next0 HB1.out hal)
    have HSE := Lib.hid (show SlI (w1.alloc (.cells #[] 3)) (.slice (some ⟨w1.heap.size, 0, none⟩) 0 0) [] from ⟨_, 0, rfl, rfl, by simp, fun h => absurd h (by simp)⟩)
    clear hal
    go_wp2_with fail
    refine (l14Pairs_any _ _ _ gs ts [] _ (HV.out.ex HBE.out) (HU.out.ex HBE.out) HSE.out HOK.out (FsOk.nil _ _)).mono ?_
    rintro e w3 ⟨rfl, hb3⟩
    rw [HPN.out]
    have HB3 := Lib.hid (below_next0 HBE.out hb3)
    clear hb3
    generalize mostK (edG gs ts) ts.length = q at HFI hml
    go_wp2
    go_ret2
    exact ⟨by rw [HR.out, ← HFI.out]; rfl, HB3.out⟩
end Go.Proofs.Ytlgeddbgbcineaa
