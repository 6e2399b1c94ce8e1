/-
TracksOf of the reference. Condition: the slices read as lists.
-/
import Derived.Test.YtlgeddbgbcineaaTrkS
namespace Go.Proofs.Ytlgeddbgbcineaa
open Go.RowKit
set_option linter.unusedVariables false

set_option maxRecDepth 100000 in
set_option maxHeartbeats 2000000 in
theorem specTracks_any (v u : Value) (gs : List (List Int)) (ts : List Reading) (w : World) (hv : SlII w v gs) (hu : SlReading w u ts) :
    Calls Try.prog 47 #[v, u] w fun e w' => ∃ A c us, e = .returned (.tuple #[.slice A (trkR gs ts).1.length c, .int .i64 (trkR gs ts).2]) ∧ OwII w' w.heap.size (.slice A (trkR gs ts).1.length c) us (trkR gs ts).1 ∧ Below w.heap.size w w' := by
  have HV := Lib.hid hv; have HU := Lib.hid hu
  obtain ⟨Ar, cr, rfl, hlr, har⟩ := hu.op
  clear hv hu har
  have HR : Hid (trkR gs ts = if readsOk gs ts = true then (trG gs ts, 0) else ([], 1)) := Lib.hid rfl
  have HNIL := Lib.hid (fun w' : World => owII_nil w' w.heap.size)
  cases hok : readsOk gs ts with
  | false =>
    have HC := Lib.hid (l14Ok_any _ _ gs ts w HV.out HU.out)
    rw [hok] at HC HR
    clear hok
    go_enter Try.func47, Try.ntmps47
    go_wp2_with fail
    refine HC.out.mono ?_
    rintro e w1 ⟨rfl, hb1⟩
    have HB1 := Lib.hid hb1
    clear hb1
    go_wp2
    go_ret2
    exact ⟨none, 0, [], by rw [HR.out]; rfl, by rw [HR.out]; exact HNIL.out _, HB1.out⟩
  | true =>
    have HC := Lib.hid (l14Ok_any _ _ gs ts w HV.out HU.out)
    have HOK := Lib.hid hok
    have h14 := (readsOk_ok hok).2.1
    have HRI := Lib.hid (riseG hok)
    have HFL := Lib.hid (fsG_len gs ts)
    have HTR : Hid (trG gs ts = trK (fsG gs ts) ts.length) := Lib.hid rfl
    rw [hok] at HC HR
    clear hok
    go_enter Try.func47, Try.ntmps47
    go_wp2_with fail
    refine HC.out.mono ?_
    rintro e w1 ⟨rfl, hb1⟩
    have HB1 := Lib.hid hb1
    clear hb1
    go_wp2_with fail
    refine (l14Follow_any _ _ gs ts w1 (HV.out.ex HB1.out) (HU.out.ex HB1.out) HOK.out).mono ?_
    rintro e wF ⟨AF, cF, rfl, hoF, hbF⟩
    have HBF := Lib.hid (below_next0 HB1.out hbF)
    have HSF := Lib.hid hoF.sl
    clear hoF hbF HC HB1 HV HU
    generalize trG gs ts = TR at HR HTR
    generalize fsG gs ts = FL at HRI HFL HTR HSF
    have HLV : Hid (∃ lv, Rise lv ts.length FL) := Lib.hid ⟨_, HRI.out⟩
    clear HRI HOK
    generalize hnn : ts.length = n at *
    clear hnn
    have HCE : Hid (∀ W, Below wF.heap.size wF W → ∀ i, i < n → ∃ g o, AF = some ⟨g, o, none⟩ ∧ W.cell? ⟨g, o + i, none⟩ = some (.int .i64 (iAt FL i))) := Lib.hid (fun W hW i hi => by
      obtain ⟨A0, c0, hv0, _, hc0⟩ := (HSF.out.ex hW).op
      have hi2 : i < FL.length := by rw [HFL.out]; exact hi
      obtain ⟨g, o, h1, _, h2⟩ := hc0 i hi2
      injection hv0 with hv0 _ _
      subst hv0
      exact ⟨g, o, h1, by rw [iAt_eq hi2]; exact h2 i hi2⟩)
    have HHS : Hid (∀ W, Below wF.heap.size wF W → ∀ j : Int, Calls Try.prog 74 #[.slice AF n cF, .int .i64 j] W fun e w' => e = .returned (.bool (FL.contains j)) ∧ W = w') := Lib.hid (fun W hW j => l14Has_any _ FL j W (HSF.out.ex hW) (by rw [HFL.out]; omega))
    have HTS : Hid (∀ i, trK FL (i + 1) = if FL.contains (i : Int) = true then trK FL i else trK FL i ++ [chn FL (i : Int)]) := Lib.hid (fun _ => rfl)
    have HTL : Hid (∀ i, (trK FL i).length ≤ i) := Lib.hid (fun i => by have := trK_len FL i; omega)
    have HT0 : Hid (trK FL 0 = []) := Lib.hid rfl
    have HFI : Hid (∀ a : Nat, a < n → chn FL (a : Int) = (a : Int) :: chn FL (iAt FL a) ∧ (iAt FL a < 0 ∨ ∃ b : Nat, b < n ∧ iAt FL a = (b : Int))) := Lib.hid (fun a ha => by
      obtain ⟨lv, hlv⟩ := HLV.out
      refine ⟨chn_pos hlv ha, ?_⟩
      rcases (hlv a ha).2 with h | ⟨b, hb, h, _⟩
      · exact .inl (by omega)
      · exact .inr ⟨b, hb, h⟩)
    have HCL : Hid (∀ x, (chn FL x).length ≤ 9) := Lib.hid (fun x => chn_len)
    have HCN : Hid (∀ x, x < 0 → chn FL x = []) := Lib.hid (fun x h => chn_neg FL h)
    have HOE := Lib.hid (owII_empty wF wF.heap.size (Nat.le_refl _))
    have HBE := Lib.hid (below_alloc wF (.cells #[] 49))
    have hszr := HBF.out.size
    generalize hchn : chn FL = ch at HTS HFI HCL HCN
    generalize htrk : trK FL = tk at HTS HTL HT0
    have HTE : Hid (TR = tk n) := Lib.hid (by rw [HTR.out, htrk])
    clear hchn htrk HTR HSF
    go_wp2
    go_loopw [7, 8, 9, 10] (fun v7 v8 _ _ wr => ∃ (i m c : Nat) (A : Option Addr) (us : List Value), v7 = .slice A m c ∧ v8 = .int .i64 i ∧ i ≤ n ∧ m ≤ i ∧ Hid ((tk i).length = m) ∧ Hid (OwII wr wF.heap.size (.slice A m c) us (tk i)) ∧ Hid (Below wF.heap.size wF wr)) (fun _ v8 _ _ _ => n - (intOf v8).toNat)
    case atStart => exact ⟨0, 0, 0, _, [], rfl, rfl, by omega, by omega, Lib.hid (by rw [HT0.out]; rfl), by rw [HT0.out]; exact HOE, HBE⟩
    case round =>
      clear HOE HBE
      obtain ⟨i, m, cm, Am, us, rfl, rfl, hi, hmi, HML, HO, HB⟩ := hrel
      by_cases hlt2 : i < n
      · have hii : (i : Int) < (n : Int) := by omega
        have HTSI := Lib.hid (HTS.out i)
        go_wp2_with fail
        refine (HHS.out wr HB.out (i : Int)).mono ?_
        rintro e wH ⟨rfl, rfl⟩
        cases hcb : FL.contains (i : Int) with
        | true =>
          rw [hcb] at HTSI
          have HE : Hid (tk (i + 1) = tk i) := Lib.hid (by rw [HTSI.out]; rfl)
          clear hcb
          go_wp2
          go_roundw
          case rel => exact ⟨i + 1, m, cm, Am, us, rfl, by go_num, by omega, by omega, by rw [HE.out]; exact HML, by rw [HE.out]; exact HO, HB⟩
          case measure => simp [intOf]; omega
        | false =>
          rw [hcb] at HTSI
          have HE : Hid (tk (i + 1) = tk i ++ [ch (i : Int)]) := Lib.hid (by rw [HTSI.out]; rfl)
          have hT := HB.out.size
          have HX0 := Lib.hid (owI_empty wr wr.heap.size (Nat.le_refl _))
          have HX1 := Lib.hid (below_alloc wr (.cells #[] 2))
          clear hcb
          obtain ⟨wT, hwT⟩ : ∃ x : World, x = wr := ⟨wr, rfl⟩
          subst hwT
          go_wp2
          go_loopw [9, 10] (fun v9 v10 wr => ∃ (xs : List Int) (at_ : Int) (A : Option Addr) (l c : Nat), v9 = .slice A l c ∧ v10 = .int .i64 at_ ∧ Hid (xs.length = l) ∧ Hid (xs ++ ch at_ = ch (i : Int)) ∧ Hid (at_ < 0 ∨ ∃ b : Nat, b < n ∧ at_ = (b : Int)) ∧ Hid (OwI wr wT.heap.size (.slice A l c) xs) ∧ Hid (Below wT.heap.size wT wr)) (fun _ v10 _ => (ch (intOf v10)).length)
          case atStart => exact ⟨[], (i : Int), _, 0, 0, rfl, rfl, Lib.hid rfl, Lib.hid rfl, Lib.hid (.inr ⟨i, hlt2, rfl⟩), HX0, HX1⟩
          case round =>
            clear HX0 HX1
            obtain ⟨xs, at_, A, l, c, rfl, rfl, HXL, HXC, HAT, HXO, HXB⟩ := hrel
            obtain ⟨wI, hwI⟩ : ∃ x : World, x = wr := ⟨wr, rfl⟩
            subst hwI
            rcases HAT.out with hneg | ⟨a, ha, hae⟩
            · have hatb : decide (0 ≤ at_) = false := decide_eq_false (by omega)
              have HXE : Hid (xs = ch (i : Int)) := Lib.hid (by rw [← HXC.out, HCN.out _ hneg, List.append_nil])
              have HO5 := Lib.hid (HO.out.ex HXB.out)
              have HOO : Hid (Ow wI wF.heap.size 49 1 (.slice Am m cm) m us) := Lib.hid (by have h := HO5.out.outer; rw [HML.out] at h; exact h)
              have HBI := Lib.hid (below_next0 HB.out HXB.out)
              have hszI := HBI.out.size
              have HRL := Lib.hid HO.out.rlt
              go_wp2_with (first | (at_builtin; refine wpList_app wI rfl (.tmp 40) (.tmp 42) 22 rfl wF.heap.size 49 (.slice none 0 0) 1 24 Try.underlying22 infoII rfl (by omega) (.slice Am m cm) m us rfl HOO.out #[.slice A l c] 49 1 rfl rfl (by intro v hv; simp at hv; subst hv; rfl) (by omega) (by omega) hszI ?_; intro A7 c7 w7 ho7 hg7 hsz7 hor7; have HO7 := Lib.hid (OwII.snoc HO5.out (w0 := wT) HRL.out HXO.out hT (by rw [HML.out]; exact ho7) hg7); have HB7 := Lib.hid (below_own HBI.out HOO.out hg7 hszI (Nat.le_refl _)); clear ho7 hg7 hsz7 hor7) | fail)
              go_roundw
              case rel => exact ⟨i + 1, m + 1, c7, A7, us ++ [.slice A l c], rfl, by go_num, by omega, by omega, Lib.hid (by rw [HE.out, List.length_append, HML.out]; rfl), by rw [HE.out, ← HXE.out]; exact HO7, HB7⟩
              case measure => simp [intOf]; omega
            · have hl9 : l ≤ 9 := by
                have h := HCL.out (i : Int)
                rw [← HXC.out, List.length_append, HXL.out] at h
                omega
              obtain ⟨hf1, hf2⟩ := HFI.out a ha
              have HF1 := Lib.hid hf1; have HF2 := Lib.hid hf2
              have hai : (a : Int) < (n : Int) := by omega
              have hszX := HXB.out.size
              obtain ⟨gF, oF, rfl, _⟩ := HCE.out wI (below_next0 HB.out HXB.out) a ha
              have HCA : Hid (∀ W, Below wF.heap.size wF W → W.cell? ⟨gF, oF + a, none⟩ = some (.int .i64 (iAt FL a))) := Lib.hid (fun W hW => by
                obtain ⟨g, o, h1, h2⟩ := HCE.out W hW a ha
                injection h1 with h1
                injection h1 with h8 h9 _
                subst h8 h9
                exact h2)
              clear hf1 hf2
              subst hae
              go_wp2_with (first | (at_builtin; refine wpList_appI wI rfl (.tmp 36) (.tmp 38) rfl wT.heap.size wT.heap.size wT A l c xs (a : Int) 2 1 rfl HXO.out HXL.out rfl HXB.out (Nat.le_refl _) hszX (by omega) ?_; intro A3 c3 w3 ho3 hg3 hs3 hb3; have HO3 := Lib.hid ho3; have HB3 := Lib.hid hb3; have hcy := HCA.out w3 (below_next0 HB.out hb3); clear ho3 hg3 hs3 hb3) | fail)
              go_roundw
              case rel => exact ⟨xs ++ [(a : Int)], iAt FL a, A3, l + 1, c3, rfl, rfl, Lib.hid (by rw [List.length_append, HXL.out]; rfl), Lib.hid (by rw [← HXC.out, HF1.out, List.append_assoc]; rfl), HF2, HO3, HB3⟩
              case measure =>
                show (ch (iAt FL a)).length < (ch (a : Int)).length
                rw [HF1.out]; simp
      · have hin : i = n := by omega
        have hii : ¬ ((i : Int) < (n : Int)) := by omega
        have HRE : Hid (trkR gs ts = (tk i, 0)) := Lib.hid (by rw [HR.out, if_pos trivial, HTE.out, hin])
        have HBZ := Lib.hid (below_next0 HBF.out HB.out)
        have HOF : Hid (OwII wr w.heap.size (.slice Am (tk i).length cm) us (tk i)) := Lib.hid (by rw [HML.out]; exact HO.out.mono hszr)
        clear hin
        go_wp2
        go_ret2
        exact ⟨Am, cm, by rw [HRE.out]; show _ = Ending.returned (.tuple #[.slice Am (tk i).length cm, .int .i64 0]); rw [HML.out]; rfl, ⟨us, by rw [HRE.out]; exact HOF.out⟩, HBZ.out⟩
end Go.Proofs.Ytlgeddbgbcineaa
