/-
FnTracks returns true for all arguments: tracks explain all readings, none are fewer than the told ones, and there are not fewer carriers than readings of a sensor; the argument stays as it was. No condition beyond the form's own reach.
-/
import Derived.Test.YtlgeddbgbcineaaRows
import Derived.Test.YtlgeddbgbcineaaLaw
import Derived.Test.YtlgeddbgbcineaaTrkQ
namespace Go.Proofs.Ytlgeddbgbcineaa
open Go.ChangeShapes Go.WideShapes Go.ChangeAt Go.RowKit Go.Deep Go.Joins
set_option linter.unusedVariables false

set_option maxRecDepth 100000 in
set_option maxHeartbeats 1000000 in
theorem lawTracks_any (v0 : Value) (x0 : List Int) (w : World) (h0 : SlB w v0 x0) : Calls Try.prog 12 #[v0] w fun e w' => e = .returned (.bool true) ∧ Below w.heap.size w w' := by
  have HV := Lib.hid h0
  clear h0
  by_cases hl : 3000 < x0.length
  · have HL := Lib.hid (a2Long_any v0 _ x0 [] w HV.out (slB_nil w))
    rw [show (decide (3000 < x0.length) || decide (3000 < ([] : List Int).length)) = true by simp [hl]] at HL
    go_enter Try.func12, Try.ntmps12
    go_wp2_with fail
    refine HL.out.mono ?_
    rintro e w1 ⟨rfl, rfl⟩
    go_wp2
    go_ret
    exact ⟨rfl, Below.refl _ _⟩
  · have HL := Lib.hid (a2Long_any v0 _ x0 [] w HV.out (slB_nil w))
    rw [show (decide (3000 < x0.length) || decide (3000 < ([] : List Int).length)) = false by simp [hl]] at HL
    go_enter Try.func12, Try.ntmps12
    go_wp2_with fail
    refine HL.out.mono ?_
    rintro e w1 ⟨rfl, rfl⟩
    clear HL
    go_wp2_with fail
    refine (specRead_any v0 x0 _ HV.out (by omega)).mono ?_
    rintro e w1 ⟨A, B, c, d, gs, ts, hgok, hl12, hfit, rfl, hg, ht, hb1⟩
    have hok : readsOk gs ts = true := by
      unfold readsOk
      rw [hgok, decide_eq_true (show ts.length ≤ 14 by omega), Bool.true_and, Bool.true_and, List.all_eq_true]
      exact fun x hx => (hfit x hx).1
    obtain ⟨few, m, TR, CT, LS, hK⟩ := tracks_tell hok
    have hg8 : gs.length < 8 := (readsOk_at hok).1
    have HK := Lib.hid hK
    have HG1 := Lib.hid hg; have HT1 := Lib.hid ht; have HB1 := Lib.hid hb1
    have HIF := Lib.hid (fun W (a : SlII W (.slice A gs.length c) gs) (b : SlReading W (.slice B ts.length d) ts) => implFewest_any _ _ gs ts W a b)
    have HIT := Lib.hid (fun W (a : SlII W (.slice A gs.length c) gs) (b : SlReading W (.slice B ts.length d) ts) => implTracks_any _ _ gs ts W a b)
    have HIA := Lib.hid (fun W (a : SlII W (.slice A gs.length c) gs) (b : SlReading W (.slice B ts.length d) ts) (v : Value) (h : SlII W v TR) => implAre_any _ _ v gs ts TR W a b h)
    have HIS := Lib.hid (fun W (a : SlII W (.slice A gs.length c) gs) (b : SlReading W (.slice B ts.length d) ts) => implSeen_any _ _ gs ts W a b)
    have HIL := Lib.hid (fun W (a : SlII W (.slice A gs.length c) gs) (b : SlReading W (.slice B ts.length d) ts) (v : Value) (h : SlII W v TR) => implLost_any _ _ v gs ts TR W a b h)
    have HIN := Lib.hid (fun W (a : SlII W (.slice A gs.length c) gs) (b : SlReading W (.slice B ts.length d) ts) (v : Value) (h : SlII W v (snG ts.length)) => implAre_any _ _ v gs ts (snG ts.length) W a b h)
    rw [hK.fr] at HIF; rw [hK.trk] at HIT; rw [hK.are] at HIA; rw [hK.seen] at HIS; rw [hK.lost] at HIL; rw [hK.sing] at HIN
    dsimp only at HIF HIT HIA HIS HIL HIN
    rw [hK.trl] at HIT
    have hfl := hK.fewl
    have hGl : gs.length ≤ 17592186044416 := by omega
    clear hK hg ht hb1 hok hgok hfit HV
    go_wp2_with fail
    refine (HIF.out _ HG1.out HT1.out).mono ?_
    rintro e w2 ⟨rfl, hb2⟩
    have HB2 := Lib.hid (below_next0 HB1.out hb2); have HG2 := Lib.hid (HG1.out.ex hb2); have HT2 := Lib.hid (HT1.out.ex hb2)
    clear hb2 HIF HB1 HG1 HT1
    go_wp2_with fail
    refine (HIT.out _ HG2.out HT2.out).mono ?_
    rintro e w3 ⟨A3, c3, us3, rfl, ho3, hb3⟩
    have HB3 := Lib.hid (below_next0 HB2.out hb3); have HG3 := Lib.hid (HG2.out.ex hb3); have HT3 := Lib.hid (HT2.out.ex hb3); have HR3 := Lib.hid ho3.sl
    clear hb3 ho3 HIT HB2 HG2 HT2
    go_wp2_with fail
    refine (HIA.out _ HG3.out HT3.out _ HR3.out).mono ?_
    rintro e w4 ⟨rfl, hb4⟩
    have HB4 := Lib.hid (below_next0 HB3.out hb4); have HG4 := Lib.hid (HG3.out.ex hb4); have HT4 := Lib.hid (HT3.out.ex hb4); have HR4 := Lib.hid (HR3.out.ex hb4)
    clear hb4 HIA HB3 HG3 HT3 HR3
    go_wp2_with fail
    refine (HIS.out _ HG4.out HT4.out).mono ?_
    rintro e w5 ⟨A5, c5, rfl, ho5, hb5⟩
    have HB5 := Lib.hid (below_next0 HB4.out hb5); have HG5 := Lib.hid (HG4.out.ex hb5); have HT5 := Lib.hid (HT4.out.ex hb5); have HR5 := Lib.hid (HR4.out.ex hb5); have HC5 := Lib.hid ho5.sl
    clear hb5 ho5 HIS HB4 HG4 HT4 HR4
    go_wp2_with fail
    refine (HIL.out _ HG5.out HT5.out _ HR5.out).mono ?_
    rintro e w6 ⟨A6, c6, rfl, ho6, hb6⟩
    have HB6 := Lib.hid (below_next0 HB5.out hb6); have HG6 := Lib.hid (HG5.out.ex hb6); have HT6 := Lib.hid (HT5.out.ex hb6); have HC6 := Lib.hid (HC5.out.ex hb6); have HL6 := Lib.hid ho6.sl
    clear hb6 ho6 HIL HB5 HG5 HT5 HR5 HC5
    have hS1 := Lib.hid (a2Sum_any _ CT w6 HC6.out (by have h1 := HK.out.ctl; have h2 := HK.out.ml; omega) HK.out.ctb)
    have hS2 := Lib.hid (a2Sum_any _ LS w6 HL6.out (by have h1 := HK.out.lsl; have h2 := HK.out.ml; omega) HK.out.lsb)
    rw [HK.out.cts] at hS1
    have hls := HK.out.lss
    generalize LS.sum = ls at hS2 hls
    have hml : ((m : Nat) : Int) = (gs.length : Int) + 1 := by have := HK.out.ml; omega
    have hmb : (((m : Nat) : Int) != (gs.length : Int) + 1) = false := by rw [hml]; simp
    rw [HK.out.ctl] at hS1; rw [HK.out.lsl] at hS2
    rw [HK.out.ctl, HK.out.lsl]
    have hlb : ¬ ((few : Int) < ls) := by omega
    clear hml
    go_wp2_with fail
    refine hS1.out.mono ?_
    rintro e w7 ⟨rfl, rfl⟩
    go_wp2_with fail
    refine hS2.out.mono ?_
    rintro e w8 ⟨rfl, rfl⟩
    have HO0 := Lib.hid (owRows_nil w6 w6.heap.size (Nat.le_refl _))
    have HX0 := Lib.hid (below_alloc w6 (.cells #[] 49))
    clear hS1 hS2 hls
    go_wp2
    go_loopw [15, 16] (fun v15 v16 wr => ∃ (k c : Nat) (A : Option Addr) (us : List Value), v15 = .slice A k c ∧ v16 = .int .i64 k ∧ k ≤ ts.length ∧ Hid (OwRows wr w6.heap.size (.slice A k c) k us (snG k)) ∧ Hid (Below w6.heap.size w6 wr)) (fun _ v16 _ => ts.length - (intOf v16).toNat)
    case atStart => exact ⟨0, 0, _, [], rfl, rfl, Nat.zero_le _, HO0, HX0⟩
    case round =>
      clear HO0 HX0
      obtain ⟨k, ck, Ak, us, rfl, rfl, hk, HO, HX⟩ := hrel
      have hszX := HX.out.size
      by_cases hlt : k < ts.length
      · have hki : (k : Int) < (ts.length : Int) := by omega
        have hal := below_alloc wr (.cells #[.int .i64 (k : Int)] 2)
        have HO2 := Lib.hid (HO.out.ex hal)
        have HX2 := Lib.hid (below_next0 HX.out hal)
        have HRW : Hid (OwI (wr.alloc (.cells #[.int .i64 (k : Int)] 2)) w6.heap.size (.slice (some ⟨wr.heap.size, 0, none⟩) 1 1) [(k : Int)]) := Lib.hid (Ow.lay wr 2 #[.int .i64 (k : Int)] 1 hszX (by omega) rfl)
        have hsz2 := HX2.out.size
        clear hal
        go_wp2_with (first
          | (at_builtin; refine wpList_app (wr.alloc (.cells #[.int .i64 (k : Int)] 2)) rfl (.tmp 122) (.tmp 125) 22 rfl w6.heap.size 49 (.slice none 0 0) 1 24 Try.underlying22 infoRw rfl (by omega) (.slice Ak k ck) k us rfl HO2.out.outer #[.slice (some ⟨wr.heap.size, 0, none⟩) 1 1] 49 1 (by first | rfl | (simp [Act.eval]; done)) rfl (by intro v hv; simp at hv; subst hv; rfl) (by omega) (by omega) hsz2 ?_; intro A7 c7 w7 ho7 hg7 hsz7 hor7; have HO7 := Lib.hid (HO2.out.snoc HRW.out ho7 hg7); have HB7 := Lib.hid (below_own HX2.out HO2.out.outer hg7 hsz2 (Nat.le_refl _)); clear ho7 hg7 hsz7 hor7)
          | fail)
        go_roundw
        case rel => exact ⟨k + 1, c7, A7, _, rfl, by go_num, by omega, by rw [snG_succ]; exact HO7, HB7⟩
        case measure => simp [intOf]; omega
      · have hkn : k = ts.length := by omega
        have hki : ¬ ((k : Int) < (ts.length : Int)) := by omega
        have HSN : Hid (SlII wr (.slice Ak k ck) (snG ts.length)) := Lib.hid (by rw [← hkn]; exact HO.out.sl)
        have HBN := Lib.hid (below_next0 HB6.out HX.out)
        have HGN := Lib.hid (HG6.out.ex HX.out); have HTN := Lib.hid (HT6.out.ex HX.out)
        have HCN := Lib.hid (HC6.out.ex HX.out)
        have hfk : ¬ ((k : Int) < (few : Int)) := by omega
        clear HO HX hkn
        go_wp2_with fail
        refine (HIN.out _ HGN.out HTN.out _ HSN.out).mono ?_
        rintro e w9 ⟨rfl, hb9⟩
        have HB9 := Lib.hid (below_next0 HBN.out hb9)
        have HC9 := Lib.hid (HCN.out.ex hb9)
        have HCF := Lib.hid HK.out.ctf
        have HCL := Lib.hid HK.out.ctl
        obtain ⟨A', c', hv9, _, hcc⟩ := HC9.out.op
        rw [HCL.out] at hv9
        injection hv9 with hv9 _ hv8
        subst hv9 hv8
        have HCC := Lib.hid hcc
        clear hb9 hcc HSN HBN HGN HTN HCN HIN
        go_wp2
        go_loopw [19] (fun v19 wr => ∃ i : Nat, v19 = .int .i64 i ∧ i ≤ m ∧ wr = w9) (fun v19 _ => m - (intOf v19).toNat)
        case atStart => exact ⟨0, rfl, Nat.zero_le _, by first | rfl | trivial⟩
        case round =>
          obtain ⟨i, rfl, hi, rfl⟩ := hrel
          by_cases hlt2 : i < m
          · have hii : (i : Int) < (m : Int) := by omega
            have hic : i < CT.length := by rw [HCL.out]; exact hlt2
            obtain ⟨b, o, rfl, hbs, hcx⟩ := HCC.out i hic
            have hx := hcx i hic
            have hle := HCF.out i hic
            generalize CT[i] = y at hx hle
            have hyb : ¬ ((few : Int) < y) := by omega
            clear hcx
            go_wp2
            go_roundw
            case rel => exact ⟨i + 1, by go_num, by omega, by first | rfl | trivial⟩
            case measure => simp [intOf]; omega
          · have hii : ¬ ((i : Int) < (m : Int)) := by omega
            go_wp2
            go_ret
            exact ⟨rfl, HB9.out⟩

set_option maxRecDepth 100000 in
theorem tracks_lifted (os : Os) (started : os.Started) (H : Type) (enc : TypeId × Value → H) :
    ReturnsInHanded {} Try.checked os 12 .any (Rows.fnTracksSpec.pre6 enc Try.checked.prog Try.f12 Rows.fnTracksRow.domain false) (Rows.fnTracksSpec.post enc Try.checked.prog Try.f12 false true false false) := by
  refine law_lifted os started H enc (by kernel_rfl) Try.func12
    (ChangeSpec.witness6 (enc := enc) (C := Try.checked) false ⟨#[], #[.slice none 0 0], []⟩ 8 (by kernel_rfl) (by kernel_rfl) (by kernel_rfl) (by kernel_rfl))
    rfl rfl rfl (by rw [Try.params12]; intro t ht; simp only [List.mem_cons, List.not_mem_nil, or_false] at ht; subst ht; exact ⟨by kernel_rfl, of_decide_eq_true (by kernel_rfl)⟩)
    (fun ds hl => by match ds, hl with | [d0], _ => exact ⟨rfl, rfl, rfl⟩) ?_
  intro W base args ds p hval hA hlt hsz
  rw [Try.params12] at hA hval hsz
  obtain ⟨v0, vs0, d0, ds0, p0, q0, hargs, rfl, rfl, h0, r0⟩ := trodAll_cons hA
  obtain ⟨rfl, rfl, rfl⟩ := trodAll_nil r0
  obtain rfl : args = #[v0] := by cases args; simp_all
  obtain ⟨x0, hx0⟩ := argB Try.underlying27 Try.underlying5 (by kernel_rfl) (by kernel_rfl) (hval 0 _ _ rfl rfl) h0 (weight_arg hsz (j := 0) rfl rfl)
  exact lawTracks_any _ x0 W hx0

theorem tracks_holds : Rows.FnTracksSaid :=
  OpenClaim.holds_of_wide 12 Try.f12 rfl rfl rfl rfl rfl rfl rfl ⟨rfl, rfl, rfl, rfl, rfl⟩ rfl rfl rfl rfl rfl (by kernel_rfl) Try.func12 (by kernel_rfl)
    (of_decide_eq_true (by kernel_rfl)) (by unfold Func.isWrapper; first | (rw [if_pos (by decide +kernel)]; kernel_rfl) | (rw [if_neg (by decide +kernel)]; exact ⟨rfl, rfl⟩))
    (fun os started H enc _ => tracks_lifted os started H enc)
#print axioms tracks_holds
end Go.Proofs.Ytlgeddbgbcineaa
