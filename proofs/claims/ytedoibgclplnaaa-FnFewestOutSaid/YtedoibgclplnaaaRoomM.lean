/-
l10Most and MostGone of the reference. Condition: the slices read as lists.
-/
import Derived.Test.YtedoibgclplnaaaRoomL
import Derived.Test.YtedoibgclplnaaaGrs
namespace Go.Proofs.Ytedoibgclplnaaa
open Go.RowKit
set_option linter.unusedVariables false

theorem l00Max_any (a b : Int) (w : World) : Calls Try.prog 85 #[.int .i64 a, .int .i64 b] w fun e w' => e = .returned (.int .i64 (max a b)) ∧ w = w' := by
  go_enter Try.func85, Try.ntmps85
  go_wp2
  all_goals
    go_ret
    exact ⟨ret_int (by omega), rfl⟩
theorem or_add : ∀ s : Nat, s < 256 → ∀ k : Nat, k < 8 → s.testBit k = false → s + 2 ^ k = s ||| 2 ^ k := by decide +kernel

/-- what is known is right -/
def KOk (n : Nat) (can : Nat → Nat → Bool) (ks : List Int) : Prop := ks.length = 256 ∧ ∀ (S : Nat) (h : S < ks.length), ks[S] = -1 ∨ ∃ M : Nat, ks[S] = (M : Int) ∧ IsMost n can S M
theorem KOk.set {n : Nat} {can : Nat → Nat → Bool} {ks : List Int} (h : KOk n can ks) {S M : Nat} (hS : S < 256) (hm : IsMost n can S M) : KOk n can (ks.set S (M : Int)) := by
  refine ⟨by rw [List.length_set]; exact h.1, fun T hT => ?_⟩
  rw [List.getElem_set]
  split
  · rename_i e; subst e; exact .inr ⟨M, rfl, hm⟩
  · exact h.2 T (by simpa using hT)
theorem isMost_le {n : Nat} {can : Nat → Nat → Bool} {S M : Nat} (h : IsMost n can S M) : M ≤ n := by
  obtain ⟨⟨T, h1, h2⟩, -⟩ := h
  have := popc_le n T; omega
theorem mostK_le {n : Nat} {can : Nat → Nat → Bool} {S k M : Nat} (h : MostK n can S k M) : M ≤ n := by
  obtain ⟨⟨T, h1, h2⟩, -⟩ := h
  have := popc_le n T; omega

set_option maxRecDepth 100000 in
set_option maxHeartbeats 2000000 in
theorem l10Most_any (v : Value) (rooms : List Int) (ts : List Guest) (w0 : World) (hv : SlI w0 v rooms) (hok : roomsOk rooms ts = true) (g c : Nat) (hlo : w0.heap.size ≤ g) : ∀ (m S : Nat), Rch ts.length (canS rooms ts) 0 S → 256 ≤ m + S →
    ∀ (A : Option Addr) (c2 : Nat) (ks : List Int) (w : World), SlGuest w (.slice A ts.length c2) (gn ts S) → (0 < ((gn ts S).flatMap Guest.vals).length → Off (fun k => k = g) (.slice A ts.length c2)) → Below w0.heap.size w0 w →
    Ow w w0.heap.size 2 1 (.slice (some ⟨g, 0, none⟩) 256 c) 256 (ks.map (Value.int .i64)) → KOk ts.length (canS rooms ts) ks →
    Calls Try.prog 71 #[v, .slice A ts.length c2, .int .i64 (S : Int), .slice (some ⟨g, 0, none⟩) 256 c] w fun e w' => ∃ (M : Nat) (ks' : List Int), e = .returned (.int .i64 (M : Int)) ∧ IsMost ts.length (canS rooms ts) S M ∧ KOk ts.length (canS rooms ts) ks' ∧
      Ow w' w0.heap.size 2 1 (.slice (some ⟨g, 0, none⟩) 256 c) 256 (ks'.map (Value.int .i64)) ∧ GrS (fun k => k = g) w w'
  | 0, S, hr, hm, _, _, _, _, _, _, _, _, _ => by
    have h1 := hr.lt (Nat.two_pow_pos _)
    obtain ⟨-, -, h4, -, -⟩ := roomsOk_at hok
    have := pow_le8 h4
    omega
  | m + 1, S, hr, hm, A, c2, ks, w, hu, hoff, hb0, hkn, hks => by
    obtain ⟨-, -, h4, -, -⟩ := roomsOk_at hok
    have hS : S < 256 := Nat.lt_of_lt_of_le (hr.lt (Nat.two_pow_pos _)) (pow_le8 h4)
    have IH := Lib.hid (l10Most_any v rooms ts w0 hv hok g c hlo m)
    have HV := Lib.hid hv; have HU := Lib.hid hu
    have HR := Lib.hid hr; have HOFF := Lib.hid hoff; have HB0 := Lib.hid hb0
    have HGOK := Lib.hid (gn_ok hok hr)
    have HGL := Lib.hid (gn_len ts S)
    have hgl8 : Hid ((gn ts S).length ≤ 8) := Lib.hid (by rw [HGL.out]; exact h4)
    have hS2 := hks.1
    have hkS := hks.2 S (by omega)
    have hcell := hkn.cell (k := S) (by rw [List.length_map]; omega)
    rw [List.getElem_map] at hcell
    have hSi : (S : Int) < (256 : Int) := by omega
    have hla : ts.length ≤ 17592186044416 := by omega
    have HKN := Lib.hid hkn; have HKS := Lib.hid hks
    have HBIT : Hid (∀ S k, canS rooms ts S k = true → S.testBit k = false) := Lib.hid fun S k h => canS_bit h
    generalize ks[S]'(by omega) = x at hcell hkS
    clear hv hok hr hu hoff hb0 hkn hks hS2
    rcases hkS with rfl | ⟨M, rfl, hM⟩
    · go_enter Try.func71, Try.ntmps71
      go_wp2
      go_loopw [9, 10] (fun best i wr => ∃ (k M : Nat) (ks' : List Int), k ≤ ts.length ∧ i = .int .i64 k ∧ best = .int .i64 (M : Int) ∧ M ≤ ts.length ∧ Hid (MostK ts.length (canS rooms ts) S k M) ∧ Hid (KOk ts.length (canS rooms ts) ks') ∧
        Ow wr w0.heap.size 2 1 (.slice (some ⟨g, 0, none⟩) 256 c) 256 (ks'.map (Value.int .i64)) ∧ Hid (GrS (fun k => k = g) w wr)) (fun _ i _ => ts.length - (intOf i).toNat)
      case atStart => exact ⟨0, 0, ks, Nat.zero_le _, rfl, rfl, Nat.zero_le _, Lib.hid mostK_zero, HKS, HKN.out, Lib.hid (GrS.refl _ _)⟩
      case round =>
        obtain ⟨k, M, ks', hk, rfl, rfl, hMl, hMK, hks, hkn, hgr⟩ := hrel
        have HKN2 := Lib.hid hkn
        clear hkn
        by_cases hlt : k < ts.length
        · have hki : (k : Int) < (ts.length : Int) := by omega
          have hkg : k < (gn ts S).length := by rw [HGL.out]; exact hlt
          have HUR : Hid (SlGuest wr (.slice A ts.length c2) (gn ts S)) := Lib.hid (Sl.off HU.out hgr.out HOFF.out)
          have HBR : Hid (Below w0.heap.size w0 wr) := Lib.hid (HB0.out.trans (hgr.out.below (fun j _ hj => by rw [hj]; exact hlo) HB0.out.size))
          have HC := Lib.hid (l10Can_any _ _ rooms (gn ts S) k wr (HV.out.ex HBR.out) HUR.out HGOK.out hkg)
          rw [← canS_at hkg] at HC
          have HY := Lib.hid (fun (h : canS rooms ts S k = true) => And.intro (HBIT.out S k h) (HR.out.step hlt h))
          have HMY := Lib.hid (fun (h : canS rooms ts S k = true) (M' : Nat) (h' : IsMost ts.length (canS rooms ts) (S ||| 2 ^ k) M') => mostK_yes HBIT.out hMK.out hlt h h')
          have HMN := Lib.hid (fun (h : canS rooms ts S k = false) => mostK_no hMK.out h)
          generalize canS rooms ts S k = p at HC HY HMY HMN
          go_wp2_with fail
          refine HC.out.mono ?_
          rintro e w1 ⟨rfl, hb1⟩
          have HG1 := Lib.hid (hgr.out.trans (GrS.ofBelow hb1))
          have HU1 : Hid (SlGuest w1 (.slice A ts.length c2) (gn ts S)) := Lib.hid (HUR.out.ex hb1)
          have HKN3 := Lib.hid (HKN2.out.ex hb1)
          have HB1 := Lib.hid (HBR.out.trans (hb1.mono HBR.out.size))
          clear hb1
          cases p with
          | false =>
            have HE := Lib.hid (HMN.out rfl)
            go_wp2
            go_roundw
            case rel => exact ⟨k + 1, M, ks', by omega, by go_num, rfl, hMl, HE, hks, HKN3.out, HG1⟩
            case measure => simp [intOf]; omega
          | true =>
            obtain ⟨hbit, hr2⟩ := HY.out rfl
            have HADD := Lib.hid (or_add S hS k (by omega) hbit)
            have hgt := or_gt hbit
            have HSET := Lib.hid (gn_set hlt hbit)
            have HR2 := Lib.hid hr2
            have hSK := Lib.hid (shlI8 k (by omega))
            have HS3 : Hid ((S : Int) + 2 ^ k = ((S ||| 2 ^ k : Nat) : Int)) := Lib.hid (by rw [← HADD.out]; simp)
            have HSUM : Hid (wrap64 ((S : Int) + wrap64 (2 ^ k)) = ((S ||| 2 ^ k : Nat) : Int)) := Lib.hid (by
              have h8 := or_lt8 hS (show k < 8 by omega)
              rw [hSK.out, HS3.out]; unfold wrap64; omega)
            clear hbit hr2
            go_wp2_with fail
            refine (l10Gone_any _ (gn ts S) k w1 HU1.out hgl8.out hkg).mono ?_
            rintro e w2 ⟨A2, c3, rfl, hown2, hb2⟩
            rw [HSET.out, HGL.out] at hown2
            have HG2 := Lib.hid (HG1.out.trans (GrS.ofBelow hb2))
            have HU2 : Hid (SlGuest w2 (.slice A2 ts.length c3) (gn ts (S ||| 2 ^ k))) := Lib.hid (by unfold SlGuest; rw [gn_len]; exact hown2.sl)
            have HO2 : Hid (Off (fun k => k = g) (.slice A2 ts.length c3)) := Lib.hid (Off.new hown2 (fun j hj => by rw [hj]; exact Nat.lt_of_lt_of_le (RowOf.lt HKN3.out g rfl).2 (Nat.le_refl _)))
            have HKN4 := Lib.hid (HKN3.out.ex hb2)
            have HB2 := Lib.hid (HB1.out.trans (hb2.mono HB1.out.size))
            clear hown2 hb2
            rw [HGL.out]
            go_wp2_with fail
            rw [HSUM.out]
            refine (IH.out (S ||| 2 ^ k) HR2.out (by omega) A2 c3 ks' w2 HU2.out (fun _ => HO2.out) HB2.out HKN4.out hks.out).mono ?_
            rintro e w3 ⟨M', ks3, rfl, hM', hks3, hkn3, hg3⟩
            have hM8 := isMost_le hM'
            have HM' := Lib.hid (HMY.out (by first | rfl | trivial) M' hM')
            have HG3 := Lib.hid (HG2.out.trans hg3)
            have HKS3 := Lib.hid hks3; have HKN5 := Lib.hid hkn3
            have HMX : Hid (max (M : Int) (1 + (M' : Int)) = ((max M (1 + M') : Nat) : Int)) := Lib.hid (by omega)
            clear hM' hks3 hkn3 hg3
            go_wp2_with fail
            refine (l00Max_any _ _ _).mono ?_
            rintro e w4 ⟨rfl, rfl⟩
            rw [HMX.out]
            go_wp2
            go_roundw
            case rel => exact ⟨k + 1, max M (1 + M'), ks3, by omega, by go_num, rfl, mostK_le HM'.out, HM', HKS3, HKN5.out, HG3⟩
            case measure => simp [intOf]; omega
        · have hkn : k = ts.length := by omega
          have HM : Hid (IsMost ts.length (canS rooms ts) S M) := Lib.hid (mostK_end (by have h9 := hMK.out; rw [hkn] at h9; exact h9))
          have hS3 := hks.out.1
          have hcx := HKN2.out.cell (k := S) (by rw [List.length_map]; omega)
          have hfx := HKN2.out.free S
          have hset := HKN2.out.set S (.int .i64 (M : Int))
          rw [← List.map_set] at hset
          have HSET := Lib.hid hset
          have HK3 := Lib.hid (hks.out.set hS HM.out)
          have HG3 := Lib.hid (hgr.out.trans (GrS.set (p := ⟨g, S, none⟩) (w := wr) (R := fun k => k = g) rfl (.int .i64 (M : Int))))
          generalize (ks'.map (Value.int .i64))[S]'(by rw [List.length_map]; omega) = z at hcx
          clear hset hS3
          go_wp2
          go_ret
          exact ⟨M, _, rfl, HM.out, HK3.out, HSET.out, HG3.out⟩
    · have HM := Lib.hid hM
      clear hM
      go_enter Try.func71, Try.ntmps71
      go_wp2
      go_ret
      exact ⟨M, ks, rfl, HM.out, HKS.out, HKN.out, GrS.refl _ _⟩

set_option maxHeartbeats 1000000 in
theorem specMost_any (v u : Value) (rooms : List Int) (ts : List Guest) (w : World) (hv : SlI w v rooms ∧ rooms.length ≤ 1048576) (hu : SlGuest w u ts ∧ ts.length ≤ 1048576) :
    Calls Try.prog 39 #[v, u] w fun e w' => e = .returned (.tuple #[.int .i64 (mostR rooms ts).1, .int .i64 (mostR rooms ts).2]) ∧ Below w.heap.size w w' := by
  obtain ⟨hv, hl⟩ := hv
  obtain ⟨hu, hts⟩ := hu
  have HV := Lib.hid hv; have HU := Lib.hid hu
  obtain ⟨B, d, rfl, hlb, _⟩ := hu.op
  clear hv hu
  go_enter Try.func39, Try.ntmps39
  go_wp2_with fail
  refine (l10Ok_any _ _ rooms ts _ HV.out HU.out hl hts).mono ?_
  rintro e w1 ⟨rfl, hb1⟩
  cases hok : roomsOk rooms ts with
  | false =>
    have E : Hid (mostR rooms ts = (0, 1)) := Lib.hid (by unfold mostR; rw [hok]; rfl)
    go_wp2
    go_ret2
    exact ⟨by rw [E.out]; rfl, hb1⟩
  | true =>
    have E : Hid (mostR rooms ts = (((mxK ts.length (canS rooms ts) (2 ^ ts.length) : Nat) : Int), 0)) := Lib.hid (by unfold mostR; rw [hok]; rfl)
    have HOK := Lib.hid hok
    obtain ⟨-, -, h4, -, -⟩ := roomsOk_at hok
    have HB1 := Lib.hid hb1
    clear hok hb1
    go_wp2_with (at_make; refine wpList_make1 _ rfl (.const (.int .i64 256)) (.const (.int .i64 256)) _ rfl w1.heap.size 2 (.int .i64 0) 8 Try.underlying24 infoI64 rfl .i64 .i64 256 ?_ ?_ (by omega) (by omega) (Nat.le_refl _) ?_; rfl; rfl; intro w2 hown hb2 hsz; have HO := Lib.hid hown; have HB2 := Lib.hid (below_next0 HB1.out hb2); clear hown hb2)
    go_loopw [7] (fun i wr => ∃ (k : Nat) (ks : List Int), k ≤ 256 ∧ i = .int .i64 k ∧ Hid (ks.length = 256 ∧ ∀ (j : Nat) (h : j < ks.length), j < k → ks[j] = -1) ∧ Ow wr w1.heap.size 2 1 (.slice (some ⟨w1.heap.size, 0, none⟩) 256 256) 256 (ks.map (Value.int .i64)) ∧ Below w.heap.size w wr) (fun i _ => 256 - (intOf i).toNat)
    case atStart => exact ⟨0, List.replicate 256 0, Nat.zero_le _, rfl, Lib.hid ⟨List.length_replicate, fun j _ h => absurd h (Nat.not_lt_zero _)⟩, by rw [List.map_replicate]; exact HO.out, HB2.out⟩
    case round =>
      obtain ⟨k, ks, hk, rfl, hks, hown, hb⟩ := hrel
      by_cases hlt : k < 256
      · have hki : (k : Int) < (256 : Int) := by omega
        have hl2 := hks.out.1
        have hcell := hown.cell (k := k) (by rw [List.length_map]; omega)
        have hfree := hown.free k
        have hset := hown.set k (.int .i64 (-1))
        rw [← List.map_set] at hset
        have HS := Lib.hid hset
        have HB3 := Lib.hid (hb.setCell (p := ⟨w1.heap.size, k, none⟩) HB1.out.size (.int .i64 (-1)))
        have HK : Hid ((ks.set k (-1)).length = 256 ∧ ∀ (j : Nat) (h : j < (ks.set k (-1)).length), j < k + 1 → (ks.set k (-1))[j] = -1) := Lib.hid ⟨by rw [List.length_set]; exact hl2, fun j h1 h2 => by
          rw [List.getElem_set]
          split
          · rfl
          · exact hks.out.2 j (by simpa using h1) (by omega)⟩
        generalize (ks.map (Value.int .i64))[k]'(by rw [List.length_map]; omega) = z at hcell
        clear hown hb hset hl2
        go_wp2
        go_roundw
        case rel => exact ⟨k + 1, _, by omega, by go_num, HK, HS.out, HB3.out⟩
        case measure => simp [intOf]; omega
      · have hkn : k = 256 := by omega
        have hla : ts.length ≤ 17592186044416 := by omega
        have HKO : Hid (KOk ts.length (canS rooms ts) ks) := Lib.hid ⟨hks.out.1, fun S h => .inl (hks.out.2 S h (by have := hks.out.1; omega))⟩
        have HU0 : Hid (SlGuest wr (.slice B ts.length d) (gn ts 0)) := Lib.hid (by rw [gn_zero]; exact HU.out.ex hb)
        have HOF : Hid (0 < ((gn ts 0).flatMap Guest.vals).length → Off (fun k => k = w1.heap.size) (.slice B ts.length d)) := Lib.hid (by rw [gn_zero]; exact Sl.offOld HU.out (fun k hk => by rw [hk]; exact HB1.out.size))
        have HC := Lib.hid (l10Most_any v rooms ts w HV.out HOK.out w1.heap.size 256 HB1.out.size 256 0 .zero (by omega) B d ks wr HU0.out HOF.out hb (Ow.mono hown HB1.out.size) HKO.out)
        have HB := Lib.hid hb
        clear hown hb
        go_wp2_with fail
        refine HC.out.mono ?_
        rintro e w5 ⟨M, ks', rfl, hM, -, -, hgr⟩
        have HM : Hid (M = mxK ts.length (canS rooms ts) (2 ^ ts.length)) := Lib.hid (hM.unique (mxK_most _ _))
        have HB5 := Lib.hid (HB.out.trans (hgr.below (B := w.heap.size) (fun j _ hj => by rw [hj]; exact HB1.out.size) HB.out.size))
        clear hM hgr
        go_wp2
        go_ret2
        exact ⟨by rw [E.out, ← HM.out]; rfl, HB5.out⟩
end Go.Proofs.Ytedoibgclplnaaa
