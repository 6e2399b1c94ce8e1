/-
The reference's free places and validity; FreePlaces of both. Condition: the slices read as lists.
-/
import Derived.Test.YtedoibgclplnaaaRoomB
namespace Go.Proofs.Ytedoibgclplnaaa
open Go.RowKit
set_option linter.unusedVariables false

theorem l10Free_any (v u : Value) (rooms : List Int) (ts : List Guest) (w : World) (hv : SlI w v rooms) (hu : SlGuest w u ts) (hr : ∀ x ∈ rooms, 1 ≤ x ∧ x ≤ 4) (hl : rooms.length ≤ 1048576) (hts : ts.length ≤ 1048576) :
    Calls Try.prog 55 #[v, u] w fun e w' => ∃ A m c, e = .returned (.tuple #[.slice A m c, .bool (ts.all (Guest.fits (lastR rooms)) && nonnegB (freeK rooms ts ts.length))]) ∧
      (ts.all (Guest.fits (lastR rooms)) = true → m = rooms.length ∧ OwI w' w.heap.size (.slice A m c) (freeK rooms ts ts.length)) ∧ Below w.heap.size w w' := by
  have HV := Lib.hid hv
  obtain ⟨A0, c0, rfl, hla0, _⟩ := hv.op
  obtain ⟨A, c, rfl, hla, ha⟩ := hu.op
  have HA := Lib.hid ha; have HI := Lib.hid (freeK_inv hr ts)
  have H0 : Hid (freeK rooms ts 0 = rooms) := Lib.hid (by simp [freeK])
  have HN0 : Hid (nonnegB rooms = true) := Lib.hid (nonnegB_iff.2 fun x hx => by have := hr x hx; omega)
  have hlast : (rooms.length : Int) - 1 = lastR rooms := rfl
  have HBAD : Hid (∀ (k : Nat) (hk : k < ts.length), Guest.fits (lastR rooms) ts[k] = false → ts.all (Guest.fits (lastR rooms)) = false) := Lib.hid fun k hk h => List.all_eq_false.2 ⟨_, List.getElem_mem hk, by simp [h]⟩
  have HSN : Hid (∀ (k : Nat) (hk : k < ts.length), (ts.take (k + 1)).all (Guest.fits (lastR rooms)) = ((ts.take k).all (Guest.fits (lastR rooms)) && Guest.fits (lastR rooms) ts[k])) := Lib.hid fun k hk => by rw [List.take_succ_eq_append_getElem hk, List.all_append]; simp
  have HLAST := Lib.hid hlast
  clear hv hu ha hr hlast
  go_enter Try.func55, Try.ntmps55
  go_wp2_with fail
  refine (l00Own_any _ rooms _ HV.out hl).mono ?_
  rintro e w1 ⟨A1, c1, rfl, hown, hb⟩
  rw [← H0.out] at hown
  have hlen0 : (freeK rooms ts 0).length = rooms.length := by rw [H0.out]
  rw [hlen0] at hown
  have HO := Lib.hid hown; have HB := Lib.hid hb
  clear hown hb hlen0
  go_wp2
  go_loopw [7, 8] (fun f i wr => ∃ k : Nat, k ≤ ts.length ∧ i = .int .i64 k ∧ f = .bool (nonnegB (freeK rooms ts k)) ∧ Hid ((ts.take k).all (Guest.fits (lastR rooms)) = true) ∧ OwI wr w.heap.size (.slice A1 rooms.length c1) (freeK rooms ts k) ∧ Below w.heap.size w wr) (fun _ i _ => ts.length - (intOf i).toNat)
  case atStart => exact ⟨0, Nat.zero_le _, rfl, by rw [H0.out, HN0.out], Lib.hid rfl, HO.out, HB.out⟩
  case round =>
    obtain ⟨k, hk, rfl, rfl, hall, hown, hb⟩ := hrel
    by_cases hlt : k < ts.length
    · obtain ⟨b, o, rfl, hbs, hc0, hc1⟩ := HA.out k hlt
      have hx0 := (hb.cell (p := ⟨b, o + k * 2, none⟩) hbs).trans hc0
      have hx1 := (hb.cell (p := ⟨b, o + k * 2 + 1, none⟩) hbs).trans hc1
      have hlti : (k : Int) < (ts.length : Int) := by omega
      have HS := Lib.hid (freeK_succ (rooms := rooms) hlt)
      have HBK := Lib.hid (HBAD.out k hlt)
      have HSK := Lib.hid (HSN.out k hlt)
      obtain ⟨hin1, hin2⟩ := HI.out k hk
      generalize ts[k] = x at hx0 hx1 hc0 HS HBK HSK
      obtain ⟨x0, x1⟩ := x
      dsimp only at hx0 hx1 hc0
      clear hc1
      cases h1 : inB x0 (-1) (lastR rooms) with
      | false =>
        have HF := Lib.hid (HBK.out (by simp [Guest.fits, h1]))
        go_wp2_with fail
        rw [HLAST.out]
        refine (l00In_any _ _ _ _).mono ?_
        rintro e w2 ⟨rfl, rfl⟩
        rw [h1]
        go_wp2
        go_ret2
        exact ⟨none, 0, 0, by rw [HF.out]; rfl, fun h => (by rw [HF.out] at h; cases h), hb⟩
      | true =>
        cases h2 : inB x1 (-1) (lastR rooms) with
        | false =>
          have HF := Lib.hid (HBK.out (by simp [Guest.fits, h2]))
          go_wp2_with fail
          rw [HLAST.out]
          refine (l00In_any _ _ _ _).mono ?_
          rintro e w2 ⟨rfl, rfl⟩
          rw [h1]
          go_wp2_with fail
          rw [HLAST.out]
          refine (l00In_any _ _ _ _).mono ?_
          rintro e w2 ⟨rfl, rfl⟩
          rw [h2]
          go_wp2
          go_ret2
          exact ⟨none, 0, 0, by rw [HF.out]; rfl, fun h => (by rw [HF.out] at h; cases h), hb⟩
        | true =>
          have hf1 := inB_iff.1 h1
          obtain ⟨hf1, hf2⟩ := hf1
          have HALL2 : Hid ((ts.take (k + 1)).all (Guest.fits (lastR rooms)) = true) := Lib.hid (by rw [HSK.out, hall.out]; simp [Guest.fits, h1, h2])
          by_cases hneg : 0 ≤ x0
          · obtain ⟨j, rfl⟩ := Int.eq_ofNat_of_zero_le hneg
            have hj : j < rooms.length := by unfold lastR at hf2; omega
            generalize freeK rooms ts k = l at hown hin1 hin2 HS ⊢
            have hjl : j < l.length := by omega
            have hS2 : decR l ⟨(j : Int), x1⟩ = l.set j (l[j] - 1) := by simp [decR, List.getD_eq_getElem?_getD, hjl]
            rw [hS2] at HS
            have HNN := Lib.hid (nonnegB_set hjl)
            replace hown : OwI wr w.heap.size (.slice A1 l.length c1) l := by rw [hin1]; exact hown
            rcases Ow.form hown with ⟨_, h0, _⟩ | ⟨g, c4, hA2, hlo, hltg, _⟩
            · omega
            · injection hA2 with hA2 _ hc2
              subst hA2 hc2
              have hcj := OwI.cell hown hjl
              have hfj := OwI.free hown j
              have hxj := hin2 _ (List.getElem_mem hjl)
              obtain ⟨hxj1, hxj2⟩ := hxj
              have hn0 := OwI.set hown j (l[j] - 1)
              rw [hin1] at hn0
              have HN := Lib.hid hn0
              have HB2 := Lib.hid (hb.setCell (p := ⟨g, j, none⟩) hlo (.int .i64 (l[j] - 1)))
              have hbx : b ≠ g ∨ True := .inr trivial
              generalize l[j] = y at hcj hxj1 hxj2 HS HN HB2 HNN
              have hy0 := ((below_own (B := w.heap.size) hb hown (Ow.grow hown (k := j) (.int .i64 (y - 1))) hb.size (Nat.le_refl _)).cell (p := ⟨b, o + k * 2, none⟩) hbs).trans hc0
              have hyj : (wr.setCell ⟨g, j, none⟩ (.int .i64 (y - 1))).cell? ⟨g, j, none⟩ = some (.int .i64 (y - 1)) := by simp [go_sem, hcj]
              cases hnn : nonnegB l with
              | false =>
                rw [hnn] at HNN
                clear hown hin2 hS2 hf1 hf2 hneg hn0
                go_wp2_with fail
                rw [HLAST.out]
                refine (l00In_any _ _ _ _).mono ?_
                rintro e w2 ⟨rfl, rfl⟩
                rw [h1]
                go_wp2_with fail
                rw [HLAST.out]
                refine (l00In_any _ _ _ _).mono ?_
                rintro e w2 ⟨rfl, rfl⟩
                rw [h2]
                go_wp2
                go_roundw
                case rel => exact ⟨k + 1, by omega, by go_num, by rw [HS.out, HNN.out]; rfl, HALL2, by rw [HS.out]; exact HN.out, HB2.out⟩
                case measure => simp [intOf]; omega
              | true =>
                rw [hnn] at HNN
                clear hown hin2 hS2 hf1 hf2 hneg hn0
                go_wp2_with fail
                rw [HLAST.out]
                refine (l00In_any _ _ _ _).mono ?_
                rintro e w2 ⟨rfl, rfl⟩
                rw [h1]
                go_wp2_with fail
                rw [HLAST.out]
                refine (l00In_any _ _ _ _).mono ?_
                rintro e w2 ⟨rfl, rfl⟩
                rw [h2]
                go_wp2
                go_roundw
                case rel => exact ⟨k + 1, by omega, by go_num, by rw [HS.out, HNN.out]; simp, HALL2, by rw [HS.out]; exact HN.out, HB2.out⟩
                case measure => simp [intOf]; omega
          · obtain rfl : x0 = -1 := by omega
            have hS2 : decR (freeK rooms ts k) ⟨-1, x1⟩ = freeK rooms ts k := by simp [decR]
            rw [hS2] at HS
            have HN := Lib.hid hown
            have HB2 := Lib.hid hb
            clear hown hS2 hneg hf1
            go_wp2_with fail
            rw [HLAST.out]
            refine (l00In_any _ _ _ _).mono ?_
            rintro e w2 ⟨rfl, rfl⟩
            rw [h1]
            go_wp2_with fail
            rw [HLAST.out]
            refine (l00In_any _ _ _ _).mono ?_
            rintro e w2 ⟨rfl, rfl⟩
            rw [h2]
            go_wp2
            go_roundw
            case rel => exact ⟨k + 1, by omega, by go_num, by rw [HS.out], HALL2, by rw [HS.out]; exact HN.out, HB2.out⟩
            case measure => simp [intOf]; omega
    · have hkn : k = ts.length := by omega
      subst hkn
      have HF : Hid (ts.all (Guest.fits (lastR rooms)) = true) := Lib.hid (by have := hall.out; rwa [List.take_of_length_le (Nat.le_refl _)] at this)
      have HO2 := Lib.hid hown; clear hown
      go_wp2
      go_ret2
      exact ⟨A1, rooms.length, c1, by rw [HF.out]; rfl, fun _ => ⟨rfl, HO2.out⟩, hb⟩

theorem l10Ok_any (v u : Value) (rooms : List Int) (ts : List Guest) (w : World) (hv : SlI w v rooms) (hu : SlGuest w u ts) (hl : rooms.length ≤ 1048576) (hts : ts.length ≤ 1048576) :
    Calls Try.prog 53 #[v, u] w fun e w' => e = .returned (.bool (roomsOk rooms ts)) ∧ Below w.heap.size w w' := by
  have HV := Lib.hid hv; have HU := Lib.hid hu
  obtain ⟨A, c, rfl, hla, ha⟩ := hv.op
  obtain ⟨B, d, rfl, hlb, _⟩ := hu.op
  have HA := Lib.hid ha
  clear hv hu ha
  have HR : Hid (roomsOk rooms ts = (inB (lastR rooms) 0 7 && !outB rooms 1 4 && decide (ts.length ≤ 8) && ts.all (Guest.fits (lastR rooms)) && nonnegB (freeK rooms ts ts.length))) := Lib.hid rfl
  go_enter Try.func53, Try.ntmps53
  go_wp2
  go_loopw [5] (fun i wr => ∃ k : Nat, k ≤ rooms.length ∧ i = .int .i64 k ∧ Hid (∀ x ∈ rooms.take k, 1 ≤ x ∧ x ≤ 4) ∧ w = wr) (fun i _ => rooms.length - (intOf i).toNat)
  case atStart => exact ⟨0, Nat.zero_le _, rfl, Lib.hid (by simp), rfl⟩
  case round =>
    obtain ⟨k, hk, rfl, hall, rfl⟩ := hrel
    by_cases hlt : k < rooms.length
    · obtain ⟨b, o, rfl, hbs, hc⟩ := HA.out k hlt
      have hcell := hc k hlt
      have hlti : (k : Int) < (rooms.length : Int) := by omega
      have HT : Hid (rooms.take (k + 1) = rooms.take k ++ [rooms[k]]) := Lib.hid (List.take_succ_eq_append_getElem hlt)
      have HM : Hid (rooms[k] ∈ rooms) := Lib.hid (List.getElem_mem hlt)
      generalize rooms[k] = x at hcell HT HM
      clear hc
      cases hx : inB x 1 4 with
      | true =>
        go_wp2_with (go_at_call 64; refine (l00In_any _ _ _ _).mono ?_; rintro e w' ⟨rfl, rfl⟩; rw [hx])
        go_roundw
        case rel => exact ⟨k + 1, by omega, by go_num, Lib.hid (by rw [HT.out]; intro y hy; rcases List.mem_append.1 hy with hy | hy; exact hall.out y hy; simp at hy; subst hy; exact inB_iff.1 hx), by first | trivial | rfl⟩
        case measure => simp [intOf]; omega
      | false =>
        have HO : Hid (outB rooms 1 4 = true) := Lib.hid (by
          cases ho : outB rooms 1 4 with
          | true => rfl
          | false => have := outB_false.1 ho x HM.out; rw [inB_iff.2 this] at hx; cases hx)
        go_wp2_with (go_at_call 64; refine (l00In_any _ _ _ _).mono ?_; rintro e w' ⟨rfl, rfl⟩; rw [hx])
        go_ret
        exact ⟨ret_bool (by rw [HR.out, HO.out]; simp), Below.refl _ _⟩
    · have hkn : k = rooms.length := by omega
      subst hkn
      have HRM : Hid (∀ x ∈ rooms, 1 ≤ x ∧ x ≤ 4) := Lib.hid (by have := hall.out; rwa [List.take_of_length_le (Nat.le_refl _)] at this)
      have HO : Hid (outB rooms 1 4 = false) := Lib.hid (outB_false.2 HRM.out)
      rw [HO.out] at HR
      go_wp2_with fail
      refine (l10Free_any _ _ rooms ts _ HV.out HU.out HRM.out hl hts).mono ?_
      rintro e w1 ⟨A3, m3, c3, rfl, -, hb1⟩
      generalize ts.all (Guest.fits (lastR rooms)) = b1 at HR ⊢
      generalize nonnegB (freeK rooms ts ts.length) = b2 at HR ⊢
      have HLI : Hid (inB (lastR rooms) 0 7 = inB (rooms.length : Int) 1 8) := Lib.hid (by
        rw [Bool.eq_iff_iff, inB_iff, inB_iff]; unfold lastR; omega)
      rw [HLI.out] at HR
      have HD : Hid (decide (ts.length ≤ 8) = decide ((ts.length : Int) ≤ 8)) := Lib.hid (by rw [decide_eq_decide]; omega)
      rw [HD.out] at HR
      cases hb12 : (b1 && b2) with
      | false =>
        go_wp2
        go_ret
        refine ⟨ret_bool ?_, hb1⟩
        rw [HR.out]
        cases b1 <;> cases b2 <;> simp at hb12 ⊢
      | true =>
        have HB12 : Hid (b1 = true ∧ b2 = true) := Lib.hid (by simpa using hb12)
        go_wp2_with fail
        refine (l00In_any _ _ _ _).mono ?_
        rintro e w' ⟨rfl, rfl⟩
        cases hin : inB (rooms.length : Int) 1 8
        all_goals
          go_wp2
          go_ret
          exact ⟨ret_bool (by rw [HR.out, HB12.out.1, HB12.out.2, hin]; simp), hb1⟩

def freeR (rooms : List Int) (ts : List Guest) : List Int × Int := if roomsOk rooms ts = true then (freeK rooms ts ts.length, 0) else ([], 1)
theorem owI_nilR (w : World) (lo : Nat) : OwI w lo (.slice none 0 0) [] := ⟨World.ownsRow_nil _ _ _ _, by simp⟩

theorem implFree_any (v u : Value) (rooms : List Int) (ts : List Guest) (w : World) (hv : SlI w v rooms) (hu : SlGuest w u ts) :
    Calls Try.prog 26 #[v, u] w fun e w' => ∃ A c, e = .returned (.tuple #[.slice A (freeR rooms ts).1.length c, .int .i64 (freeR rooms ts).2]) ∧ OwI w' w.heap.size (.slice A (freeR rooms ts).1.length c) (freeR rooms ts).1 ∧ Below w.heap.size w w' := by
  have HV := Lib.hid hv; have HU := Lib.hid hu
  clear hv hu
  have HNIL := Lib.hid (fun w' : World => owI_nilR w' w.heap.size)
  go_enter Try.func26, Try.ntmps26
  go_wp2_with fail
  refine (validRooms_any _ _ rooms ts _ HV.out HU.out).mono ?_
  rintro e w1 ⟨rfl, hb1⟩
  cases hok : roomsOk rooms ts with
  | false =>
    have E : Hid (freeR rooms ts = ([], 1)) := Lib.hid (by unfold freeR; rw [hok]; rfl)
    go_wp2
    go_ret2
    exact ⟨none, 0, by rw [E.out]; rfl, by rw [E.out]; exact HNIL.out _, hb1⟩
  | true =>
    have E : Hid (freeR rooms ts = (freeK rooms ts ts.length, 0)) := Lib.hid (by unfold freeR; rw [hok]; rfl)
    obtain ⟨⟨h1, h2⟩, h3, h4, h5, h6⟩ := roomsOk_at hok
    have H3 := Lib.hid h3; have H5 := Lib.hid h5; have HB1 := Lib.hid hb1
    have HLN := Lib.hid (freeK_inv h3 ts ts.length (Nat.le_refl _)).1
    clear h3 h5 hb1
    go_wp2_with fail
    refine (freePlaces_any _ _ rooms ts _ (HV.out.ex HB1.out) (HU.out.ex HB1.out) H3.out (by omega) H5.out (by omega)).mono ?_
    rintro e w3 ⟨A3, c3, rfl, hown, hb3⟩
    have HO := Lib.hid hown; have HB3 := Lib.hid (below_next0 HB1.out hb3)
    have hs1 := HB1.out.size
    clear hown hb3
    go_wp2
    go_ret2
    exact ⟨A3, c3, by rw [E.out]; simp only [HLN.out]; rfl, by rw [E.out]; simp only [HLN.out]; exact HO.out.mono hs1, HB3.out⟩

theorem specFree_any (v u : Value) (rooms : List Int) (ts : List Guest) (w : World) (hv : SlI w v rooms ∧ rooms.length ≤ 1048576) (hu : SlGuest w u ts ∧ ts.length ≤ 1048576) :
    Calls Try.prog 23 #[v, u] w fun e w' => ∃ A c, e = .returned (.tuple #[.slice A (freeR rooms ts).1.length c, .int .i64 (freeR rooms ts).2]) ∧ OwI w' w.heap.size (.slice A (freeR rooms ts).1.length c) (freeR rooms ts).1 ∧ Below w.heap.size w w' := by
  obtain ⟨hv, hl⟩ := hv
  obtain ⟨hu, hts⟩ := hu
  have HV := Lib.hid hv; have HU := Lib.hid hu
  clear hv hu
  have HNIL := Lib.hid (fun w' : World => owI_nilR w' w.heap.size)
  go_enter Try.func23, Try.ntmps23
  go_wp2_with fail
  refine (l10Ok_any _ _ rooms ts _ HV.out HU.out hl hts).mono ?_
  rintro e w1 ⟨rfl, hb1⟩
  cases hok : roomsOk rooms ts with
  | false =>
    have E : Hid (freeR rooms ts = ([], 1)) := Lib.hid (by unfold freeR; rw [hok]; rfl)
    go_wp2
    go_ret2
    exact ⟨none, 0, by rw [E.out]; rfl, by rw [E.out]; exact HNIL.out _, hb1⟩
  | true =>
    have E : Hid (freeR rooms ts = (freeK rooms ts ts.length, 0)) := Lib.hid (by unfold freeR; rw [hok]; rfl)
    obtain ⟨⟨h1, h2⟩, h3, h4, h5, h6⟩ := roomsOk_at hok
    have H3 := Lib.hid h3; have HB1 := Lib.hid hb1
    have HALL : Hid (ts.all (Guest.fits (lastR rooms)) = true) := Lib.hid (List.all_eq_true.2 fun x hx => by obtain ⟨i, hi, rfl⟩ := List.mem_iff_getElem.1 hx; exact h5 i hi)
    have HLN := Lib.hid (freeK_inv h3 ts ts.length (Nat.le_refl _)).1
    clear h3 h5 hb1
    go_wp2_with fail
    refine (l10Free_any _ _ rooms ts _ (HV.out.ex HB1.out) (HU.out.ex HB1.out) H3.out hl hts).mono ?_
    rintro e w3 ⟨A3, m3, c3, rfl, hown, hb3⟩
    obtain ⟨rfl, hown⟩ := hown HALL.out
    have HO := Lib.hid hown; have HB3 := Lib.hid (below_next0 HB1.out hb3)
    have hs1 := HB1.out.size
    clear hown hb3
    go_wp2
    go_ret2
    exact ⟨A3, c3, by rw [E.out]; simp only [HLN.out]; rfl, by rw [E.out]; simp only [HLN.out]; exact HO.out.mono hs1, HB3.out⟩
end Go.Proofs.Ytedoibgclplnaaa
