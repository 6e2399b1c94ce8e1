/-
ValidRooms of the program, by its contract. Condition: the slices read as lists.
-/
import Derived.Test.YtedoibgclplnaaaRoomA
namespace Go.Proofs.Ytedoibgclplnaaa
open Go.RowKit
set_option linter.unusedVariables false

def roomsOk (rooms : List Int) (ts : List Guest) : Bool :=
  inB (lastR rooms) 0 7 && !outB rooms 1 4 && decide (ts.length ≤ 8) && ts.all (Guest.fits (lastR rooms)) && nonnegB (freeK rooms ts ts.length)
theorem roomsOk_at {rooms : List Int} {ts : List Guest} (h : roomsOk rooms ts = true) : (1 ≤ rooms.length ∧ rooms.length ≤ 8) ∧ (∀ x ∈ rooms, 1 ≤ x ∧ x ≤ 4) ∧ ts.length ≤ 8 ∧
    (∀ (k : Nat) (hk : k < ts.length), Guest.fits (lastR rooms) ts[k] = true) ∧ nonnegB (freeK rooms ts ts.length) = true := by
  simp only [roomsOk, Bool.and_eq_true, Bool.not_eq_true', decide_eq_true_eq, List.all_eq_true] at h
  obtain ⟨⟨⟨⟨h1, h2⟩, h3⟩, h4⟩, h5⟩ := h
  have h1' := inB_iff.1 h1
  unfold lastR at h1'
  exact ⟨by omega, outB_false.1 h2, h3, fun k hk => h4 _ (List.getElem_mem hk), h5⟩
theorem out_nonneg {l : List Int} (h : ∀ x ∈ l, x ≤ 4) : outB l 0 4 = !nonnegB l := by
  rw [Bool.eq_iff_iff, Bool.not_eq_true']
  constructor
  · intro h1
    cases hn : nonnegB l with
    | false => rfl
    | true =>
      have := outB_false.2 (fun x hx => ⟨nonnegB_iff.1 hn x hx, h x hx⟩)
      rw [this] at h1; cases h1
  · intro h1
    cases ho : outB l 0 4 with
    | true => rfl
    | false =>
      have := nonnegB_iff.2 (fun x hx => (outB_false.1 ho x hx).1)
      rw [this] at h1; cases h1

theorem roomC_any (x y last : Int) (B : Nat) (w : World) (h : w.cell? ⟨B, 0, none⟩ = some (.int .i64 last)) :
    Calls Try.prog 79 #[.agg #[.int .i64 x, .int .i64 y], .pointer (some ⟨B, 0, none⟩)] w fun e w' => e = .returned (.bool (!Guest.fits last ⟨x, y⟩)) ∧ Below w.heap.size w w' := by
  have hlt : B < w.heap.size := by
    rcases Nat.lt_or_ge B w.heap.size with h1 | h1
    · exact h1
    · simp [World.cell?, Array.getElem?_eq_none h1] at h
  have hc := ((below_alloc w (.cells #[.int .i64 x, .int .i64 y] 34)).cell (p := ⟨B, 0, none⟩) hlt).trans h
  cases h1 : inB x (-1) last
  all_goals
    go_enter Try.func79, Try.ntmps79
    go_wp2_with (go_at_call 66; refine (within_any _ _ _ _).mono ?_; rintro e w' ⟨rfl, rfl⟩)
    go_ret
    refine ⟨ret_bool (by simp [Guest.fits, h1]), below_alloc _ _⟩

theorem validRooms_any (v u : Value) (rooms : List Int) (ts : List Guest) (w : World) (hv : SlI w v rooms) (hu : SlGuest w u ts) :
    Calls Try.prog 47 #[v, u] w fun e w' => e = .returned (.bool (roomsOk rooms ts)) ∧ Below w.heap.size w w' := by
  have HV := Lib.hid hv; have HU := Lib.hid hu
  obtain ⟨A, c, rfl, hla, _⟩ := hv.op
  obtain ⟨B, d, rfl, hlb, _⟩ := hu.op
  clear hv hu
  have HR : Hid (roomsOk rooms ts = (inB (lastR rooms) 0 7 && !outB rooms 1 4 && decide (ts.length ≤ 8) && ts.all (Guest.fits (lastR rooms)) && nonnegB (freeK rooms ts ts.length))) := Lib.hid rfl
  have hlast : (rooms.length : Int) - 1 = lastR rooms := rfl
  have HLAST := Lib.hid hlast
  clear hlast
  go_enter Try.func47, Try.ntmps47
  go_wp2_with fail
  rw [HLAST.out]
  refine (within_any _ _ _ _).mono ?_
  rintro e w1 ⟨rfl, rfl⟩
  cases hin : inB (lastR rooms) 0 7 with
  | false =>
    rw [hin] at HR
    go_wp2
    go_ret
    exact ⟨ret_bool (by rw [HR.out]; rfl), below_alloc _ _⟩
  | true =>
    rw [hin] at HR
    have hl8 := inB_iff.1 hin
    go_wp2_with fail
    refine (outside_any _ rooms _ _ _ (HV.out.ex (below_alloc _ _))).mono ?_
    rintro e w1 ⟨rfl, hb1⟩
    cases hout : outB rooms 1 4 with
    | true =>
      rw [hout] at HR
      go_wp2
      go_ret
      exact ⟨ret_bool (by rw [HR.out]; rfl), below_next0 (below_alloc _ _) hb1⟩
    | false =>
      rw [hout] at HR
      by_cases h8 : ts.length ≤ 8
      · have h8' : decide (ts.length ≤ 8) = true := by simpa using h8
        rw [h8'] at HR
        have hbox := (hb1.cell (p := ⟨w.heap.size, 0, none⟩) (by simp)).trans (show (w.alloc (.cells #[.int .i64 ((rooms.length : Int) - 1)] 2)).cell? ⟨w.heap.size, 0, none⟩ = some (.int .i64 ((rooms.length : Int) - 1)) by simp [go_sem])
        rw [HLAST.out] at hbox
        have HBOX := Lib.hid hbox
        have hblt : w.heap.size < w1.heap.size := Nat.lt_of_lt_of_le (by simp) hb1.size
        have HB1 := Lib.hid (below_next0 (below_alloc w _) hb1)
        have EA : Hid (anyN (fun k => match ts[k]? with | some t => !Guest.fits (lastR rooms) t | none => false) ts.length = !ts.all (Guest.fits (lastR rooms))) := Lib.hid <| by
          rw [anyN_list ts (fun g => !Guest.fits (lastR rooms) g) _ (fun k hk => by simp [hk])]
          rw [Bool.eq_iff_iff]; simp
        clear hb1 hbox h8'
        go_wp2_with fail
        refine (conGuest_any 79 _ (enters_of Try.func79 (by kernel_rfl) rfl) (fun k => match ts[k]? with | some t => !Guest.fits (lastR rooms) t | none => false) _ ts _ (HU.out.ex HB1.out) ?_).mono ?_
        · intro k hk W hW
          have hx : (match ts[k]? with | some t => !Guest.fits (lastR rooms) t | none => false) = !Guest.fits (lastR rooms) ts[k] := by simp [hk]
          rw [hx]
          exact roomC_any _ _ _ _ W ((hW.cell (p := ⟨w.heap.size, 0, none⟩) hblt).trans HBOX.out)
        · rintro e w2 ⟨rfl, hb2⟩
          rw [EA.out]
          have HB2 := Lib.hid (below_next0 HB1.out hb2)
          clear hb2
          cases hall : ts.all (Guest.fits (lastR rooms)) with
          | false =>
            rw [hall] at HR
            go_wp2
            go_ret
            exact ⟨ret_bool (by rw [HR.out]; rfl), HB2.out⟩
          | true =>
            rw [hall] at HR
            have hr := outB_false.1 hout
            have HRM := Lib.hid hr
            have HFIT : Hid (∀ (k : Nat) (hk : k < ts.length), Guest.fits (lastR rooms) ts[k] = true) := Lib.hid fun k hk => List.all_eq_true.1 hall _ (List.getElem_mem hk)
            have hlr : rooms.length ≤ 8 := by unfold lastR at hl8; omega
            clear hr hall hin hout
            go_wp2_with fail
            refine (freePlaces_any _ _ rooms ts _ (HV.out.ex HB2.out) (HU.out.ex HB2.out) HRM.out (by omega) HFIT.out (by omega)).mono ?_
            rintro e w3 ⟨A3, c3, rfl, hown, hb3⟩
            obtain ⟨hfl, hfb⟩ := freeK_inv HRM.out ts ts.length (Nat.le_refl _)
            have HO := Lib.hid hown.sl
            have HB3 := Lib.hid (below_next0 HB2.out hb3)
            have HOUT := Lib.hid (out_nonneg (fun x hx => (hfb x hx).2))
            clear hown hb3 hfb
            go_wp2_with fail
            refine (outside_any _ _ _ _ _ HO.out).mono ?_
            rintro e w4 ⟨rfl, hb4⟩
            rw [HOUT.out]
            go_wp2
            go_ret
            exact ⟨ret_bool (by rw [HR.out]; simp), below_next0 HB3.out hb4⟩
      · have h8' : decide (ts.length ≤ 8) = false := by simpa using h8
        rw [h8'] at HR
        have h9 : (8 : Int) < (ts.length : Int) := by omega
        clear h8'
        go_wp2
        go_ret
        exact ⟨ret_bool (by rw [HR.out]; rfl), below_next0 (below_alloc _ _) hb1⟩
end Go.Proofs.Ytedoibgclplnaaa
