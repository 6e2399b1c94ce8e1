/-
Who can go: canGo of the program, l10Can of the reference; CanGo of both. Condition: the slices read as lists, valid rooms.
-/
import Derived.Test.YtedoibgclplnaaaRoomC
namespace Go.Proofs.Ytedoibgclplnaaa
open Go.RowKit
set_option linter.unusedVariables false

def restB (g : Guest) : Bool := g.here == g.wants
def canP (rooms : List Int) (ts : List Guest) (g : Guest) : Bool := !restB g && (decide (g.wants < 0) || decide (0 < (freeK rooms ts ts.length).getD g.wants.toNat 0))
theorem owI_at {w : World} {lo n c j : Nat} {A : Option Addr} {xs : List Int} (h : OwI w lo (.slice A n c) xs) (hn : xs.length = n) (hj : j < n) : ∃ g, A = some ⟨g, 0, none⟩ ∧ w.cell? ⟨g, j, none⟩ = some (.int .i64 (xs[j]'(by omega))) := by
  subst hn
  rcases Ow.form h with ⟨_, h0, _⟩ | ⟨g, c4, hA2, _⟩
  · omega
  · injection hA2 with hA2 _ hc2
    subst hA2
    exact ⟨g, rfl, OwI.cell h hj⟩
theorem rests_any (x y : Int) (w : World) : Calls Try.prog 62 #[.agg #[.int .i64 x, .int .i64 y]] w fun e w' => e = .returned (.bool (restB ⟨x, y⟩)) ∧ Below w.heap.size w w' := by
  go_enter Try.func62, Try.ntmps62
  go_wp2
  go_ret
  exact ⟨rfl, below_alloc _ _⟩

set_option maxHeartbeats 4000000 in
theorem canGo_any (v u : Value) (rooms : List Int) (ts : List Guest) (k : Nat) (w : World) (hv : SlI w v rooms) (hu : SlGuest w u ts) (hok : roomsOk rooms ts = true) (hk : k < ts.length) :
    Calls Try.prog 63 #[v, u, .int .i64 k] w fun e w' => e = .returned (.bool (canP rooms ts ts[k])) ∧ Below w.heap.size w w' := by
  have HV := Lib.hid hv; have HU := Lib.hid hu
  obtain ⟨A, c, rfl, hla, ha⟩ := hu.op
  obtain ⟨⟨h1, h2⟩, h3, h4, h5, h6⟩ := roomsOk_at hok
  obtain ⟨b, o, rfl, hbs, hc0, hc1⟩ := ha k hk
  have hf := Guest.fitsd (h5 k hk)
  have H3 := Lib.hid h3; have H5 := Lib.hid h5
  obtain ⟨hin1, hin2⟩ := freeK_inv h3 ts ts.length (Nat.le_refl _)
  have HIN2 := Lib.hid hin2
  have HP : Hid (canP rooms ts ts[k] = (!restB ts[k] && (decide (ts[k].wants < 0) || decide (0 < (freeK rooms ts ts.length).getD ts[k].wants.toNat 0)))) := Lib.hid rfl
  have hlti : (k : Int) < (ts.length : Int) := by omega
  clear hv hu ha h3 h5 h6 hin2
  generalize canP rooms ts ts[k] = res at HP ⊢
  generalize ts[k] = x at hc0 hc1 hf HP
  obtain ⟨x0, x1⟩ := x
  dsimp only at hc0 hc1 hf HP
  obtain ⟨hf1, hf2⟩ := hf
  have hbxs : w.heap.size < (w.alloc (.cells #[.int .i64 x0, .int .i64 x1] 34)).heap.size := by simp
  have HBA := Lib.hid (below_alloc w (.cells #[.int .i64 x0, .int .i64 x1] 34))
  obtain ⟨hq0, hq1⟩ := box12 (w := w) (x := .int .i64 x0) (y := .int .i64 x1) (t := 34) (Below.refl _ _)
  cases hr : restB ⟨x0, x1⟩ with
  | true =>
    rw [hr] at HP
    have hp0 := cell_plus hq0; have hp1 := cell_plus hq1
    have HRC : Hid (∀ W, Calls Try.prog 62 #[.agg #[.int .i64 x0, .int .i64 x1]] W fun e w' => e = .returned (.bool true) ∧ Below W.heap.size W w') := Lib.hid fun W => by rw [← hr]; exact rests_any x0 x1 W
    clear hr
    go_enter Try.func63, Try.ntmps63
    go_wp2
    refine wp_region_plus (by kernel_rfl) (by kernel_rfl) ?_
    repeat (go_big_quiet_step (((go_at_call 62; exact plus_below (HRC.out _)))))
    refine wpQuiet_nil ?_
    intro wq hwq
    replace hwq := below_of_plus hwq
    go_wp2
    go_ret
    exact ⟨ret_bool (by rw [HP.out]; rfl), below_next0 (below_alloc _ _) hwq⟩
  | false =>
    rw [hr] at HP
    have HRC : Hid (∀ W, Calls Try.prog 62 #[.agg #[.int .i64 x0, .int .i64 x1]] W fun e w' => e = .returned (.bool false) ∧ Below W.heap.size W w') := Lib.hid fun W => by rw [← hr]; exact rests_any x0 x1 W
    clear hr
    by_cases hw : x1 < 0
    · have HP2 : Hid (res = true) := Lib.hid (by rw [HP.out]; simp [hw])
      have hp0 := cell_plus hq0; have hp1 := cell_plus hq1
      go_enter Try.func63, Try.ntmps63
      go_wp2
      refine wp_region_plus (by kernel_rfl) (by kernel_rfl) ?_
      repeat (go_big_quiet_step (((go_at_call 62; exact plus_below (HRC.out _)))))
      refine wpQuiet_nil ?_
      intro wq hwq
      replace hwq := below_of_plus hwq
      go_wp2
      go_ret
      exact ⟨ret_bool (by rw [HP2.out]), below_next0 (below_alloc _ _) hwq⟩
    · obtain ⟨j, rfl⟩ := Int.eq_ofNat_of_zero_le (show 0 ≤ x1 by omega)
      have hj : j < rooms.length := by unfold lastR at hf2; omega
      have hjl : j < (freeK rooms ts ts.length).length := by omega
      have HP2 : Hid (res = decide (0 < (freeK rooms ts ts.length)[j])) := Lib.hid (by rw [HP.out]; simp only [hw, decide_false, Bool.false_or, Bool.not_false, Bool.true_and, Int.toNat_natCast, List.getD_eq_getElem?_getD, List.getElem?_eq_getElem hjl, Option.getD_some])
      have hji : (j : Int) < (rooms.length : Int) := by omega
      have hj0 : (0 : Int) ≤ (j : Int) := by omega
      have HFC : Hid (∀ W, Below w.heap.size w W → Calls Try.prog 57 #[v, .slice (some ⟨b, o, none⟩) ts.length c] W fun e w' => ∃ A c, e = .returned (.slice A rooms.length c) ∧ OwI w' W.heap.size (.slice A rooms.length c) (freeK rooms ts ts.length) ∧ Below W.heap.size W w') :=
        Lib.hid fun W hW => freePlaces_any _ _ rooms ts W (HV.out.ex hW) (HU.out.ex hW) H3.out (by omega) H5.out (by omega)
      go_enter Try.func63, Try.ntmps63
      go_wp2
      go_region_with (first
        | (go_at_call 62; refine (HRC.out _).mono ?_; rintro e wa ⟨rfl, hba⟩; have hqa0 := (hba.cell (p := ⟨w.heap.size, 0, none⟩) (by simp)).trans hq0; have hqa1 := (hba.cell (p := ⟨w.heap.size, 1, none⟩) (by simp)).trans hq1; have hsz : w.heap.size < wa.heap.size := Nat.lt_of_lt_of_le (by simp) hba.size; have hwa : Below w.heap.size w wa := below_next0 (below_alloc w _).drew hba; clear hba)
        | (go_at_call 57; refine (HFC.out _ hwa).mono ?_; rintro e wb ⟨A3, c3, rfl, hown, hbb⟩; obtain ⟨g, hg, hcj⟩ := owI_at hown hin1 hj; subst hg; have hqb1 := (hbb.cell (p := ⟨w.heap.size, 1, none⟩) hsz).trans hqa1; have hwb := below_next0 hwa hbb; clear hown hbb))
      all_goals
        go_wp2
        go_ret
        exact ⟨ret_bool (by rw [HP2.out]; simp [show ¬ ((j : Int) < 0) from by omega]), hwb⟩

theorem l10Can_any (v u : Value) (rooms : List Int) (ts : List Guest) (k : Nat) (w : World) (hv : SlI w v rooms) (hu : SlGuest w u ts) (hok : roomsOk rooms ts = true) (hk : k < ts.length) :
    Calls Try.prog 54 #[v, u, .int .i64 k] w fun e w' => e = .returned (.bool (canP rooms ts ts[k])) ∧ Below w.heap.size w w' := by
  have HV := Lib.hid hv; have HU := Lib.hid hu
  obtain ⟨A, c, rfl, hla, ha⟩ := hu.op
  obtain ⟨⟨h1, h2⟩, h3, h4, h5, h6⟩ := roomsOk_at hok
  obtain ⟨b, o, rfl, hbs, hc0, hc1⟩ := ha k hk
  have hf := Guest.fitsd (h5 k hk)
  have H3 := Lib.hid h3
  have HALL : Hid (ts.all (Guest.fits (lastR rooms)) = true) := Lib.hid (List.all_eq_true.2 fun x hx => by obtain ⟨i, hi, rfl⟩ := List.mem_iff_getElem.1 hx; exact h5 i hi)
  obtain ⟨hin1, hin2⟩ := freeK_inv h3 ts ts.length (Nat.le_refl _)
  have HP : Hid (canP rooms ts ts[k] = (!restB ts[k] && (decide (ts[k].wants < 0) || decide (0 < (freeK rooms ts ts.length).getD ts[k].wants.toNat 0)))) := Lib.hid rfl
  have hlti : (k : Int) < (ts.length : Int) := by omega
  clear hv hu ha h3 h5 h6 hin2
  generalize canP rooms ts ts[k] = res at HP ⊢
  generalize ts[k] = x at hc0 hc1 hf HP
  obtain ⟨x0, x1⟩ := x
  dsimp only at hc0 hc1 hf HP
  obtain ⟨hf1, hf2⟩ := hf
  by_cases hr : x1 = x0
  · have hr' : (x1 == x0) = true := by simpa using hr
    have HP2 : Hid (res = false) := Lib.hid (by rw [HP.out]; simp [restB, hr])
    clear hr
    go_enter Try.func54, Try.ntmps54
    go_wp2
    go_ret
    exact ⟨ret_bool (by rw [HP2.out]), below_alloc _ _⟩
  · have hr' : (x1 == x0) = false := by simpa using hr
    have hr2 : restB ⟨x0, x1⟩ = false := by simp [restB]; omega
    rw [hr2] at HP
    clear hr hr2
    go_enter Try.func54, Try.ntmps54
    go_wp2_with fail
    refine (l10Free_any _ _ rooms ts _ (HV.out.ex (below_alloc _ _)) (HU.out.ex (below_alloc _ _)) H3.out (by omega) (by omega)).mono ?_
    rintro e w3 ⟨A3, m3, c3, rfl, hown, hb3⟩
    obtain ⟨rfl, hown⟩ := hown HALL.out
    obtain ⟨hq0, hq1⟩ := box12 hb3
    have HB3 := Lib.hid (below_next0 (below_alloc w _) hb3)
    generalize (ts.all (Guest.fits (lastR rooms)) && nonnegB (freeK rooms ts ts.length)) = fine
    by_cases hw : x1 = -1
    · subst hw
      have HP2 : Hid (res = true) := Lib.hid (by rw [HP.out]; simp)
      clear hown hb3
      go_wp2
      go_ret
      exact ⟨ret_bool (by rw [HP2.out]), HB3.out⟩
    · have hwb : (x1 == -1) = false := by simpa using hw
      obtain ⟨j, rfl⟩ := Int.eq_ofNat_of_zero_le (show 0 ≤ x1 by omega)
      have hj : j < rooms.length := by unfold lastR at hf2; omega
      have hjl : j < (freeK rooms ts ts.length).length := by omega
      have HP2 : Hid (res = decide (0 < (freeK rooms ts ts.length)[j])) := Lib.hid (by rw [HP.out]; simp only [show ¬ ((j : Int) < 0) from by omega, decide_false, Bool.false_or, Bool.not_false, Bool.true_and, Int.toNat_natCast, List.getD_eq_getElem?_getD, List.getElem?_eq_getElem hjl, Option.getD_some])
      have hji : (j : Int) < (rooms.length : Int) := by omega
      obtain ⟨g, hg, hcj⟩ := owI_at hown hin1 hj
      subst hg
      clear hown hb3 hw
      go_wp2
      go_ret
      exact ⟨ret_bool (by rw [HP2.out]), HB3.out⟩

/-- the first k guests that can go -/
def canK (rooms : List Int) (ts : List Guest) (k : Nat) : List Int := ((List.range k).filter fun i => match ts[i]? with | some g => canP rooms ts g | none => false).map fun (i : Nat) => (i : Int)
theorem canK_yes {rooms : List Int} {ts : List Guest} {k : Nat} (hk : k < ts.length) (h : canP rooms ts ts[k] = true) : canK rooms ts (k + 1) = canK rooms ts k ++ [(k : Int)] := by
  simp [canK, List.range_succ, List.filter_append, hk, h]
theorem canK_no {rooms : List Int} {ts : List Guest} {k : Nat} (hk : k < ts.length) (h : canP rooms ts ts[k] = false) : canK rooms ts (k + 1) = canK rooms ts k := by
  simp [canK, List.range_succ, List.filter_append, hk, h]
theorem canK_len (rooms : List Int) (ts : List Guest) (k : Nat) : (canK rooms ts k).length ≤ k := by
  unfold canK; rw [List.length_map]
  exact Nat.le_trans (List.length_filter_le _ _) (by simp)
def canR (rooms : List Int) (ts : List Guest) : List Int × Int := if roomsOk rooms ts = true then (canK rooms ts ts.length, 0) else ([], 1)

set_option maxHeartbeats 1000000 in
theorem implCan_any (v u : Value) (rooms : List Int) (ts : List Guest) (w : World) (hv : SlI w v rooms) (hu : SlGuest w u ts) :
    Calls Try.prog 34 #[v, u] w fun e w' => ∃ A c, e = .returned (.tuple #[.slice A (canR rooms ts).1.length c, .int .i64 (canR rooms ts).2]) ∧ OwI w' w.heap.size (.slice A (canR rooms ts).1.length c) (canR rooms ts).1 ∧ Below w.heap.size w w' := by
  have HV := Lib.hid hv; have HU := Lib.hid hu
  obtain ⟨B, d, rfl, hlb, _⟩ := hu.op
  clear hv hu
  have HNIL := Lib.hid (fun w' : World => owI_nilR w' w.heap.size)
  go_enter Try.func34, Try.ntmps34
  go_wp2_with fail
  refine (validRooms_any _ _ rooms ts _ HV.out HU.out).mono ?_
  rintro e w1 ⟨rfl, hb1⟩
  cases hok : roomsOk rooms ts with
  | false =>
    have E : Hid (canR rooms ts = ([], 1)) := Lib.hid (by unfold canR; rw [hok]; rfl)
    go_wp2
    go_ret2
    exact ⟨none, 0, by rw [E.out]; rfl, by rw [E.out]; exact HNIL.out _, hb1⟩
  | true =>
    have E : Hid (canR rooms ts = (canK rooms ts ts.length, 0)) := Lib.hid (by unfold canR; rw [hok]; rfl)
    have HOK := Lib.hid hok
    obtain ⟨-, -, h4, -, -⟩ := roomsOk_at hok
    have HB1 := Lib.hid hb1
    have HEM := Lib.hid (owI_empty w1 w.heap.size hb1.size)
    have HBA := Lib.hid (hb1.alloc hb1.size (.cells #[] 2))
    clear hok hb1
    go_wp2
    go_loopw [6, 7, 15] (fun out gk i wr => ∃ (k : Nat) (A2 : Option Addr) (n c2 : Nat), k ≤ ts.length ∧ i = .int .i64 k ∧ out = .slice A2 n c2 ∧ Hid ((canK rooms ts k).length = n) ∧ OwI wr w.heap.size (.slice A2 n c2) (canK rooms ts k) ∧ Below w.heap.size w wr) (fun _ _ i _ => ts.length - (intOf i).toNat)
    case atStart => exact ⟨0, _, _, _, Nat.zero_le _, rfl, rfl, Lib.hid rfl, HEM.out, HBA.out⟩
    case round =>
      obtain ⟨k, A2, n, c2, hk, rfl, rfl, hn, hown, hb⟩ := hrel
      have hnl := canK_len rooms ts k
      by_cases hlt : k < ts.length
      · have hlti : (k : Int) < (ts.length : Int) := by omega
        have HC := Lib.hid (fun W (hW : Below w.heap.size w W) => canGo_any _ _ rooms ts k W (HV.out.ex hW) (HU.out.ex hW) HOK.out hlt)
        have HY := Lib.hid (canK_yes (rooms := rooms) hlt); have HNO := Lib.hid (canK_no (rooms := rooms) hlt)
        have HOW := Lib.hid hown; have HB := Lib.hid hb
        have hn8 : n ≤ 8 := by have := hn.out; omega
        generalize canP rooms ts ts[k] = p at HC HY HNO
        clear hown hb hnl
        cases p with
        | true =>
          have HE := Lib.hid (HY.out rfl)
          go_wp2_with fail
          refine (HC.out _ HB.out).mono ?_
          rintro e w2 ⟨rfl, hb2⟩
          have HB2 := Lib.hid (below_next0 HB.out hb2)
          have HOW2 := Lib.hid (HOW.out.ex hb2)
          clear hb2
          go_wp2_with (first | (at_builtin; refine wpList_appI w2 rfl (.tmp 22) (.tmp 24) rfl w.heap.size w.heap.size w A2 n c2 _ _ _ _ rfl HOW2.out hn.out rfl HB2.out (Nat.le_refl _) HB2.out.size (by omega) ?_; intro A3 c3 w3 hown3 hg3 hsz3 hb3) | fail)
          rw [← HE.out] at hown3
          have HO3 := Lib.hid hown3; have HB3 := Lib.hid hb3
          clear hown3 hb3 hg3 hsz3
          go_wp2
          go_roundw
          case rel => exact ⟨k + 1, A3, n + 1, c3, by omega, by go_num, rfl, Lib.hid (by rw [HE.out, List.length_append, hn.out]; rfl), HO3.out, HB3.out⟩
          case measure => simp [intOf]; omega
        | false =>
          have HE := Lib.hid (HNO.out rfl)
          go_wp2_with fail
          refine (HC.out _ HB.out).mono ?_
          rintro e w2 ⟨rfl, hb2⟩
          have HB2 := Lib.hid (below_next0 HB.out hb2)
          have HOW2 := Lib.hid (HOW.out.ex hb2)
          clear hb2
          go_wp2
          go_roundw
          case rel => exact ⟨k + 1, A2, n, c2, by omega, by go_num, rfl, Lib.hid (by rw [HE.out, hn.out]), by rw [HE.out]; exact HOW2.out, HB2.out⟩
          case measure => simp [intOf]; omega
      · have hkn : k = ts.length := by omega
        subst hkn
        have HO2 := Lib.hid hown; clear hown
        go_wp2
        go_ret2
        exact ⟨A2, c2, by rw [E.out]; simp only [hn.out]; rfl, by rw [E.out]; simp only [hn.out]; exact HO2.out, hb⟩
end Go.Proofs.Ytedoibgclplnaaa
