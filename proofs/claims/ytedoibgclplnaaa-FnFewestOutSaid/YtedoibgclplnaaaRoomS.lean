/-
FewestOut of the reference and of the program: the same guests. Condition: the slices read as lists.
-/
import Derived.Test.YtedoibgclplnaaaRoomR
import Derived.Test.YtedoibgclplnaaaCompare
import Derived.Test.YtedoibgclplnaaaSub
namespace Go.Proofs.Ytedoibgclplnaaa
open Go.RowKit
set_option linter.unusedVariables false

open Classical in
noncomputable def fewX (rooms : List Int) (ts : List Guest) : List Int := if h : ∃ X, IsBest ts.length (fe rooms ts) X then h.choose else []
theorem fewX_eq {rooms : List Int} {ts : List Guest} {X : List Int} (h : IsBest ts.length (fe rooms ts) X) : fewX rooms ts = X := by
  have h2 : ∃ X, IsBest ts.length (fe rooms ts) X := ⟨X, h⟩
  unfold fewX; rw [dif_pos h2]; exact h2.choose_spec.unique h
noncomputable def fewR (rooms : List Int) (ts : List Guest) : List Int × Int := if roomsOk rooms ts = true then (fewX rooms ts, 0) else ([], 1)
theorem fewR_ok {rooms : List Int} {ts : List Guest} (hok : roomsOk rooms ts = true) : fewR rooms ts = (fewX rooms ts, 0) := by unfold fewR; rw [hok]; rfl
theorem fewR_bad {rooms : List Int} {ts : List Guest} (hok : roomsOk rooms ts = false) : fewR rooms ts = ([], 1) := by unfold fewR; rw [hok]; rfl

set_option maxHeartbeats 1000000 in
theorem specFew_any (v u : Value) (rooms : List Int) (ts : List Guest) (w : World) (hv : SlI w v rooms ∧ rooms.length ≤ 1048576) (hu : SlGuest w u ts ∧ ts.length ≤ 1048576) :
    Calls Try.prog 43 #[v, u] w fun e w' => ∃ A c, e = .returned (.tuple #[.slice A (fewR rooms ts).1.length c, .int .i64 (fewR rooms ts).2]) ∧ OwI w' w.heap.size (.slice A (fewR rooms ts).1.length c) (fewR rooms ts).1 ∧ Below w.heap.size w w' := by
  obtain ⟨hv, hl⟩ := hv
  obtain ⟨hu, hts⟩ := hu
  have HV := Lib.hid hv; have HU := Lib.hid hu
  obtain ⟨B, d, rfl, hlb, _⟩ := hu.op
  clear hv hu
  have HNIL := Lib.hid (fun w' : World => owI_nilR w' w.heap.size)
  go_enter Try.func43, Try.ntmps43
  go_wp2_with fail
  refine (l10Ok_any _ _ rooms ts _ HV.out HU.out hl hts).mono ?_
  rintro e w1 ⟨rfl, hb1⟩
  cases hok : roomsOk rooms ts with
  | false =>
    have E := Lib.hid (fewR_bad hok)
    go_wp2
    go_ret2
    exact ⟨none, 0, by rw [E.out]; rfl, by rw [E.out]; exact HNIL.out _, hb1⟩
  | true =>
    have E := Lib.hid (fewR_ok hok)
    have HOK := Lib.hid hok
    obtain ⟨-, -, h4, -, -⟩ := roomsOk_at hok
    have HB1 := Lib.hid hb1
    have HALL := Lib.hid (fe_all rooms ts)
    clear hok hb1
    go_wp2
    go_loopw [6, 7, 8] (fun i _ _ wr => ∃ m : Nat, m ≤ ts.length ∧ i = .int .i64 (m : Int) ∧ Hid (∀ k, k < m → None ts.length (fe rooms ts) [] 0 k) ∧ Below w.heap.size w wr) (fun i _ _ _ => ts.length - (intOf i).toNat)
    case atStart => exact ⟨0, Nat.zero_le _, rfl, Lib.hid (fun k h => absurd h (Nat.not_lt_zero _)), HB1.out⟩
    case round =>
      obtain ⟨m, hm, rfl, hN, hb⟩ := hrel
      have HEM := Lib.hid (owI_empty wr w.heap.size hb.size)
      have HBA := Lib.hid (below_next0 hb (below_alloc wr (.cells #[] 2)))
      have HC := Lib.hid (l10Fewest_any v rooms ts B d w HV.out HU.out HOK.out m (by omega) 0 [] (some ⟨wr.heap.size, 0, none⟩) 0 0 _ (Nat.zero_le _) HBA.out HEM.out rfl (by omega) (by simp))
      clear hb
      go_wp2_with fail
      refine HC.out.mono ?_
      rintro e w4 (⟨X, A4, n4, c4, rfl, hn4, hfirst, hown4, hb4⟩ | ⟨A4, n4, c4, rfl, hnone, hb4⟩)
      · have HB4 := Lib.hid (below_next0 HBA.out hb4)
        have HX := Lib.hid (fewX_eq (first_best hfirst hN.out))
        have HO4 := Lib.hid hown4; have HN4 := Lib.hid hn4
        rw [HX.out] at E
        clear hn4 hfirst hown4 hb4
        go_wp2
        go_ret2
        exact ⟨A4, c4, by rw [E.out]; simp only [HN4.out]; rfl, by rw [E.out]; simp only [HN4.out]; exact HO4.out, HB4.out⟩
      · have HB4 := Lib.hid (below_next0 HBA.out hb4)
        have hne : m ≠ ts.length := fun e => by
          obtain ⟨Y, hY, hl, hf⟩ := HALL.out
          have := hnone Y hY (by rw [hl, e])
          simp [hf] at this
        have HNN : Hid (∀ k, k < m + 1 → None ts.length (fe rooms ts) [] 0 k) := Lib.hid fun k hk => by
          by_cases e : k = m
          · subst e; exact hnone
          · exact hN.out k (by omega)
        clear hnone hb4
        go_wp2
        go_roundw
        case rel => exact ⟨m + 1, by omega, by go_num, HNN, HB4.out⟩
        case measure => simp [intOf]; omega

theorem bitsI1 : ∀ s : Nat, s < 256 → ∀ k : Nat, k < 8 → (bits .and .i64 ((s : Int) / 2 ^ k) 1 == 1) = Nat.testBit s k := by decide +kernel
/-- a guest is put into a row of guests -/
theorem set2G {w : World} {lo n g c k : Nat} {l : List Guest} (g' : Guest) (hd : Ow w lo 34 2 (.slice (some ⟨g, 0, none⟩) n c) n (l.flatMap Guest.vals)) (hk : k < l.length) :
    Ow ((w.setCell ⟨g, k * 2, none⟩ (.int .i64 g'.here)).setCell ⟨g, k * 2 + 1, none⟩ (.int .i64 g'.wants)) lo 34 2 (.slice (some ⟨g, 0, none⟩) n c) n ((l.set k g').flatMap Guest.vals) ∧
    GrS (fun j => j = g) w ((w.setCell ⟨g, k * 2, none⟩ (.int .i64 g'.here)).setCell ⟨g, k * 2 + 1, none⟩ (.int .i64 g'.wants)) := by
  have h := Ow.set (Ow.set hd (k * 2) (.int .i64 g'.here)) (k * 2 + 1) (.int .i64 g'.wants)
  rw [flat_set2 g' l k hk] at h
  exact ⟨h, GrS.trans (R := fun j => j = g) (GrS.set (R := fun j => j = g) (p := ⟨g, k * 2, none⟩) rfl _) (GrS.set (R := fun j => j = g) (p := ⟨g, k * 2 + 1, none⟩) rfl _)⟩

set_option maxRecDepth 100000 in
set_option maxHeartbeats 4000000 in
theorem implFew_any (v u : Value) (rooms : List Int) (ts : List Guest) (w : World) (hv : SlI w v rooms) (hu : SlGuest w u ts) :
    Calls Try.prog 15 #[v, u] w fun e w' => ∃ A c, e = .returned (.tuple #[.slice A (fewR rooms ts).1.length c, .int .i64 (fewR rooms ts).2]) ∧ OwI w' w.heap.size (.slice A (fewR rooms ts).1.length c) (fewR rooms ts).1 ∧ Below w.heap.size w w' := by
  have HV := Lib.hid hv; have HU := Lib.hid hu
  obtain ⟨B, d, rfl, hlb, _⟩ := hu.op
  clear hv hu
  have HNIL := Lib.hid (fun w' : World => owI_nilR w' w.heap.size)
  go_enter Try.func15, Try.ntmps15
  go_wp2_with fail
  refine (validRooms_any _ _ rooms ts _ HV.out HU.out).mono ?_
  rintro e w1 ⟨rfl, hb1⟩
  cases hok : roomsOk rooms ts with
  | false =>
    have E := Lib.hid (fewR_bad hok)
    go_wp2
    go_ret2
    exact ⟨none, 0, by rw [E.out]; rfl, by rw [E.out]; exact HNIL.out _, hb1⟩
  | true =>
    have E := Lib.hid (fewR_ok hok)
    have HOK := Lib.hid hok
    obtain ⟨-, -, h4, -, -⟩ := roomsOk_at hok
    have HB1 := Lib.hid hb1
    have HALL := Lib.hid (fe_all rooms ts)
    have hp8 := pow_le8 h4
    have HSH := Lib.hid (shlN8 ts.length (by omega))
    have HBEST : Hid (∀ b X, BestTo ts.length (fe rooms ts) (2 ^ ts.length) b X → fewX rooms ts = X) := Lib.hid fun b X h => by
      obtain ⟨Y, hY, -, hf⟩ := HALL.out
      exact fewX_eq (bestTo_end h ⟨Y, hY, hf⟩)
    obtain ⟨N, HN⟩ : ∃ N : Nat, Hid (2 ^ ts.length = N) := ⟨_, Lib.hid rfl⟩
    rw [HN.out] at hp8 HSH HBEST
    have HEM := Lib.hid (owI_empty w1 w.heap.size hb1.size)
    have HBA := Lib.hid (below_next0 hb1 (below_alloc w1 (.cells #[] 2)))
    clear hok hb1
    go_wp2
    rw [HSH.out]
    go_loopw [6, 7, 8, 9, 10, 11, 21, 29] (fun best f _ _ _ _ i _ wr => ∃ (s : Nat) (b : Bool) (X : List Int) (A : Option Addr) (n c : Nat), s ≤ N ∧ i = .int .i64 (s : Int) ∧ f = .bool b ∧ best = .slice A n c ∧ Hid (BestTo ts.length (fe rooms ts) s b X) ∧ Hid (X.length = n) ∧ Hid (OwI wr w.heap.size (.slice A n c) X) ∧ Below w.heap.size w wr) (fun _ _ _ _ _ _ i _ _ => N - (intOf i).toNat)
    case atStart => exact ⟨0, false, [], _, _, _, Nat.zero_le _, rfl, rfl, rfl, Lib.hid bestTo_zero, Lib.hid rfl, HEM, HBA.out⟩
    case round =>
      obtain ⟨s, b, X, A, n, c, hs, rfl, rfl, rfl, hBT, hXn, hOX, hb⟩ := hrel
      by_cases hlt : s < N
      · have hki : (s : Int) < (N : Int) := by omega
        have hs8 : s < 256 := by omega
        have HB := Lib.hid hb
        clear hb
        obtain ⟨wA, rfl⟩ : ∃ wA : World, wA = wr := ⟨_, rfl⟩
        go_wp2_with fail
        refine (cloneG_any _ ts _ (HU.out.ex HB.out) (by omega)).mono ?_
        rintro e w2 ⟨A2, c2, rfl, hown2, hb2⟩
        have HR0 : Hid (Ow (w2.alloc (.cells #[] 2)) wA.heap.size 34 2 (.slice A2 ts.length c2) ts.length ((wo ts (subL 0 s)).flatMap Guest.vals)) := Lib.hid (Ow.alloc hown2 _)
        have HE0 := Lib.hid (owI_empty w2 wA.heap.size hb2.size)
        have HSEP0 : Hid (Sep (.slice A2 ts.length c2) (.slice (some ⟨w2.heap.size, 0, none⟩) 0 0)) := Lib.hid (Ow.sep_new hown2 (owI_empty w2 w2.heap.size (Nat.le_refl _)) (Nat.le_refl _))
        have HB2 := Lib.hid (below_next0 hb2 (below_alloc w2 (.cells #[] 2)))
        clear hown2 hb2
        go_wp2
        go_loopw [10, 11, 29] (fun own _ i wq => ∃ (k : Nat) (Ao : Option Addr) (no co : Nat), k ≤ ts.length ∧ i = .int .i64 (k : Int) ∧ own = .slice Ao no co ∧ no ≤ k ∧ Hid ((subL k s).length = no) ∧ Hid (Ow wq wA.heap.size 34 2 (.slice A2 ts.length c2) ts.length ((wo ts (subL k s)).flatMap Guest.vals)) ∧
          Hid (OwI wq wA.heap.size (.slice Ao no co) (subL k s)) ∧ Hid (Sep (.slice A2 ts.length c2) (.slice Ao no co)) ∧ Hid (Below wA.heap.size wA wq)) (fun _ _ i _ => ts.length - (intOf i).toNat)
        case atStart => exact ⟨0, _, _, _, Nat.zero_le _, rfl, rfl, Nat.le_refl _, Lib.hid rfl, HR0, HE0, HSEP0, HB2⟩
        case round =>
          obtain ⟨k, Ao, no, co, hk, rfl, rfl, hnk, hon, hrest, hown, hsep, hbq⟩ := hrel
          by_cases hltk : k < ts.length
          · have hkk : (k : Int) < (ts.length : Int) := by omega
            have HBI := Lib.hid (bitsI1 s hs8 k (by omega))
            cases hbit : s.testBit k with
            | false =>
              have hbe : (bits .and .i64 ((s : Int) / 2 ^ k) 1 == 1) = false := HBI.out.trans hbit
              have HE := Lib.hid (subL_no hbit)
              clear hbit
              go_wp2
              go_roundw
              case rel => exact ⟨k + 1, Ao, no, co, by omega, by go_num, rfl, by omega, Lib.hid (by rw [HE.out]; exact hon.out), Lib.hid (by rw [HE.out]; exact hrest.out), Lib.hid (by rw [HE.out]; exact hown.out), hsep, hbq⟩
              case measure => simp [intOf]; omega
            | true =>
              have hbe : (bits .and .i64 ((s : Int) / 2 ^ k) 1 == 1) = true := HBI.out.trans hbit
              have HE := Lib.hid (subL_yes hbit)
              have HEW : Hid (wo ts (subL (k + 1) s) = (wo ts (subL k s)).set k outG) := Lib.hid (by rw [HE.out, wo_snoc]; rfl)
              clear hbit
              rcases Ow.form hrest.out with ⟨_, h0, _⟩ | ⟨g, c4, hA2, hlo2, hltg, hcl⟩
              · omega
              · injection hA2 with hA2 _ hc2
                subst hA2 hc2
                have hwl := wo_len (subL k s) ts
                have hfl : ((wo ts (subL k s)).flatMap Guest.vals).length = ts.length * 2 := by rw [flat_len _ _ Guest.vals_len, hwl]
                have HFL := Lib.hid hfl; have HWLK := Lib.hid hwl
                clear hfl hwl hcl hlo2 hltg
                go_wp2_with (first | (at_builtin; refine wpList_appI2 wr rfl (.tmp 41) (.tmp 43) rfl wA.heap.size wA.heap.size wA Ao no co (subL k s) (k : Int) _ _ rfl hown.out hon.out rfl hbq.out (Nat.le_refl _) hbq.out.size (by omega) hrest.out hsep.out ?_; intro A3 c3 w3 hown3 hsz3 hb3 hd3 hsep3; obtain ⟨hset, hgr⟩ := set2G outG hd3 (by rw [HWLK.out]; exact hltk); have hy0 := Ow.cell hd3 (k := k * 2) (by rw [HFL.out]; omega); have hy1 := Ow.cell hd3 (k := k * 2 + 1) (by rw [HFL.out]; omega); have hf0 := Ow.free hd3 (k * 2); have hf1 := Ow.free hd3 (k * 2 + 1); rw [← HEW.out] at hset; rw [← HE.out] at hown3; have HSET := Lib.hid hset; have HO3 := Lib.hid (Ow.off hown3 hgr (fun j hj hr => by rcases hsep3 with h | h; simp [Value.ownBlock] at h; exact h (by rw [hj, hr]; rfl))); have HB3 := Lib.hid ((hb3.setCell (p := ⟨g, k * 2, none⟩) (RowOf.lt hd3 g rfl).1 (.int .i64 outG.here)).setCell (p := ⟨g, k * 2 + 1, none⟩) (RowOf.lt hd3 g rfl).1 (.int .i64 outG.wants)); have HS3 := Lib.hid hsep3; generalize ((wo ts (subL k s)).flatMap Guest.vals)[k * 2]'(by rw [HFL.out]; omega) = z0 at hy0; generalize ((wo ts (subL k s)).flatMap Guest.vals)[k * 2 + 1]'(by rw [HFL.out]; omega) = z1 at hy1; clear hown3 hb3 hd3 hsep3 hset hgr hsz3) | fail)
                go_roundw
                case rel => exact ⟨k + 1, A3, no + 1, c3, by omega, by go_num, rfl, by omega, Lib.hid (by rw [HE.out, List.length_append, hon.out]; rfl), HSET, HO3, HS3, HB3⟩
                case measure => simp [intOf]; omega
          · have hkn : k = ts.length := by omega
            subst hkn
            have HWL := Lib.hid (wo_len (subL ts.length s) ts)
            have HREST : Hid (SlGuest wr (.slice A2 ts.length c2) (wo ts (subL ts.length s))) := Lib.hid (by unfold SlGuest; rw [HWL.out]; exact hrest.out.sl)
            have HOWN := Lib.hid (hown.out.mono HB.out.size)
            have HB3 := Lib.hid (below_next0 HB.out hbq.out)
            have HX3 := Lib.hid (hOX.out.ex hbq.out)
            have HOKW := Lib.hid (wo_ok HOK.out (subL ts.length s))
            have HRS := Lib.hid (reachedSets_any v _ rooms (wo ts (subL ts.length s)) wr (HV.out.ex HB3.out) HREST.out HOKW.out)
            have HMV := Lib.hid (fun W (hW : Below wr.heap.size wr W) => moving_any _ (wo ts (subL ts.length s)) W (HREST.out.ex hW) (by rw [HWL.out]; exact h4))
            have hML := mov_lt (ts := wo ts (subL ts.length s)) (by rw [HWL.out]; exact h4) (Nat.le_refl _)
            have HFE : Hid (rchB (wo ts (subL ts.length s)).length (canS rooms (wo ts (subL ts.length s))) (movL (wo ts (subL ts.length s)) (wo ts (subL ts.length s)).length) = fe rooms ts (subL ts.length s)) := Lib.hid (by
              have h9 := order_iff (rooms := rooms) (ts := wo ts (subL ts.length s))
              unfold fe
              rw [Bool.eq_iff_iff, rchB_iff, ← h9, HWL.out])
            have HRL : Hid (∀ h, (rchL (wo ts (subL ts.length s)).length (canS rooms (wo ts (subL ts.length s))))[movL (wo ts (subL ts.length s)) (wo ts (subL ts.length s)).length]'h = rchB (wo ts (subL ts.length s)).length (canS rooms (wo ts (subL ts.length s))) (movL (wo ts (subL ts.length s)) (wo ts (subL ts.length s)).length)) := Lib.hid fun h => rchL_at h
            have h2n : 2 ^ (wo ts (subL ts.length s)).length = N := by rw [HWL.out]; exact HN.out
            rw [h2n] at HRS hML
            clear h2n
            generalize movL (wo ts (subL ts.length s)) (wo ts (subL ts.length s)).length = M at HMV hML HFE HRL
            have hMi : (M : Int) < (N : Int) := by omega
            cases b with
            | false =>
              have HLESS : Hid (false = true → less (subL ts.length s) X) := Lib.hid (fun h => by cases h)
              go_wp2_with fail
              refine HRS.out.mono ?_
              rintro e w5 ⟨A5, c5, rfl, hown5, hb5⟩
              have HB5 := Lib.hid hb5
              have HO5 := Lib.hid hown5
              clear hown5 hb5
              go_wp2_with fail
              refine (HMV.out _ HB5.out).mono ?_
              rintro e w6 ⟨rfl, hb6⟩
              have HB6 := Lib.hid (below_next0 HB5.out hb6)
              obtain ⟨g, rfl, hlo, hgl, hcell, -⟩ := owB_at (HO5.out.ex hb6) (by rw [rchL_len, HWL.out, HN.out]) hML
              rw [HRL.out, HFE.out] at hcell
              clear hb6
              have HOWN6 := Lib.hid (HOWN.out.ex HB6.out)
              have HX6 := Lib.hid (HX3.out.ex HB6.out)
              have HB7 := Lib.hid (below_next0 HB3.out HB6.out)
              cases hfe : fe rooms ts (subL ts.length s) with
              | true =>
                rw [hfe] at hcell
                have HBT2 : Hid (BestTo ts.length (fe rooms ts) (s + 1) true (subL ts.length s)) := Lib.hid (bestTo_yes hBT.out (fun h => HLESS.out (by first | exact h | trivial)) hfe)
                clear hfe
                go_wp2
                go_roundw
                case rel => exact ⟨s + 1, true, subL ts.length s, Ao, no, co, by omega, by go_num, rfl, rfl, HBT2, hon, HOWN6, HB7.out⟩
                case measure => simp [intOf]; omega
              | false =>
                rw [hfe] at hcell
                have HBT2 := Lib.hid (bestTo_no hBT.out hfe)
                clear hfe
                go_wp2
                go_roundw
                case rel => exact ⟨s + 1, _, X, A, n, c, by omega, by go_num, rfl, rfl, HBT2, hXn, HX6, HB7.out⟩
                case measure => simp [intOf]; omega
            | true =>
              by_cases h1 : n < no
              · have h1i : (n : Int) < (no : Int) := by omega
                have HNL : Hid (¬ less (subL ts.length s) X) := Lib.hid (by rintro (h | ⟨h, -⟩) <;> rw [hon.out, hXn.out] at h <;> omega)
                have HBT2 := Lib.hid (bestTo_skip hBT.out HNL.out)
                go_wp2
                go_roundw
                case rel => exact ⟨s + 1, true, X, A, n, c, by omega, by go_num, rfl, rfl, HBT2, hXn, HX3, HB3.out⟩
                case measure => simp [intOf]; omega
              · by_cases h2 : no = n
                · have h1i : ¬ (n : Int) < (no : Int) := by omega
                  have h2b : ((no : Int) == (n : Int)) = true := by simp; omega
                  have HCMP := Lib.hid (compareI_any _ _ (subL ts.length s) X wr hown.out.sl HX3.out.sl)
                  have HIFF : Hid (less (subL ts.length s) X ↔ cmpL (subL ts.length s) X < 0) := Lib.hid (by
                    unfold less; rw [hon.out, hXn.out]
                    constructor
                    · rintro (h | ⟨-, h⟩)
                      · omega
                      · exact h
                    · intro h; exact .inr ⟨h2, h⟩)
                  generalize cmpL (subL ts.length s) X = cm at HCMP HIFF
                  clear h2
                  by_cases hc : cm < 0
                  · have HLESS : Hid (true = true → less (subL ts.length s) X) := Lib.hid (fun _ => HIFF.out.2 hc)
                    have hci : ¬ (0 ≤ cm) := by omega
                    go_wp2_with fail
                    refine HCMP.out.mono ?_
                    rintro e w9 ⟨rfl, rfl⟩
                    go_wp2_with fail
                    refine HRS.out.mono ?_
                    rintro e w5 ⟨A5, c5, rfl, hown5, hb5⟩
                    have HB5 := Lib.hid hb5
                    have HO5 := Lib.hid hown5
                    clear hown5 hb5
                    go_wp2_with fail
                    refine (HMV.out _ HB5.out).mono ?_
                    rintro e w6 ⟨rfl, hb6⟩
                    have HB6 := Lib.hid (below_next0 HB5.out hb6)
                    obtain ⟨g, rfl, hlo, hgl, hcell, -⟩ := owB_at (HO5.out.ex hb6) (by rw [rchL_len, HWL.out, HN.out]) hML
                    rw [HRL.out, HFE.out] at hcell
                    clear hb6
                    have HOWN6 := Lib.hid (HOWN.out.ex HB6.out)
                    have HX6 := Lib.hid (HX3.out.ex HB6.out)
                    have HB7 := Lib.hid (below_next0 HB3.out HB6.out)
                    cases hfe : fe rooms ts (subL ts.length s) with
                    | true =>
                      rw [hfe] at hcell
                      have HBT2 : Hid (BestTo ts.length (fe rooms ts) (s + 1) true (subL ts.length s)) := Lib.hid (bestTo_yes hBT.out (fun h => HLESS.out (by first | exact h | trivial)) hfe)
                      clear hfe
                      go_wp2
                      go_roundw
                      case rel => exact ⟨s + 1, true, subL ts.length s, Ao, no, co, by omega, by go_num, rfl, rfl, HBT2, hon, HOWN6, HB7.out⟩
                      case measure => simp [intOf]; omega
                    | false =>
                      rw [hfe] at hcell
                      have HBT2 := Lib.hid (bestTo_no hBT.out hfe)
                      clear hfe
                      go_wp2
                      go_roundw
                      case rel => exact ⟨s + 1, _, X, A, n, c, by omega, by go_num, rfl, rfl, HBT2, hXn, HX6, HB7.out⟩
                      case measure => simp [intOf]; omega
                  · have HNL : Hid (¬ less (subL ts.length s) X) := Lib.hid (fun h => hc (HIFF.out.1 h))
                    have hci : 0 ≤ cm := by omega
                    go_wp2_with fail
                    refine HCMP.out.mono ?_
                    rintro e w9 ⟨rfl, rfl⟩
                    have HBT2 := Lib.hid (bestTo_skip hBT.out HNL.out)
                    go_wp2
                    go_roundw
                    case rel => exact ⟨s + 1, true, X, A, n, c, by omega, by go_num, rfl, rfl, HBT2, hXn, HX3, HB3.out⟩
                    case measure => simp [intOf]; omega
                · have h1i : ¬ (n : Int) < (no : Int) := by omega
                  have h2b : ((no : Int) == (n : Int)) = false := by simp; omega
                  have HLESS : Hid (true = true → less (subL ts.length s) X) := Lib.hid (fun _ => .inl (by rw [hon.out, hXn.out]; omega))
                  go_wp2_with fail
                  refine HRS.out.mono ?_
                  rintro e w5 ⟨A5, c5, rfl, hown5, hb5⟩
                  have HB5 := Lib.hid hb5
                  have HO5 := Lib.hid hown5
                  clear hown5 hb5
                  go_wp2_with fail
                  refine (HMV.out _ HB5.out).mono ?_
                  rintro e w6 ⟨rfl, hb6⟩
                  have HB6 := Lib.hid (below_next0 HB5.out hb6)
                  obtain ⟨g, rfl, hlo, hgl, hcell, -⟩ := owB_at (HO5.out.ex hb6) (by rw [rchL_len, HWL.out, HN.out]) hML
                  rw [HRL.out, HFE.out] at hcell
                  clear hb6
                  have HOWN6 := Lib.hid (HOWN.out.ex HB6.out)
                  have HX6 := Lib.hid (HX3.out.ex HB6.out)
                  have HB7 := Lib.hid (below_next0 HB3.out HB6.out)
                  cases hfe : fe rooms ts (subL ts.length s) with
                  | true =>
                    rw [hfe] at hcell
                    have HBT2 : Hid (BestTo ts.length (fe rooms ts) (s + 1) true (subL ts.length s)) := Lib.hid (bestTo_yes hBT.out (fun h => HLESS.out (by first | exact h | trivial)) hfe)
                    clear hfe
                    go_wp2
                    go_roundw
                    case rel => exact ⟨s + 1, true, subL ts.length s, Ao, no, co, by omega, by go_num, rfl, rfl, HBT2, hon, HOWN6, HB7.out⟩
                    case measure => simp [intOf]; omega
                  | false =>
                    rw [hfe] at hcell
                    have HBT2 := Lib.hid (bestTo_no hBT.out hfe)
                    clear hfe
                    go_wp2
                    go_roundw
                    case rel => exact ⟨s + 1, _, X, A, n, c, by omega, by go_num, rfl, rfl, HBT2, hXn, HX6, HB7.out⟩
                    case measure => simp [intOf]; omega
      · have hsn : s = N := by omega
        have HX : Hid (fewX rooms ts = X) := Lib.hid (HBEST.out b X (by rw [← hsn]; exact hBT.out))
        rw [HX.out] at E
        go_wp2
        go_ret2
        exact ⟨A, c, by rw [E.out]; simp only [hXn.out]; rfl, by rw [E.out]; simp only [hXn.out]; exact hOX.out, hb⟩
end Go.Proofs.Ytedoibgclplnaaa
