/-
moving and reachedSets of the program, MostGone of the program. Condition: the slices read as lists, valid rooms.
-/
import Derived.Test.YtedoibgclplnaaaGReach
namespace Go.Proofs.Ytedoibgclplnaaa
open Go.RowKit
set_option linter.unusedVariables false

theorem bitsOr : ∀ s : Nat, s < 256 → ∀ k : Nat, k < 8 → bits .or .i64 (s : Int) (2 ^ k) = ((s ||| 2 ^ k : Nat) : Int) := by decide +kernel
theorem shlI8 : ∀ k : Nat, k < 9 → wrap64 (2 ^ k) = 2 ^ k := by decide +kernel
theorem shlN8 : ∀ k : Nat, k < 9 → wrap64 (2 ^ k) = ((2 ^ k : Nat) : Int) := by decide +kernel
theorem or_lt8 {s k : Nat} (hs : s < 256) (hk : k < 8) : s ||| 2 ^ k < 256 := or_lt (n := 8) hs hk
theorem pow_le8 {n : Nat} (h : n ≤ 8) : 2 ^ n ≤ 256 := by
  have : 2 ^ n ≤ 2 ^ 8 := Nat.pow_le_pow_right (by omega) h
  simpa using this

set_option maxHeartbeats 1000000 in
theorem moving_any (u : Value) (ts : List Guest) (w : World) (hu : SlGuest w u ts) (hl : ts.length ≤ 8) :
    Calls Try.prog 51 #[u] w fun e w' => e = .returned (.int .i64 ((movL ts ts.length : Nat) : Int)) ∧ Below w.heap.size w w' := by
  obtain ⟨A, c, rfl, hla, ha⟩ := hu.op
  have HA := Lib.hid ha
  clear hu ha
  go_enter Try.func51, Try.ntmps51
  go_wp2
  go_loopw [3, 4, 5, 8] (fun s _ _ i wr => ∃ k : Nat, k ≤ ts.length ∧ i = .int .i64 k ∧ s = .int .i64 ((movL ts k : Nat) : Int) ∧ Below w.heap.size w wr) (fun _ _ _ i _ => ts.length - (intOf i).toNat)
  case atStart => exact ⟨0, Nat.zero_le _, rfl, rfl, Below.refl _ _⟩
  case round =>
    obtain ⟨k, hk, rfl, rfl, hb⟩ := hrel
    by_cases hlt : k < ts.length
    · obtain ⟨b, o, rfl, hbs, hc0, hc1⟩ := HA.out k hlt
      have hx0 := (hb.cell (p := ⟨b, o + k * 2, none⟩) hbs).trans hc0
      have hx1 := (hb.cell (p := ⟨b, o + k * 2 + 1, none⟩) hbs).trans hc1
      have hki : (k : Int) < (ts.length : Int) := by omega
      have hs8 : movL ts k < 256 := Nat.lt_of_lt_of_le (mov_lt hl hk) (pow_le8 hl)
      have HOR := Lib.hid (bitsOr (movL ts k) hs8 k (by omega))
      have HR : Hid (∀ W, Calls Try.prog 62 #[.agg #[.int .i64 ts[k].here, .int .i64 ts[k].wants]] W fun e w' => e = .returned (.bool (restB ts[k])) ∧ Below W.heap.size W w') := Lib.hid fun W => rests_any _ _ W
      have HY := Lib.hid (fun h => mov_yes (ts := ts) hlt h); have HN := Lib.hid (fun h => mov_no (ts := ts) hlt h)
      have HSH := Lib.hid (shlI8 k (by omega))
      generalize restB ts[k] = r at HR HY HN
      generalize ts[k].here = x0 at hx0 HR
      generalize ts[k].wants = x1 at hx1 HR
      generalize movL ts k = s at HOR HY HN hs8 ⊢
      have HB := Lib.hid hb
      clear hc0 hc1 hb
      go_wp2_with fail
      refine (HR.out _).mono ?_
      rintro e w1 ⟨rfl, hb1⟩
      have HB1 := Lib.hid (below_next0 HB.out (below_next0 (below_alloc wr _) hb1))
      clear hb1
      cases r with
      | true =>
        have HE := Lib.hid (HN.out rfl)
        go_wp2
        go_roundw
        case rel => exact ⟨k + 1, by omega, by go_num, by rw [HE.out], HB1.out⟩
        case measure => simp [intOf]; omega
      | false =>
        have HE := Lib.hid (HY.out rfl)
        go_wp2
        go_roundw
        case rel => exact ⟨k + 1, by omega, by go_num, by rw [HE.out, ← HOR.out, HSH.out], HB1.out⟩
        case measure => simp [intOf]; omega
    · have hkn : k = ts.length := by omega
      subst hkn
      go_wp2
      go_ret
      exact ⟨rfl, hb⟩

/-- rows of bools -/
def OwB (w : World) (lo : Nat) (v : Value) (xs : List Bool) : Prop := Ow w lo 4 1 v xs.length (xs.map Value.bool)
theorem infoB : (Try.prog.info? 4).map (fun i => (i.zero, i.size, i.bytes)) = some (some (.bool false), 1, 1) := by kernel_rfl
section
variable {w w' : World} {v : Value} {xs : List Bool} {lo : Nat}
theorem OwB.ex (h : OwB w lo v xs) (hb : Below w.heap.size w w') : OwB w' lo v xs := Ow.ex h hb
theorem OwB.mono (h : OwB w lo v xs) {lo' : Nat} (hlo : lo' ≤ lo) : OwB w lo' v xs := Ow.mono h hlo
theorem OwB.set {g c : Nat} (h : OwB w lo (.slice (some ⟨g, 0, none⟩) xs.length c) xs) (k : Nat) (u : Bool) : OwB (w.setCell ⟨g, k, none⟩ (.bool u)) lo (.slice (some ⟨g, 0, none⟩) xs.length c) (xs.set k u) := by
  have := Ow.set h k (.bool u)
  rw [← List.map_set] at this
  unfold OwB
  rwa [List.length_set]
theorem OwB.cell {g c : Nat} (h : OwB w lo (.slice (some ⟨g, 0, none⟩) xs.length c) xs) {k : Nat} (hk : k < xs.length) : w.cell? ⟨g, k, none⟩ = some (.bool xs[k]) := by
  have := Ow.cell h (k := k) (by simpa using hk)
  simpa using this
theorem OwB.free {g c : Nat} (h : OwB w lo (.slice (some ⟨g, 0, none⟩) xs.length c) xs) (k : Nat) : w.frozen? ⟨g, k, none⟩ = false := Ow.free h k
end
theorem owB_at {w : World} {lo n c j : Nat} {A : Option Addr} {xs : List Bool} (h : OwB w lo (.slice A n c) xs) (hn : xs.length = n) (hj : j < n) : ∃ g, A = some ⟨g, 0, none⟩ ∧ lo ≤ g ∧ g < w.heap.size ∧ w.cell? ⟨g, j, none⟩ = some (.bool (xs[j]'(by omega))) ∧ w.frozen? ⟨g, j, none⟩ = false := by
  subst hn
  rcases Ow.form h with ⟨_, h0, _⟩ | ⟨g, c4, hA2, hlo, hlt, _⟩
  · omega
  · injection hA2 with hA2 _ hc2
    subst hA2 hc2
    exact ⟨g, rfl, hlo, hlt, OwB.cell h hj, OwB.free h j⟩

open Classical in
noncomputable def rchB (n : Nat) (can : Nat → Nat → Bool) (S : Nat) : Bool := decide (Rch n can 0 S)
open Classical in
noncomputable def tabB (n : Nat) (can : Nat → Nat → Bool) (i k S : Nat) : Bool := decide (Tab n can i k S)
noncomputable def tabL (n : Nat) (can : Nat → Nat → Bool) (i k : Nat) : List Bool := (List.range (2 ^ n)).map (tabB n can i k)
noncomputable def rchL (n : Nat) (can : Nat → Nat → Bool) : List Bool := (List.range (2 ^ n)).map (rchB n can)
section
variable {n : Nat} {can : Nat → Nat → Bool}
theorem rchB_iff {S : Nat} : rchB n can S = true ↔ Rch n can 0 S := by simp [rchB]
theorem rchB_not {S : Nat} : rchB n can S = false ↔ ¬ Rch n can 0 S := by rw [← rchB_iff]; simp
theorem tabL_len (i k : Nat) : (tabL n can i k).length = 2 ^ n := by simp [tabL]
theorem rchL_len : (rchL n can).length = 2 ^ n := by simp [rchL]
theorem rchL_at {S : Nat} (h : S < (rchL n can).length) : (rchL n can)[S] = rchB n can S := by simp [rchL]
theorem tabB_iff {i k S : Nat} : tabB n can i k S = true ↔ Tab n can i k S := by simp [tabB]
theorem tabL_get {i k S : Nat} (h : S < (tabL n can i k).length) : (tabL n can i k)[S] = tabB n can i k S := by simp [tabL]
theorem tabL_ext {i k i' k' : Nat} (h : ∀ S, Tab n can i k S ↔ Tab n can i' k' S) : tabL n can i k = tabL n can i' k' := by
  unfold tabL
  apply List.map_congr_left
  intro S _
  rw [Bool.eq_iff_iff, tabB_iff, tabB_iff]; exact h S
theorem tabL_zero : tabL n can 0 0 = (List.replicate (2 ^ n) false).set 0 true := by
  apply List.ext_getElem (by simp [tabL])
  intro i h1 h2
  rw [tabL_get, Bool.eq_iff_iff, tabB_iff, tab_zero, List.getElem_set, List.getElem_replicate]
  by_cases e : 0 = i
  · subst e; simp
  · simp [e]; omega
theorem tabL_at (hc : ∀ S k, can S k = true → S.testBit k = false) {i : Nat} (h : i < (tabL n can i 0).length) : (tabL n can i 0)[i] = rchB n can i := by
  rw [tabL_get, Bool.eq_iff_iff, tabB_iff, rchB_iff]; exact tab_at hc i
theorem tabL_next {i : Nat} (h : rchB n can i = true) : tabL n can (i + 1) 0 = tabL n can i n := tabL_ext fun S => tab_next (rchB_iff.1 h)
theorem tabL_skip {i : Nat} (h : rchB n can i = false) : tabL n can (i + 1) 0 = tabL n can i 0 := tabL_ext fun S => tab_skip (rchB_not.1 h)
theorem tabL_no {i k : Nat} (h : can i k = false) : tabL n can i (k + 1) = tabL n can i k := tabL_ext fun S => tab_no h
theorem tabL_yes {i k : Nat} (hr : rchB n can i = true) (h : can i k = true) : tabL n can i (k + 1) = (tabL n can i k).set (i ||| 2 ^ k) true := by
  apply List.ext_getElem (by simp [tabL])
  intro S h1 h2
  rw [List.getElem_set, tabL_get, tabL_get]
  by_cases e : i ||| 2 ^ k = S
  · rw [if_pos e, tabB_iff, tab_yes (rchB_iff.1 hr) h]; exact .inl e.symm
  · rw [if_neg e, Bool.eq_iff_iff, tabB_iff, tabB_iff, tab_yes (rchB_iff.1 hr) h]
    constructor
    · rintro (h | h)
      · exact absurd h.symm e
      · exact h
    · exact .inr
theorem tabL_end : tabL n can (2 ^ n) 0 = rchL n can := by
  apply List.ext_getElem (by simp [tabL, rchL])
  intro S h1 h2
  rw [tabL_get, rchL_at, Bool.eq_iff_iff, tabB_iff, rchB_iff]; exact tab_end (by simpa [tabL] using h1)
end

set_option maxHeartbeats 2000000 in
theorem reachedSets_any (v u : Value) (rooms : List Int) (ts : List Guest) (w : World) (hv : SlI w v rooms) (hu : SlGuest w u ts) (hok : roomsOk rooms ts = true) :
    Calls Try.prog 50 #[v, u] w fun e w' => ∃ A c, e = .returned (.slice A (2 ^ ts.length) c) ∧ OwB w' w.heap.size (.slice A (2 ^ ts.length) c) (rchL ts.length (canS rooms ts)) ∧ Below w.heap.size w w' := by
  have HV := Lib.hid hv; have HU := Lib.hid hu; have HOK := Lib.hid hok
  obtain ⟨B, d, rfl, hlb, _⟩ := hu.op
  obtain ⟨-, -, h4, -, -⟩ := roomsOk_at hok
  have hp8 := pow_le8 h4
  have hp0 := Nat.two_pow_pos ts.length
  have HSH := Lib.hid (shlN8 ts.length (by omega))
  have hcb : Hid (∀ S k, canS rooms ts S k = true → S.testBit k = false) := Lib.hid fun S k h => canS_bit h
  clear hv hu hok
  obtain ⟨N, HN⟩ : ∃ N : Nat, Hid (2 ^ ts.length = N) := ⟨_, Lib.hid rfl⟩
  rw [HN.out] at hp8 hp0 HSH ⊢
  have HLEN : Hid (∀ i k, (tabL ts.length (canS rooms ts) i k).length = N) := Lib.hid fun i k => by rw [tabL_len, HN.out]
  go_enter Try.func50, Try.ntmps50
  go_wp2_with (at_make; refine wpList_make1 _ rfl (.tmp 12) (.tmp 12) _ rfl w.heap.size 4 (.bool false) 1 Try.underlying60 infoB rfl .i64 .i64 N ?_ ?_ (by omega) (by omega) (Nat.le_refl _) ?_; exact congrArg (Value.int .i64) HSH.out; exact congrArg (Value.int .i64) HSH.out; intro w1 hown hb hsz; have hcb0 := hown.cell (k := 0) (by simp; omega); have hf0 := hown.free 0; have hn0 := hown.set 0 (.bool true); rw [show (List.replicate N (Value.bool false)).set 0 (Value.bool true) = (tabL ts.length (canS rooms ts) 0 0).map Value.bool from by rw [tabL_zero, HN.out, List.map_set, List.map_replicate]] at hn0; rw [List.getElem_replicate] at hcb0; have HO0 := Lib.hid hn0; have HB0 := Lib.hid (hb.setCell (p := ⟨w.heap.size, 0, none⟩) (Nat.le_refl _) (.bool true)); clear hown hn0 hb)
  go_loopw [6, 7, 8, 18, 32] (fun _ _ _ i _ wr => ∃ m : Nat, m ≤ N ∧ i = .int .i64 m ∧ Ow wr w.heap.size 4 1 (.slice (some ⟨w.heap.size, 0, none⟩) N N) N ((tabL ts.length (canS rooms ts) m 0).map Value.bool) ∧ Below w.heap.size w wr) (fun _ _ _ i _ _ => N - (intOf i).toNat)
  case atStart => exact ⟨0, Nat.zero_le _, rfl, HO0.out, HB0.out⟩
  case round =>
    obtain ⟨m, hm, rfl, hown, hb⟩ := hrel
    by_cases hlt : m < N
    · have hmi : (m : Int) < (N : Int) := by omega
      have hml := HLEN.out m 0
      have hcm := hown.cell (k := m) (by rw [List.length_map, hml]; exact hlt)
      rw [List.getElem_map, tabL_at hcb.out] at hcm
      have HOW := Lib.hid hown; have HB := Lib.hid hb
      clear hown hb hml
      cases hrb : rchB ts.length (canS rooms ts) m with
      | false =>
        rw [hrb] at hcm
        have HE := Lib.hid (tabL_skip (n := ts.length) (can := canS rooms ts) hrb)
        clear hrb
        go_wp2
        go_roundw
        case rel => exact ⟨m + 1, by omega, by go_num, by rw [HE.out]; exact HOW.out, HB.out⟩
        case measure => simp [intOf]; omega
      | true =>
        rw [hrb] at hcm
        have HE := Lib.hid (tabL_next (n := ts.length) (can := canS rooms ts) hrb)
        have HRB := Lib.hid hrb
        have HGOK := Lib.hid (gn_ok HOK.out (rchB_iff.1 hrb))
        clear hrb
        go_wp2_with fail
        refine (gone_any _ ts m _ (HU.out.ex HB.out) h4 (by omega)).mono ?_
        rintro e w2 ⟨A2, c2, rfl, hown2, hb2⟩
        have HB2 := Lib.hid (below_next0 HB.out hb2)
        have HOW2 := Lib.hid (HOW.out.ex hb2)
        have HNOW := Lib.hid (show OwGuest w2 wr.heap.size (.slice A2 ts.length c2) (gn ts m) from hown2)
        clear hown2 hb2
        go_wp2
        go_loopw [8, 32] (fun _ i wq => ∃ k : Nat, k ≤ ts.length ∧ i = .int .i64 k ∧ Ow wq w.heap.size 4 1 (.slice (some ⟨w.heap.size, 0, none⟩) N N) N ((tabL ts.length (canS rooms ts) m k).map Value.bool) ∧ Hid (OwGuest wq wr.heap.size (.slice A2 ts.length c2) (gn ts m)) ∧ Below w.heap.size w wq) (fun _ i _ => ts.length - (intOf i).toNat)
        case atStart => exact ⟨0, Nat.zero_le _, rfl, HOW2.out, HNOW, HB2.out⟩
        case round =>
          obtain ⟨k, hk, rfl, hown3, hnow, hb3⟩ := hrel
          by_cases hlk : k < ts.length
          · have hki : (k : Int) < (ts.length : Int) := by omega
            have hkg : k < (gn ts m).length := by rw [gn_len]; exact hlk
            have HC := Lib.hid (canGo_any _ _ rooms (gn ts m) k _ (HV.out.ex hb3) hnow.out.sl HGOK.out hkg)
            rw [← canS_at hkg] at HC
            have HY := Lib.hid (fun h => tabL_yes (n := ts.length) (can := canS rooms ts) (k := k) HRB.out h)
            have HNO := Lib.hid (fun h => tabL_no (n := ts.length) (can := canS rooms ts) (i := m) (k := k) h)
            have HOW3 := Lib.hid hown3; have HB3 := Lib.hid hb3
            have hor : m ||| 2 ^ k < N := by rw [← HN.out] at hlt ⊢; exact or_lt hlt hlk
            have HOR := Lib.hid (bitsOr m (by omega) k (by omega))
            have HSK := Lib.hid (shlI8 k (by omega))
            generalize canS rooms ts m k = p at HC HY HNO
            clear hown3 hb3
            go_wp2_with fail
            refine HC.out.mono ?_
            rintro e w4 ⟨rfl, hb4⟩
            have HB4 := Lib.hid (below_next0 HB3.out hb4)
            have HN4 := Lib.hid (hnow.out.ex hb4)
            have how4 := HOW3.out.ex hb4
            clear hb4
            cases p with
            | false =>
              have HE2 := Lib.hid (HNO.out rfl)
              have HO4 := Lib.hid how4
              clear how4
              go_wp2
              go_roundw
              case rel => exact ⟨k + 1, by omega, by go_num, by rw [HE2.out]; exact HO4.out, HN4, HB4.out⟩
              case measure => simp [intOf]; omega
            | true =>
              have HE2 := Lib.hid (HY.out rfl)
              have hcc := how4.cell (k := m ||| 2 ^ k) (by rw [List.length_map, HLEN.out]; exact hor)
              have hff := how4.free (m ||| 2 ^ k)
              have hset := how4.set (m ||| 2 ^ k) (.bool true)
              rw [← List.map_set, ← HE2.out] at hset
              have HO4 := Lib.hid hset
              have HN5 := Lib.hid (OwGuest.keptS HN4.out (how4.grow (k := m ||| 2 ^ k) (.bool true)) (Ow.sep_type HN4.out how4 (by decide)))
              have HB5 := Lib.hid (HB4.out.setCell (p := ⟨w.heap.size, m ||| 2 ^ k, none⟩) (Nat.le_refl _) (.bool true))
              generalize ((tabL ts.length (canS rooms ts) m k).map Value.bool)[m ||| 2 ^ k]'(by rw [List.length_map, HLEN.out]; exact hor) = z at hcc
              have hor2 : bits .or .i64 (m : Int) (wrap64 (2 ^ k)) = ((m ||| 2 ^ k : Nat) : Int) := by rw [HSK.out]; exact HOR.out
              clear how4 hset HOR HE2 HY
              generalize m ||| 2 ^ k = T at hor2 hor hcc hff HN5 HO4 HB5
              have hori : (T : Int) < (N : Int) := by omega
              go_wp2
              go_roundw
              case rel => exact ⟨k + 1, by omega, by go_num, HO4.out, HN5, HB5.out⟩
              case measure => simp [intOf]; omega
          · have hkn : k = ts.length := by omega
            subst hkn
            go_wp2
            go_roundw
            case rel => exact ⟨m + 1, by omega, by go_num, by rw [HE.out]; exact hown3, hb3⟩
            case measure => simp [intOf]; omega
    · have hmn : m = N := by omega
      have HO2 := Lib.hid hown; clear hown
      have HEND : Hid (tabL ts.length (canS rooms ts) m 0 = rchL ts.length (canS rooms ts)) := Lib.hid (by rw [hmn, ← HN.out]; exact tabL_end)
      go_wp2
      go_ret
      refine ⟨_, _, rfl, ?_, hb⟩
      unfold OwB
      rw [rchL_len, HN.out, ← HEND.out]
      exact HO2.out
end Go.Proofs.Ytedoibgclplnaaa
