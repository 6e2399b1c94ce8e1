/-
The fewest that must be out: l10Fewest and FewestOut of the reference. Condition: the slices read as lists.
-/
import Derived.Test.YtedoibgclplnaaaRoomQ
import Derived.Lib.SliceRun
namespace Go.Proofs.Ytedoibgclplnaaa
open Go.RowKit
set_option linter.unusedVariables false

theorem inc_bd {n : Nat} : ∀ {a : Nat} {l : List Int}, Inc n a l → ∀ x ∈ l, 0 ≤ x ∧ x < (n : Int)
  | _, _, .nil, x, hx => by cases hx
  | _, _, .cons h1 h2 h3, x, hx => by
    rcases List.mem_cons.1 hx with rfl | hx
    · omega
    · exact inc_bd h3 x hx
theorem fe_fos (rooms : List Int) (ts : List Guest) (X : List Int) : fe rooms ts X = (ordV (fosS rooms (wo ts X) 0)).2 := by
  unfold fe fosS
  rw [wo_len]
  cases fos ts.length (canS rooms (wo ts X)) (dnS (wo ts X)) 0 <;> rfl
/-- 'make([]bool, 256)' -/
theorem make256 : ∃ M : Array Value, M.toList = List.replicate 256 (Value.bool false) ∧ ∀ W : World, (Instr.makeSlice 60 (.int .i64 256) (.int .i64 256)).run Try.prog W = .ok (.slice (some ⟨W.heap.size, 0, none⟩) 256 256) (W.alloc (.cells M 4)) := by
  obtain ⟨i0, hi, hz0, hz1, hz2⟩ := info_parts infoB
  refine ⟨madeCells (Value.bool false).cells ((256 : Int).toNat * i0.size), ?_, fun W => ?_⟩
  · rw [hz1]
    exact toList_madeCells_one (Value.bool false) 256
  · have h := run_makeSlice (P := Try.prog) W 60 4 i0 (.bool false) Try.underlying60 hi hz0 .i64 .i64 256 256 (by omega) (by omega) (by rw [hz1]; decide) (by rw [hz2]; decide) (by decide)
    simpa using h
theorem own256 {M : Array Value} (hM : M.toList = List.replicate 256 (Value.bool false)) (W : World) (lo : Nat) (hlo : lo ≤ W.heap.size) : Ow (W.alloc (.cells M 4)) lo 4 1 (.slice (some ⟨W.heap.size, 0, none⟩) 256 256) 256 ((List.replicate 256 false).map Value.bool) := by
  have hs : M.size = 256 * 1 := by rw [← Array.length_toList, hM, List.length_replicate]
  have h := World.ownsRow_lit (e := 4) W M 256 hlo (by unfold maxLen; omega) hs
  rw [hM] at h
  rw [List.map_replicate]
  exact ⟨h, by omega⟩

def FewPost (rooms : List Int) (ts : List Guest) (w0 : World) (O : List Int) (a m : Nat) (w : World) (e : Ending) (w' : World) : Prop :=
  (∃ (X : List Int) (A : Option Addr) (n c : Nat), e = .returned (.tuple #[.slice A n c, .bool true]) ∧ X.length = n ∧ First ts.length (fe rooms ts) O a m X ∧ OwI w' w0.heap.size (.slice A n c) X ∧ Below w.heap.size w w') ∨
  (∃ (A : Option Addr) (n c : Nat), e = .returned (.tuple #[.slice A n c, .bool false]) ∧ None ts.length (fe rooms ts) O a m ∧ Below w.heap.size w w')

set_option maxRecDepth 100000 in
set_option maxHeartbeats 2000000 in
theorem l10Fewest0_any (v : Value) (rooms : List Int) (ts : List Guest) (B : Option Addr) (d : Nat) (w0 : World) (hv : SlI w0 v rooms) (hu : SlGuest w0 (.slice B ts.length d) ts) (hok : roomsOk rooms ts = true)
    (a : Int) (O : List Int) (Ao : Option Addr) (no co : Nat) (w : World) (hb0 : Below w0.heap.size w0 w) (hO : OwI w w0.heap.size (.slice Ao no co) O) (hn : O.length = no) (hbd : ∀ x ∈ O, 0 ≤ x ∧ x < (ts.length : Int)) (a' : Nat) :
    Calls Try.prog 75 #[v, .slice B ts.length d, .slice Ao no co, .int .i64 a, .int .i64 0] w (FewPost rooms ts w0 O a' 0 w) := by
  obtain ⟨-, -, h4, -, -⟩ := roomsOk_at hok
  have HV := Lib.hid hv; have HU := Lib.hid hu; have HB0 := Lib.hid hb0; have HO := Lib.hid hO; have HN := Lib.hid hn
  have HW := Lib.hid (fun W (hW : Below w.heap.size w W) => l10Without_any _ _ ts O W (HU.out.ex (HB0.out.trans (hW.mono HB0.out.size))) (HO.out.sl.ex hW) h4 hbd)
  obtain ⟨M, hM, hmk⟩ := make256
  have HM := Lib.hid hM
  have HOKW := Lib.hid (wo_ok hok O)
  have HWL := Lib.hid (wo_len O ts)
  have HG0 := Lib.hid (gn_zero (wo ts O))
  have HBO : Hid (BOk rooms (wo ts O) (List.replicate 256 false)) := Lib.hid ⟨List.length_replicate, fun S h hb => by rw [List.getElem_replicate] at hb; cases hb⟩
  -- the call of l10Order in whatever world, with the row of marks in block g, the guests in another block
  have HC : Hid (∀ (g : Nat) (A : Option Addr) (c : Nat) (W : World), w0.heap.size ≤ g → SlGuest W (.slice A ts.length c) (wo ts O) → Off (fun k => k = g) (.slice A ts.length c) → Below w.heap.size w W → w.heap.size ≤ g →
      Ow W w0.heap.size 4 1 (.slice (some ⟨g, 0, none⟩) 256 256) 256 ((List.replicate 256 false).map Value.bool) →
      Calls Try.prog 73 #[v, .slice A ts.length c, .int .i64 0, .slice (some ⟨g, 0, none⟩) 256 256] W fun e W' => ∃ A' n' c', e = .returned (.tuple #[.slice A' n' c', .bool (fe rooms ts O)]) ∧ Below w.heap.size w W') :=
    Lib.hid fun g A c W hg hu hoff hW hg2 how => by
      have h := l10Order_any v rooms (wo ts O) w0 HV.out HOKW.out g 256 hg 256 0 .zero (by omega) A c (List.replicate 256 false) W
      rw [HWL.out, HG0.out] at h
      refine (h hu (fun _ => hoff) (HB0.out.trans (hW.mono HB0.out.size)) how HBO.out).mono ?_
      rintro e W' ⟨A', n', c', bs', rfl, -, -, -, -, hgr⟩
      exact ⟨A', n', c', by rw [fe_fos], hW.trans (hgr.below (fun k _ hk => by rw [hk]; exact hg2) hW.size)⟩
  have hlo0 := HB0.out.size
  have HF1 : Hid (fe rooms ts O = true → First ts.length (fe rooms ts) O a' 0 O) := Lib.hid first_zero
  have HF2 : Hid (fe rooms ts O = false → None ts.length (fe rooms ts) O a' 0) := Lib.hid none_zero
  have HBA := Lib.hid (below_alloc w (.cells M 4))
  have HOW0 := Lib.hid (own256 hM w w0.heap.size hlo0)
  have HOWN := Lib.hid (fun W => own256 hM W w0.heap.size)
  generalize fe rooms ts O = q at HC HF1 HF2
  have hla : ts.length ≤ 17592186044416 := by omega
  have HWA : Hid (∀ W, Below w.heap.size w W → Calls Try.prog 89 #[.slice B ts.length d, .slice Ao no co] W fun e w1 => ∃ A1 c1, e = .returned (.slice A1 ts.length c1) ∧
      Hid (Calls Try.prog 73 #[v, .slice A1 ts.length c1, .int .i64 0, .slice (some ⟨w1.heap.size, 0, none⟩) 256 256] (w1.alloc (.cells M 4)) fun e W' => ∃ A' n' c', e = .returned (.tuple #[.slice A' n' c', .bool q]) ∧ Below w.heap.size w W')) :=
    Lib.hid fun W hW => (HW.out W hW).mono (by
      rintro e w1 ⟨A1, c1, rfl, how, hbw⟩
      refine ⟨A1, c1, rfl, Lib.hid ?_⟩
      have hb1 := below_next0 hW hbw
      exact HC.out w1.heap.size A1 c1 _ (Nat.le_trans hlo0 hb1.size) (how.sl.ex (below_alloc w1 _)) (fun g hg hr => by have := (how.lt g hg).2; omega) (below_next0 hb1 (below_alloc w1 _)) hb1.size (HOWN.out w1 (Nat.le_trans hlo0 hb1.size)))
  have HWB : Hid (∀ W, Below (w.alloc (.cells M 4)).heap.size (w.alloc (.cells M 4)) W → Calls Try.prog 89 #[.slice B ts.length d, .slice Ao no co] W fun e w1 => ∃ A1 c1, e = .returned (.slice A1 ts.length c1) ∧
      Hid (Calls Try.prog 73 #[v, .slice A1 ts.length c1, .int .i64 0, .slice (some ⟨w.heap.size, 0, none⟩) 256 256] w1 fun e W' => ∃ A' n' c', e = .returned (.tuple #[.slice A' n' c', .bool q]) ∧ Below w.heap.size w W')) :=
    Lib.hid fun W hW => (HW.out W (below_next0 HBA.out hW)).mono (by
      rintro e w1 ⟨A1, c1, rfl, how, hbw⟩
      refine ⟨A1, c1, rfl, Lib.hid ?_⟩
      have hsz := hW.size
      exact HC.out w.heap.size A1 c1 _ hlo0 how.sl (Off.new how (fun k hk => by rw [hk]; simp at hsz; omega)) (below_next0 HBA.out (below_next0 hW hbw)) (Nat.le_refl _) ((HOW0.out.ex hW).ex hbw))
  clear hv hu hok hb0 hO hn hbd hM HC HW HOW0 HOWN HBA
  go_enter Try.func75, Try.ntmps75
  go_wp2
  go_region_with (first
    | (go_at_call 89; refine (HWA.out _ (by first | exact (Below.refl _ _).drew | exact Below.refl _ _)).mono ?_; rintro e w1 ⟨A1, c1, rfl, HCX⟩)
    | (go_at_call 89; refine (HWB.out _ (by first | exact (Below.refl _ _).drew | exact Below.refl _ _)).mono ?_; rintro e w1 ⟨A1, c1, rfl, HCX⟩)
    | (go_at_call 73; refine HCX.out.mono ?_; rintro e w5 ⟨A5, n5, c5, rfl, hb5⟩))
  all_goals
    have HB5 := Lib.hid hb5
    clear hb5
    go_wp2
    go_ret2
    cases q with
    | true => exact .inl ⟨O, Ao, no, co, rfl, HN.out, HF1.out rfl, HO.out.ex HB5.out, HB5.out⟩
    | false => exact .inr ⟨Ao, no, co, rfl, HF2.out rfl, HB5.out⟩

set_option maxRecDepth 100000 in
set_option maxHeartbeats 2000000 in
theorem l10Fewest_any (v : Value) (rooms : List Int) (ts : List Guest) (B : Option Addr) (d : Nat) (w0 : World) (hv : SlI w0 v rooms) (hu : SlGuest w0 (.slice B ts.length d) ts) (hok : roomsOk rooms ts = true) :
    ∀ (m : Nat), m ≤ 8 → ∀ (a : Nat) (O : List Int) (Ao : Option Addr) (no co : Nat) (w : World), a ≤ ts.length → Below w0.heap.size w0 w → OwI w w0.heap.size (.slice Ao no co) O → O.length = no → no ≤ 16 - m → (∀ x ∈ O, 0 ≤ x ∧ x < (ts.length : Int)) →
    Calls Try.prog 75 #[v, .slice B ts.length d, .slice Ao no co, .int .i64 (a : Int), .int .i64 (m : Int)] w (FewPost rooms ts w0 O a m w)
  | 0, _, a, O, Ao, no, co, w, ha, hb0, hO, hn, _, hbd => l10Fewest0_any v rooms ts B d w0 hv hu hok a O Ao no co w hb0 hO hn hbd a
  | m + 1, hm8, a, O, Ao, no, co, w, ha, hb0, hO, hn, hno, hbd => by
    obtain ⟨-, -, h4, -, -⟩ := roomsOk_at hok
    have IH := Lib.hid (l10Fewest_any v rooms ts B d w0 hv hu hok m (by omega))
    have HB0 := Lib.hid hb0; have HO := Lib.hid hO; have HN := Lib.hid hn; have HBD := Lib.hid hbd
    have hla : ts.length ≤ 17592186044416 := by omega
    have hz : (((m + 1 : Nat) : Int) == 0) = false := by simp; omega
    have HMI : Hid (((m + 1 : Nat) : Int) = (m : Int) + 1) := Lib.hid (by omega)
    rw [HMI.out] at hz ⊢
    have hlo0 := HB0.out.size
    clear hv hu hok hb0 hO hn hbd
    go_enter Try.func75, Try.ntmps75
    go_wp2
    go_loopw [14, 15, 16] (fun i _ _ wr => ∃ k : Nat, a ≤ k ∧ k ≤ ts.length ∧ i = .int .i64 (k : Int) ∧ Hid ((∀ X, First ts.length (fe rooms ts) O k (m + 1) X → First ts.length (fe rooms ts) O a (m + 1) X) ∧ (None ts.length (fe rooms ts) O k (m + 1) → None ts.length (fe rooms ts) O a (m + 1))) ∧ Below w.heap.size w wr) (fun i _ _ _ => ts.length - (intOf i).toNat)
    case atStart => exact ⟨a, Nat.le_refl _, ha, rfl, Lib.hid ⟨fun _ h => h, fun h => h⟩, Below.refl _ _⟩
    case round =>
      obtain ⟨k, hak, hk, rfl, hF, hb⟩ := hrel
      by_cases hlt : k + (m + 1) ≤ ts.length
      · have hki : (k : Int) + ((m : Int) + 1) ≤ (ts.length : Int) := by omega
        have hkl : k < ts.length := by omega
        have HB := Lib.hid hb
        have HOW := Lib.hid (l00Own_any _ O wr (HO.out.sl.ex hb) (by rw [HN.out]; omega))
        rw [HN.out] at HOW
        clear hb
        go_wp2_with fail
        refine HOW.out.mono ?_
        rintro e w1 ⟨A1, c1, rfl, hown, hb1⟩
        have HO1 := Lib.hid (hown.mono HB.out.size); have HB1 := Lib.hid (below_next0 HB.out hb1)
        clear hown hb1
        go_wp2_with (first | (at_builtin; refine wpList_appI w1 rfl (.tmp 43) (.tmp 45) rfl w.heap.size w.heap.size w A1 no c1 _ _ _ _ rfl HO1.out HN.out rfl HB1.out (Nat.le_refl _) HB1.out.size (by omega) ?_; intro A3 c3 w3 hown3 hg3 hsz3 hb3) | fail)
        have HO3 := Lib.hid (hown3.mono hlo0); have HB3 := Lib.hid hb3
        clear hown3 hg3 hsz3 hb3
        have HC := Lib.hid (IH.out (k + 1) (O ++ [(k : Int)]) A3 (no + 1) c3 w3 (by omega) (HB0.out.trans (HB3.out.mono hlo0)) HO3.out (by rw [List.length_append, HN.out]; rfl) (by omega) (by
          intro x hx
          rcases List.mem_append.1 hx with hx | hx
          · exact HBD.out x hx
          · simp at hx; subst hx; omega))
        have HK1 : Hid (((k + 1 : Nat) : Int) = (k : Int) + 1) := Lib.hid (by omega)
        rw [HK1.out] at HC
        go_wp2_with fail
        refine HC.out.mono ?_
        rintro e w4 (⟨X, A4, n4, c4, rfl, hn4, hfirst, hown4, hb4⟩ | ⟨A4, n4, c4, rfl, hnone, hb4⟩)
        · have HB4 := Lib.hid (below_next0 HB3.out hb4)
          have HFX := Lib.hid (hF.out.1 X (first_step hkl hfirst))
          have HO4 := Lib.hid hown4; have HN4 := Lib.hid hn4
          clear hn4 hfirst hown4 hb4
          go_wp2
          go_ret2
          exact .inl ⟨X, A4, n4, c4, rfl, HN4.out, HFX.out, HO4.out, HB4.out⟩
        · have HB4 := Lib.hid (below_next0 HB3.out hb4)
          have HFN : Hid ((∀ X, First ts.length (fe rooms ts) O (k + 1) (m + 1) X → First ts.length (fe rooms ts) O a (m + 1) X) ∧ (None ts.length (fe rooms ts) O (k + 1) (m + 1) → None ts.length (fe rooms ts) O a (m + 1))) :=
            Lib.hid ⟨fun X h => hF.out.1 X (first_skip hnone h), fun h => hF.out.2 (none_step hnone h)⟩
          clear hnone hb4
          go_wp2
          go_roundw
          case rel => exact ⟨k + 1, by omega, by omega, by go_num, HFN, HB4.out⟩
          case measure => simp [intOf]; omega
      · have hki : ¬ ((k : Int) + ((m : Int) + 1) ≤ (ts.length : Int)) := by omega
        have HFN := Lib.hid (hF.out.2 (none_over (by omega)))
        go_wp2
        go_ret2
        exact .inr ⟨none, 0, 0, rfl, HFN.out, hb⟩
end Go.Proofs.Ytedoibgclplnaaa
