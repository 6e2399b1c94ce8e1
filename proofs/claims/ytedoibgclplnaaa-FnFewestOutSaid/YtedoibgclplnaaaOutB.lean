/-
Contracts of FnFewestOut: rising numbers, a number among others, a number out of bytes, whether all other guests can go. Conditions: the slices read as lists; valid rooms.
-/
import Derived.Test.YtedoibgclplnaaaDrR3
import Derived.Test.YtedoibgclplnaaaRoomR
import Derived.BigQuiet
namespace Go.Proofs.Ytedoibgclplnaaa
open Go.RowKit
set_option linter.unusedVariables false
set_option linter.unusedSimpArgs false

theorem ordR_fe {rooms : List Int} {ts : List Guest} (hok : roomsOk rooms ts = true) (X : List Int) : (ordR rooms (wo ts X)).2 = if fe rooms ts X = true then 0 else 10 := by
  have h := fe_fos rooms ts X
  rw [ordR_ok (wo_ok hok X)]
  cases hf : fosS rooms (wo ts X) 0 with
  | some l => rw [hf] at h; rw [h]; rfl
  | none => rw [hf] at h; rw [h]; rfl
theorem a2Rises_any (v : Value) (xs : List Int) (n : Int) (w : World) (hv : SlI w v xs) (hr : ∀ (k : Nat) (hk : k < xs.length), 0 ≤ xs[k] ∧ xs[k] < n ∧ ∀ (h0 : 0 < k), xs[k - 1] < xs[k]) :
    Calls Try.prog 16 #[v, .int .i64 n] w fun e w' => e = .returned (.bool true) ∧ Below w.heap.size w w' := by
  obtain ⟨A, c, rfl, hla, ha⟩ := hv.op
  have HA := Lib.hid ha; have HRS := Lib.hid hr
  clear hv ha hr
  go_enter Try.func16, Try.ntmps16
  go_wp2
  go_loopw [5] (fun i wr => ∃ k : Nat, k ≤ xs.length ∧ i = .int .i64 k ∧ Hid (Below w.heap.size w wr)) (fun i _ => xs.length - (intOf i).toNat)
  case atStart => exact ⟨0, Nat.zero_le _, rfl, Lib.hid (Below.refl _ _)⟩
  case round =>
    obtain ⟨k, hk, rfl, HR⟩ := hrel
    by_cases hlt : k < xs.length
    · obtain ⟨b1, o1, rfl, hbs, hcc⟩ := HA.out k hlt
      have hx := (HR.out.cell (p := ⟨b1, o1 + k, none⟩) hbs).trans (hcc k hlt)
      obtain ⟨h0, h1, h2⟩ := HRS.out k hlt
      have hlti : (k : Int) < (xs.length : Int) := by omega
      by_cases hk0 : k = 0
      · subst hk0
        have hkd : decide ((0 : Nat) < 0) = false := rfl
        generalize xs[0] = x at hx h0 h1
        have hx : wr.cell? ⟨b1, o1, none⟩ = some (.int .i64 x) := hx
        have hd0 : decide (x < 0) = false := decide_eq_false (by omega)
        have hd1 : decide (n ≤ x) = false := decide_eq_false (by omega)
        clear hcc h2
        go_wp2
        go_quiet (fail)
        go_wp2
        go_roundw
        case rel => exact ⟨1, by omega, by first | rfl | go_num, Lib.hid (below_drewN HR.out _)⟩
        case measure => simp [intOf]; omega
      · have hy := (HR.out.cell (p := ⟨b1, o1 + (k - 1), none⟩) hbs).trans (hcc (k - 1) (by omega))
        have h3 := h2 (by omega)
        have hkp : decide (0 < k) = true := decide_eq_true (by omega)
        have e1 : ((k : Int) - 1).toNat = k - 1 := by omega
        have e2 : 0 ≤ (k : Int) - 1 := by omega
        have e3 : (k : Int) - 1 < (xs.length : Int) := by omega
        generalize xs[k] = x at hx h0 h1 h3
        generalize xs[k - 1] = y at hy h3
        have hd0 : decide (x < 0) = false := decide_eq_false (by omega)
        have hd1 : decide (n ≤ x) = false := decide_eq_false (by omega)
        have hd2 : decide (x ≤ y) = false := decide_eq_false (by omega)
        clear hcc h2
        go_wp2
        go_quiet (fail)
        go_wp2
        go_roundw
        case rel => exact ⟨k + 1, by omega, by go_num, Lib.hid (below_drewN HR.out _)⟩
        case measure => simp [intOf]; omega
    · have hkn : k = xs.length := by omega
      subst hkn
      go_wp2
      go_ret
      exact ⟨rfl, HR.out⟩
theorem a2HasQ_any (v : Value) (xs : List Int) (n : Int) (w : World) (hv : SlI w v xs) :
    Calls Try.prog 21 #[v, .int .i64 n] w fun e w' => e = .returned (.bool (xs.contains n)) ∧ w = w' := by
  obtain ⟨A, c, rfl, hla, ha⟩ := hv.op
  have HA := Lib.hid ha
  have HE : Hid (hasK xs n xs.length = xs.contains n) := Lib.hid (by
    unfold hasK; rw [List.take_length, Bool.eq_iff_iff, List.any_eq_true, List.contains_iff_mem]
    constructor
    · rintro ⟨x, hx, he⟩; rw [← (by simpa using he : x = n)]; exact hx
    · intro h; exact ⟨n, h, by simp⟩)
  have HSU := Lib.hid (fun k (hk : k < xs.length) => hasK_succ (n := n) hk)
  have HM := Lib.hid (fun k (hk : k < xs.length) (h : xs[k] = n) => (show xs.contains n = true by rw [List.contains_iff_mem, ← h]; exact List.getElem_mem hk))
  clear hv ha
  go_enter Try.func21, Try.ntmps21
  go_wp2
  go_loopw [5] (fun i wr => ∃ k : Nat, k ≤ xs.length ∧ i = .int .i64 k ∧ Hid (hasK xs n k = false) ∧ w = wr) (fun i _ => xs.length - (intOf i).toNat)
  case atStart => exact ⟨0, Nat.zero_le _, rfl, Lib.hid rfl, rfl⟩
  case round =>
    obtain ⟨k, hk, rfl, HF, rfl⟩ := hrel
    by_cases hlt : k < xs.length
    · obtain ⟨b1, o1, rfl, hbs, hcc⟩ := HA.out k hlt
      have hx := hcc k hlt
      have hlti : (k : Int) < (xs.length : Int) := by omega
      have HS1 := Lib.hid (HSU.out k hlt); have HM1 := Lib.hid (HM.out k hlt)
      generalize xs[k] = x at hx HS1 HM1
      clear hcc
      by_cases he : x = n
      · have hxb : (x == n) = true := by simpa using he
        have HC := Lib.hid (HM1.out he)
        clear he
        go_wp2
        go_ret
        exact ⟨by rw [HC.out]; rfl, rfl⟩
      · have hxb : (x == n) = false := by simpa using he
        have HF1 : Hid (hasK xs n (k + 1) = false) := Lib.hid (by rw [HS1.out, HF.out, hxb]; rfl)
        clear he
        go_wp2
        go_roundw
        case rel => exact ⟨k + 1, by omega, by go_num, HF1, by first | rfl | trivial⟩
        case measure => simp [intOf]; omega
    · have hkn : k = xs.length := by omega
      subst hkn
      go_wp2
      go_ret
      exact ⟨by rw [← HE.out, HF.out]; rfl, rfl⟩
theorem a2At_any (v : Value) (bs : List Int) (k : Nat) (n : Int) (w : World) (hv : SlB w v bs) (hk : k ≤ 1048576) (hn : 1 ≤ n) (hn2 : n ≤ 1048576) :
    Calls Try.prog 18 #[v, .int .i64 k, .int .i64 n] w fun e w' => ∃ x : Int, 0 ≤ x ∧ x < n ∧ e = .returned (.int .i64 x) ∧ w = w' := by
  obtain ⟨⟨A, c, rfl, hl, hc⟩, hby⟩ := hv
  by_cases hkl : k < bs.length
  · obtain ⟨b, o, rfl, hb, hcell⟩ := hc (by simp; omega)
    have hx := hcell k (by simpa using hkl)
    rw [List.getElem_map] at hx
    obtain ⟨hb0, hb1⟩ := hby _ (List.getElem_mem hkl)
    have hki : ¬ ((bs.length : Int) ≤ (k : Int)) := by omega
    have hki2 : (k : Int) < (bs.length : Int) := by omega
    generalize bs[k] = y at hx hb0 hb1
    have hn0 : ¬ n = 0 := by omega
    clear hcell hc hby
    go_enter Try.func18, Try.ntmps18
    go_wp2
    go_ret
    refine ⟨_, ?_, ?_, rfl, rfl⟩
    · exact Int.emod_nonneg _ hn0
    · exact Int.emod_lt_of_pos _ (by omega)
  · have hki : (bs.length : Int) ≤ (k : Int) := by omega
    clear hc hby
    go_enter Try.func18, Try.ntmps18
    go_wp2
    go_ret
    exact ⟨0, by omega, by omega, rfl, rfl⟩

set_option maxHeartbeats 1000000 in
theorem a2Freed_any (v u vo : Value) (rooms : List Int) (ts : List Guest) (X : List Int) (w : World) (hv : SlI w v rooms) (hu : SlGuest w u ts) (ho : SlI w vo X) (hok : roomsOk rooms ts = true) (hX : ∀ x ∈ X, 0 ≤ x ∧ x < (ts.length : Int)) :
    Calls Try.prog 17 #[v, u, vo] w fun e w' => e = .returned (.bool (fe rooms ts X)) ∧ Below w.heap.size w w' := by
  obtain ⟨⟨hr1, hr8⟩, _, hl, _, _⟩ := roomsOk_at hok
  have HRV := Lib.hid hv
  have HSO : Hid (∀ (W : World) (B : Option Addr) (d : Nat), SlI W v rooms → SlGuest W (.slice B ts.length d) (wo ts X) → Calls Try.prog 41 #[v, .slice B ts.length d] W fun e w' => ∃ A n c, e = .returned (.tuple #[.slice A n c, .int .i64 (if fe rooms ts X = true then 0 else 10)]) ∧ Below W.heap.size W w') := Lib.hid fun W B d a b =>
    (specOrder_any _ _ rooms (wo ts X) W ⟨a, by omega⟩ ⟨b, by rw [wo_len]; omega⟩).mono (by rintro e w' ⟨A, c, rfl, -, hb⟩; exact ⟨A, _, c, by rw [ordR_fe hok], hb⟩)
  have HV := Lib.hid (hu.ex (below_alloc w (.cells #[] 34)))
  have HEM := Lib.hid (ow_empty w w.heap.size 34 2 (Nat.le_refl _))
  have HO := Lib.hid ho
  obtain ⟨A, c, rfl, hla, _⟩ := hu.op
  obtain ⟨Ao, co, rfl, hlo, hao⟩ := ho.op
  have HAO := Lib.hid hao; have HX := Lib.hid hX
  clear hu ho hao hX
  obtain ⟨Ar, cr, rfl, hlr, _⟩ := HRV.out.op
  clear hv
  generalize fe rooms ts X = fx at HSO ⊢
  go_enter Try.func17, Try.ntmps17
  go_wp2_with (first | (at_builtin; refine wpList_cat (w.alloc (.cells #[] 34)) rfl (.tmp 11) (.tmp 12) _ rfl w.heap.size 34 (.agg #[.int .i64 0, .int .i64 0]) 2 16 Try.underlying25 infoGuest rfl (by omega) (.slice (some ⟨w.heap.size, 0, none⟩) 0 0) 0 [] rfl HEM.out (.slice A ts.length c) ts.length _ rfl HV.out ?_ (by omega) (by omega) (by simp) ?_; rotate_left; intro A3 c3 w3 _ hown3 hg3 hsz3) | fail)
  · simp only [Nat.zero_add, List.nil_append] at hown3 ⊢
    have hb := (below_alloc w (.cells #[] 34)).grown hg3 (by simp) (fun k hk => by simp [Value.ownBlock] at hk; omega)
    have HO3 := Lib.hid (show Ow w3 w.heap.size 34 2 (.slice A3 ts.length c3) ts.length ((wo ts (X.take 0)).flatMap Guest.vals) from by simpa [wo] using hown3)
    have HB := Lib.hid hb
    clear hown3 hg3 hsz3 hb
    go_wp2
    go_loopw [8] (fun i wr => ∃ k : Nat, k ≤ X.length ∧ i = .int .i64 k ∧ Ow wr w.heap.size 34 2 (.slice A3 ts.length c3) ts.length ((wo ts (X.take k)).flatMap Guest.vals) ∧ Below w.heap.size w wr) (fun i _ => X.length - (intOf i).toNat)
    case atStart => exact ⟨0, Nat.zero_le _, rfl, HO3.out, HB.out⟩
    case round =>
      obtain ⟨k, hk, rfl, hown, hb⟩ := hrel
      by_cases hlt : k < X.length
      · have hki : (k : Int) < (X.length : Int) := by omega
        obtain ⟨b, o, rfl, hbs, hc⟩ := HAO.out k hlt
        have hx := (hb.cell (p := ⟨b, o + k, none⟩) hbs).trans (hc k hlt)
        have HT : Hid (X.take (k + 1) = X.take k ++ [X[k]]) := Lib.hid (List.take_succ_eq_append_getElem hlt)
        have hxb := HX.out _ (List.getElem_mem hlt)
        have HW : Hid (wo ts (X.take (k + 1)) = (wo ts (X.take k)).set X[k].toNat outG) := Lib.hid (by rw [HT.out, wo_snoc])
        generalize X[k] = x at hx hxb HW
        obtain ⟨hx0, hxl⟩ := hxb
        obtain ⟨j, rfl⟩ := Int.eq_ofNat_of_zero_le hx0
        have hj : j < ts.length := by omega
        rcases Ow.form hown with ⟨_, h0, _⟩ | ⟨g, c4, hA2, hlo2, hltg, hcl⟩
        · omega
        · injection hA2 with hA2 _ hc2
          subst hA2 hc2
          have hwl := wo_len (X.take k) ts
          have hS := flat_set2 outG (wo ts (X.take k)) j (by omega)
          have hy0 := Ow.cell hown (k := j * 2) (by omega)
          have hy1 := Ow.cell hown (k := j * 2 + 1) (by omega)
          have hf0 := Ow.free hown (j * 2); have hf1 := Ow.free hown (j * 2 + 1)
          have hn := Ow.set (Ow.set hown (j * 2) (.int .i64 outG.here)) (j * 2 + 1) (.int .i64 outG.wants)
          rw [hS] at hn
          rw [Int.toNat_natCast] at HW
          rw [← HW.out] at hn
          have HN := Lib.hid hn
          have HB2 := Lib.hid ((hb.setCell (p := ⟨g, j * 2, none⟩) hlo2 (.int .i64 outG.here)).setCell (p := ⟨g, j * 2 + 1, none⟩) hlo2 (.int .i64 outG.wants))
          generalize ((wo ts (X.take k)).flatMap Guest.vals)[j * 2]'(by omega) = z0 at hy0
          generalize ((wo ts (X.take k)).flatMap Guest.vals)[j * 2 + 1]'(by omega) = z1 at hy1
          clear hown hb hS hn hc hwl hcl
          go_wp2
          go_roundw
          case rel => exact ⟨k + 1, by omega, by go_num, HN.out, HB2.out⟩
          case measure => simp [intOf]; omega
      · have hkn : k = X.length := by omega
        have HWE : Hid (X.take k = X) := Lib.hid (List.take_of_length_le (by omega))
        rw [HWE.out] at hown
        have HG9 : Hid (SlGuest wr (.slice A3 ts.length c3) (wo ts X)) := Lib.hid (by unfold SlGuest; rw [wo_len]; exact hown.sl)
        have HR9 := Lib.hid (HRV.out.ex hb)
        have HB9 := Lib.hid hb
        clear hown hb
        go_wp2_with fail
        refine (HSO.out _ _ _ HR9.out HG9.out).mono ?_
        rintro e w5 ⟨A5, n5, c5, rfl, hb5⟩
        have HB10 := Lib.hid (below_next0 HB9.out hb5)
        clear hb5 HG9 HR9
        cases fx with
        | true =>
          go_wp2
          go_ret
          exact ⟨rfl, HB10.out⟩
        | false =>
          go_wp2
          go_ret
          exact ⟨rfl, HB10.out⟩
  · intro u hu
    obtain ⟨g, _, hg⟩ := List.mem_flatMap.1 hu
    simp [Guest.vals] at hg
    rcases hg with rfl | rfl <;> rfl
end Go.Proofs.Ytedoibgclplnaaa
