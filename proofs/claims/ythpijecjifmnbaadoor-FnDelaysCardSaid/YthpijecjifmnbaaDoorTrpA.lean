/-
Trips as text, of the program and of the reference: the same text. Condition: the table of powers of ten reads as its initialiser lays it.
-/
import Derived.Test.YthpijecjifmnbaaDoorCommon
import Derived.Test.YthpijecjifmnbaaDoorOwn
import Derived.Test.YthpijecjifmnbaaDoorDecLay
import Derived.Lib.AppendIntMem
import Derived.Laws.BytesArg
import Derived.BigQuiet
namespace Go.Proofs.YthpijecjifmnbaaDoor
open Go.RowKit
set_option linter.unusedVariables false
set_option linter.unusedSimpArgs false

structure TripS where
  to : Int
  due : Int
  came : Int
def TripS.ok (t : TripS) : Bool := inB t.to 0 9 && inB t.due 0 10000 && inB t.came 0 10000
def TripS.late (t : TripS) : Int := max 0 (t.came - t.due)
theorem TripS.okd {x y z : Int} (h : TripS.ok ⟨x, y, z⟩ = true) : (0 ≤ x ∧ x ≤ 9) ∧ (0 ≤ y ∧ y ≤ 10000) ∧ (0 ≤ z ∧ z ≤ 10000) := by
  simp only [TripS.ok, Bool.and_eq_true, inB_iff] at h; exact ⟨h.1.1, h.1.2, h.2⟩
theorem toTripS_any (x0 x1 x2 : Int) (w : World) : Calls Tryd.prog 6 #[.agg #[.int .i64 x0, .int .i64 x1, .int .i64 x2]] w fun e w' => e = .returned (.agg #[.int .i64 x0, .int .i64 x1, .int .i64 x2]) ∧ Below w.heap.size w w' := by
  go_enter Tryd.func6, Tryd.ntmps6
  go_wp2
  exact bodyPost_ret (v := .agg #[.int .i64 x0, .int .i64 x1, .int .i64 x2]) (by simp [results, Tryd.results6, go_sem]) rfl ⟨rfl, (below_alloc2 _ _ _).alloc (by simp; omega) _⟩
theorem validTripS_any (x y z : Int) (w : World) : Calls Tryd.prog 31 #[.agg #[.int .i64 x, .int .i64 y, .int .i64 z]] w fun e w' => e = .returned (.bool (TripS.ok ⟨x, y, z⟩)) ∧ Below w.heap.size w w' := by
  cases hx : inB x 0 9
  all_goals cases hy : inB y 0 10000
  all_goals
    go_enter Tryd.func31, Tryd.ntmps31
    go_wp2_with (go_at_call 52; refine (within_any _ _ _ _).mono ?_; rintro e w' ⟨rfl, rfl⟩)
    go_ret
    refine ⟨ret_bool (by simp [TripS.ok, hx, hy]), below_alloc _ _⟩
theorem delayS_any (x y z : Int) (w : World) (h : TripS.ok ⟨x, y, z⟩ = true) : Calls Tryd.prog 33 #[.agg #[.int .i64 x, .int .i64 y, .int .i64 z]] w fun e w' => e = .returned (.int .i64 (TripS.late ⟨x, y, z⟩)) ∧ Below w.heap.size w w' := by
  obtain ⟨_, hy, hz⟩ := TripS.okd h
  clear h
  go_enter Tryd.func33, Tryd.ntmps33
  go_wp2
  all_goals
    go_ret
    refine ⟨ret_int ?_, below_alloc _ _⟩
    simp only [TripS.late]; omega
theorem l13OkS_any (x y z : Int) (b o : Nat) (w : World) (h0 : w.cell? ⟨b, o, none⟩ = some (.int .i64 x)) (h1 : w.cell? ⟨b, o + 1, none⟩ = some (.int .i64 y)) (h2 : w.cell? ⟨b, o + 2, none⟩ = some (.int .i64 z)) :
    Calls Tryd.prog 29 #[.pointer (some ⟨b, o, none⟩)] w fun e w' => e = .returned (.bool (TripS.ok ⟨x, y, z⟩)) ∧ w = w' := by
  cases hx : inB x 0 9
  all_goals cases hy : inB y 0 10000
  all_goals
    go_enter Tryd.func29, Tryd.ntmps29
    go_wp2_with (go_at_call 44; refine (l00In_any _ _ _ _).mono ?_; rintro e w' ⟨rfl, rfl⟩)
    go_ret
    exact ⟨ret_bool (by simp [TripS.ok, hx, hy]), rfl⟩

/-! numbers in decimal -/
def decT (n : Nat) : ByteArray := ⟨(Lib.decDigits n).toArray⟩
def decN (k : Nat) : List Int := if k = 0 then [] else (Lib.decDigits k).map (fun b => (b.toNat : Int))
theorem decN_step {k : Nat} (hk : 0 < k) : decN k = decN (k / 10) ++ [((48 + k % 10 : Nat) : Int)] := by
  have h10 : k % 10 < 10 := Nat.mod_lt _ (by omega)
  have hb : ((UInt8.ofNat (48 + k % 10)).toNat : Int) = ((48 + k % 10 : Nat) : Int) := by
    rw [UInt8.toNat_ofNat']
    rw [Nat.mod_eq_of_lt (by omega)]
  unfold decN
  rw [if_neg (by omega), Lib.decDigits]
  by_cases h : k < 10
  · rw [dif_pos h, if_pos (by omega)]
    rw [Nat.mod_eq_of_lt h] at hb ⊢
    simp only [List.map_cons, List.map_nil, List.nil_append, hb]
  · rw [dif_neg h, if_neg (by omega), List.map_append]
    simp only [List.map_cons, List.map_nil, hb]
theorem decN_str {n : Nat} (hn : 0 < n) : Go.strOfNums (decN n) = decT n := by
  unfold decN decT Go.strOfNums
  rw [if_neg (by omega)]
  simp only [List.map_map]
  congr 2
  apply List.ext_getElem (by simp)
  intro i h1 h2
  simp
theorem decT_zero : decT 0 = ⟨#[48]⟩ := by
  unfold decT
  rw [Lib.decDigits, dif_pos (by omega)]
  rfl
theorem infoU8d : (Tryd.prog.info? 5).map (fun i => (i.zero, i.size, i.bytes)) = some (some (.int .u8 0), 1, 1) := by kernel_rfl

set_option maxRecDepth 100000 in
set_option maxHeartbeats 1000000 in
theorem l01Dec_any (n : Nat) (hn : n ≤ 1000000) (w : World) : Calls Tryd.prog 30 #[.int .i64 (n : Int)] w fun e w' => e = .returned (.string (decT n)) ∧ Below w.heap.size w w' := by
  have HEM := Lib.hid (ow_empty w w.heap.size 5 1 (Nat.le_refl _))
  have HBE := Lib.hid (below_alloc w (.cells #[] 5))
  go_enter Tryd.func30, Tryd.ntmps30
  go_wp2
  go_loopw [3, 4] (fun v3 v4 wr => ∃ (k m c : Nat) (A : Option Addr) (xs : List Int), v4 = .int .i64 k ∧ m + k ≤ n ∧ v3 = .slice A m c ∧ Hid (xs.length = m) ∧ Hid (Ow wr w.heap.size 5 1 (.slice A m c) m (xs.map (Value.int .u8))) ∧ Hid (decN k ++ xs = decN n) ∧ Hid (Below w.heap.size w wr)) (fun _ v4 _ => (intOf v4).toNat)
  case atStart => exact ⟨n, 0, 0, _, [], rfl, by omega, rfl, Lib.hid rfl, HEM, Lib.hid (by simp), HBE⟩
  case round =>
    obtain ⟨k, m, c, A, xs, rfl, hmk, rfl, HL, HOW, HD, HB⟩ := hrel
    clear HEM HBE
    by_cases hk0 : k = 0
    · subst hk0
      have HXS : Hid (xs = decN n) := Lib.hid (by have h9 := HD.out; simpa [decN] using h9)
      clear HD
      by_cases hm0 : m = 0
      · subst hm0
        have hn0 : n = 0 := by
          rcases Nat.eq_zero_or_pos n with h | h
          · exact h
          · have h9 := HXS.out
            have h8 := HL.out
            rw [h9, decN_step h] at h8
            simp at h8
        subst hn0
        have HT := Lib.hid decT_zero
        go_wp2
        go_ret
        exact ⟨by rw [HT.out]; rfl, HB.out⟩
      · have hmb : ((m : Int) == 0) = false := beq_eq_false_iff_ne.2 (by omega)
        have hnp : 0 < n := by omega
        have hnn : ¬ ((n : Int) < 0) := by omega
        have HT := Lib.hid (decN_str hnp)
        rw [← HXS.out] at HT
        rcases Ow.form HOW.out with ⟨hA, h0, _⟩ | ⟨g, c4, hA, _, _, _⟩
        · exact absurd h0 hm0
        · injection hA with hA hn9 hc
          clear hn9
          subst hA hc
          have hcv1 := run_convert_bytes_arg (P := Tryd.prog) wr 28 5 Tryd.underlying28 Tryd.underlying5 g 0 m c xs HL.out (fun i hi => by
            have hi2 : i < xs.length := by rw [HL.out]; exact hi
            have h9 := Ow.cell HOW.out (k := i) (by simpa using hi2)
            rw [Nat.zero_add, h9, List.getElem_map]
            simp [List.getD_eq_getElem?_getD, hi2]) 9 Tryd.underlying9
          go_wp2
          go_ret
          exact ⟨by rw [← HT.out]; rfl, HB.out⟩
    · have hkb : ((k : Int) == 0) = false := beq_eq_false_iff_ne.2 (by omega)
      have hkn : ((k : Int) != 0) = true := by unfold bne; rw [hkb]; rfl
      have HST := Lib.hid (decN_step (show 0 < k by omega))
      obtain ⟨d, hd10, HDd⟩ : ∃ d : Nat, d < 10 ∧ Hid (k % 10 = d) := ⟨k % 10, Nat.mod_lt _ (by omega), Lib.hid rfl⟩
      have hdi : (k : Int) % 10 = (d : Int) := by have := HDd.out; omega
      obtain ⟨ke, hke, HKe⟩ : ∃ ke : Nat, ke + 1 ≤ k ∧ Hid (k / 10 = ke) := ⟨k / 10, by omega, Lib.hid rfl⟩
      have hq : (k : Int) / 10 = (ke : Int) := by have := HKe.out; omega
      rw [HDd.out, HKe.out] at HST
      have hd0 : ¬ ((d : Int) < 0) := by omega
      have hdw : IntKind.u8.wrap (48 + (d : Int)) = 48 + (d : Int) := by unfold IntKind.wrap; simp [IntKind.bits, IntKind.signed]; omega
      have HLIT : Hid (Ow (wr.alloc (.cells #[.int .u8 (48 + (d : Int))] 5)) wr.heap.size 5 1 (.slice (some ⟨wr.heap.size, 0, none⟩) 1 1) 1 [.int .u8 (48 + (d : Int))]) := Lib.hid ⟨World.ownsRow_lit wr #[.int .u8 (48 + (d : Int))] 1 (Nat.le_refl _) (by unfold maxLen; omega) (by simp), by simp⟩
      have HSRC := Lib.hid (Sl.ex (Ow.sl HOW.out) (below_alloc wr (.cells #[.int .u8 (48 + (d : Int))] 5)))
      go_wp2_with (first | (at_builtin; refine wpList_cat (wr.alloc (.cells #[.int .u8 (48 + (d : Int))] 5)) rfl (.tmp 21) (.tmp 22) _ rfl wr.heap.size 5 (.int .u8 0) 1 1 Tryd.underlying28 infoU8d rfl (by omega) (.slice (some ⟨wr.heap.size, 0, none⟩) 1 1) 1 [.int .u8 (48 + (d : Int))] rfl HLIT.out (.slice A m c) m _ rfl HSRC.out (by intro u hu; obtain ⟨x, _, rfl⟩ := List.mem_map.1 hu; rfl) (by omega) (by omega) (by simp) ?_; intro A3 c3 w6 _ hown3 hg3 hsz3; have HO3 := Lib.hid (Ow.mono hown3 HB.out.size); have HB6 := Lib.hid (below_next0 HB.out ((below_alloc wr (.cells #[.int .u8 (48 + (d : Int))] 5)).grown hg3 (by simp) (fun k hk => by simp [Value.ownBlock] at hk; omega))); clear hown3 hg3 hsz3) | fail)
      go_wp2
      go_roundw
      case rel => exact ⟨ke, 1 + m, c3, A3, (48 + (d : Int)) :: xs, by go_num, by omega, by first | rfl | (rw [Nat.add_comm]), Lib.hid (by simp [HL.out]; omega), Lib.hid (by simpa using HO3.out), Lib.hid (by rw [← HD.out, HST.out]; simp), HB6⟩
      case measure => simp [intOf]; omega
end Go.Proofs.YthpijecjifmnbaaDoor
