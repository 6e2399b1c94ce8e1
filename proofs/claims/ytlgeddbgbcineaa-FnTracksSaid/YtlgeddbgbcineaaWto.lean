/-
slices.Clone of bools, without of the program. Condition: the table reads as a graph's, at most 14 readings.
-/
import Derived.Test.YtlgeddbgbcineaaMst
import Derived.Test.YtlgeddbgbcineaaOwn
namespace Go.Proofs.Ytlgeddbgbcineaa
open Go.RowKit
set_option linter.unusedVariables false

theorem cloneB_any (b o n c : Nat) (xs : List Bool) (w : World) (hn : xs.length = n) (hv : Sl w 1 (.slice (some ⟨b, o, none⟩) n c) n (xs.map Value.bool)) (hl : n ≤ 1048576) :
    Calls Try.prog 87 #[.slice (some ⟨b, o, none⟩) n c] w fun e w' => ∃ A c', e = .returned (.slice A n c') ∧ OwB w' w.heap.size (.slice A n c') xs ∧ Below w.heap.size w w' := by
  subst hn
  have HV := Lib.hid (hv.ex (below_alloc w (.cells #[] 4)))
  have HEM := Lib.hid (owB_empty w w.heap.size (Nat.le_refl _))
  have q22 : ∀ (w : World) (a : Option Addr) (n c n' c' : Nat), (binOp .eql 84 (.slice a n c) (.slice none n' c')).run Try.prog w = .ok (.bool a.isNone) w := fun w a n c n' c' => Lib.run_eql_slice_nil w _ _ a n c n' c' Try.underlying84
  clear hv
  go_enter Try.func87, Try.ntmps87
  go_wp2_with (first | (at_builtin; refine wpList_cat (w.alloc (.cells #[] 4)) rfl (.tmp 5) (.tmp 6) _ rfl w.heap.size 4 (.bool false) 1 1 Try.underlying84 infoB rfl (by omega) (.slice (some ⟨w.heap.size, 0, none⟩) 0 0) 0 [] rfl HEM.out (.slice (some ⟨b, o, none⟩) xs.length c) xs.length _ rfl HV.out ?_ (by omega) (by omega) (by simp) ?_; rotate_left; intro A3 c3 w3 _ hown3 hg3 hsz3) | fail)
  · simp only [Nat.zero_add, List.nil_append] at hown3 ⊢
    have HO := Lib.hid hown3
    have HB := Lib.hid ((below_alloc w (.cells #[] 4)).grown hg3 (by simp) (fun k hk => by simp [Value.ownBlock] at hk; omega))
    clear hown3 hg3 hsz3
    go_wp2
    go_ret
    exact ⟨A3, c3, rfl, HO.out, HB.out⟩
  · intro u hu; obtain ⟨x, _, rfl⟩ := List.mem_map.1 hu; rfl
/-- a row, its first j cells already those of the other graph -/
def mixR (E E' : Nat → Nat → Bool) (n i j : Nat) : List Bool := (List.range n).map (fun b => if b < j then E' i b else E i b)
section
variable {E E' : Nat → Nat → Bool} {n i j : Nat}
theorem mixR_len : (mixR E E' n i j).length = n := by simp [mixR]
theorem mixR_zero : mixR E E' n i 0 = rowT E n i := by simp [mixR, rowT]
theorem mixR_end : mixR E E' n i n = rowT E' n i := by
  unfold mixR rowT
  apply List.map_congr_left
  intro b hb
  rw [if_pos (List.mem_range.1 hb)]
theorem mixR_at (h : j < (mixR E E' n i j).length) : (mixR E E' n i j)[j] = E i j := by simp [mixR]
theorem mixR_succ (hj : j < n) : (mixR E E' n i j).set j (E' i j) = mixR E E' n i (j + 1) := by
  apply List.ext_getElem (by simp [mixR])
  intro b h1 h2
  rw [List.getElem_set]
  by_cases e : j = b
  · subst e; simp [mixR]
  · rw [if_neg e]
    simp only [mixR, List.getElem_map, List.getElem_range]
    by_cases h3 : b < j
    · rw [if_pos h3, if_pos (by omega)]
    · rw [if_neg h3, if_neg (by omega)]
end

set_option maxRecDepth 100000 in
set_option maxHeartbeats 4000000 in
theorem without_any (v : Value) (E : Nat → Nat → Bool) (n : Nat) (hn : n ≤ 14) (a : Nat) (f : Int) (w : World) (hv : SlTab w v E n) :
    Calls Try.prog 72 #[v, .int .i64 (a : Int), .int .i64 f] w fun e w' => ∃ A c us, e = .returned (.slice A n c) ∧ OwTab w' w.heap.size (.slice A n c) n us (tabT (woE E a f) n n) ∧ Below w.heap.size w w' := by
  obtain ⟨A, c, rfl, hrow⟩ := hv.op
  have HRW := Lib.hid hrow
  have HWE : Hid (∀ i b, woE E a f i b = (E i b && ((decide (i ≠ a) && decide ((b : Int) ≠ f)) || (decide (i = a) && decide ((b : Int) = f))))) := Lib.hid (fun _ _ => rfl)
  generalize hww : woE E a f = E' at HWE
  clear hww hv hrow
  have HO0 := Lib.hid (owTab_nil w w.heap.size (Nat.le_refl _))
  have HB0 := Lib.hid (below_alloc w (.cells #[] 84))
  go_enter Try.func72, Try.ntmps72
  go_wp2
  go_loopw [7, 8, 9, 10, 11, 15] (fun v7 _ _ _ _ v15 wr => ∃ (k c : Nat) (A : Option Addr) (us : List Value), v7 = .slice A k c ∧ v15 = .int .i64 k ∧ k ≤ n ∧ Hid (OwTab wr w.heap.size (.slice A k c) k us (tabT E' n k)) ∧ Hid (Below w.heap.size w wr)) (fun _ _ _ _ _ v15 _ => n - (intOf v15).toNat)
  case atStart => exact ⟨0, 0, _, [], rfl, rfl, by omega, HO0, HB0⟩
  case round =>
    clear HO0 HB0
    obtain ⟨k, c2, A2, us, rfl, rfl, hk, HO, HB⟩ := hrel
    obtain ⟨w4, hw4⟩ : ∃ x : World, x = wr := ⟨wr, rfl⟩
    subst hw4
    by_cases hlt : k < n
    · have hlti : (k : Int) < (n : Int) := by omega
      obtain ⟨b0, o0, b1, o1, c1, rfl, hb0, hb1, hc0, hsl, hc1⟩ := HRW.out k hlt
      have hx0 := (HB.out.cell (p := ⟨b0, o0 + k, none⟩) hb0).trans hc0
      have HCB := Lib.hid (cloneB_any b1 o1 n c1 (rowT E n k) w4 (rowT_len ..) (hsl.ex HB.out) (by omega))
      clear hc0 hsl hc1
      go_wp2_with fail
      refine HCB.out.mono ?_
      rintro e w5 ⟨A5, c5, rfl, ho5, hb5⟩
      have HB5 := Lib.hid hb5
      have HR5 : Hid (OwB w5 w4.heap.size (.slice A5 n c5) (mixR E E' n k 0)) := Lib.hid (by rw [mixR_zero]; exact ho5)
      have hs4 := HB.out.size
      clear hx0 HCB ho5 hb5
      go_wp2
      go_loopw [11, 24] (fun _ v24 wr => ∃ j : Nat, v24 = .int .i64 j ∧ j ≤ n ∧ Hid (OwB wr w4.heap.size (.slice A5 n c5) (mixR E E' n k j)) ∧ Hid (Below w4.heap.size w4 wr)) (fun _ v24 _ => n - (intOf v24).toNat)
      case atStart => exact ⟨0, rfl, by omega, HR5, HB5⟩
      case round =>
        clear HR5 HB5
        obtain ⟨j, rfl, hj, HR, HBW⟩ := hrel
        obtain ⟨w6, hw6⟩ : ∃ x : World, x = wr := ⟨wr, rfl⟩
        subst hw6
        by_cases hltj : j < n
        · have hltji : (j : Int) < (n : Int) := by omega
          obtain ⟨g, rfl, hg1, hg2, hxc, hxf⟩ := owB_at HR.out mixR_len hltj
          rw [mixR_at] at hxc
          have HST : Hid (∀ y : Bool, y = E' k j → OwB (w6.setCell ⟨g, j, none⟩ (.bool y)) w4.heap.size (.slice (some ⟨g, 0, none⟩) n c5) (mixR E E' n k (j + 1)) ∧ Below w4.heap.size w4 (w6.setCell ⟨g, j, none⟩ (.bool y))) := Lib.hid (fun y hy => by
            subst hy
            refine ⟨?_, HBW.out.setCell (p := ⟨g, j, none⟩) hg1 _⟩
            have h := HR.out
            have hl : (mixR E E' n k j).length = n := mixR_len
            rw [← mixR_succ hltj]
            generalize mixR E E' n k j = xs at h hl
            subst hl
            exact OwB.set h j _)
          have HE := Lib.hid (HWE.out k j)
          generalize E k j = x at hxc HE
          generalize E' k j = y at HE HST
          have hbool : (((k : Int) == (a : Int)) = true ∧ ((k : Int) != (a : Int)) = false ∧ decide (k = a) = true ∧ decide (k ≠ a) = false) ∨ (((k : Int) == (a : Int)) = false ∧ ((k : Int) != (a : Int)) = true ∧ decide (k = a) = false ∧ decide (k ≠ a) = true) := by
            by_cases e : k = a
            · subst e; left; simp
            · right
              have e2 : ¬ (k : Int) = (a : Int) := by omega
              exact ⟨beq_eq_false_iff_ne.2 e2, by rw [bne, beq_eq_false_iff_ne.2 e2]; rfl, decide_eq_false e, decide_eq_true e⟩
          have hbool2 : (((j : Int) == f) = true ∧ ((j : Int) != f) = false ∧ decide ((j : Int) = f) = true ∧ decide ((j : Int) ≠ f) = false) ∨ (((j : Int) == f) = false ∧ ((j : Int) != f) = true ∧ decide ((j : Int) = f) = false ∧ decide ((j : Int) ≠ f) = true) := by
            by_cases e : (j : Int) = f
            · subst e; left; simp
            · right
              exact ⟨beq_eq_false_iff_ne.2 e, by rw [bne, beq_eq_false_iff_ne.2 e]; rfl, decide_eq_false e, decide_eq_true e⟩
          cases x with
          | false =>
            have HY : Hid (y = false) := Lib.hid (by rw [HE.out]; rfl)
            have hst := HST.out false HY.out.symm
            have HR2 := Lib.hid hst.1; have HB2 := Lib.hid hst.2
            clear hst hbool hbool2 HST HE
            go_wp2
            go_roundw
            case rel => exact ⟨j + 1, by go_num, by omega, HR2, HB2⟩
            case measure => simp [intOf]; omega
          | true =>
            rcases hbool with ⟨p1, p2, p3, p4⟩ | ⟨p1, p2, p3, p4⟩ <;> rcases hbool2 with ⟨q1, q2, q3, q4⟩ | ⟨q1, q2, q3, q4⟩
            · rw [p3, p4, q3, q4] at HE
              have HY : Hid (y = true) := Lib.hid (by rw [HE.out]; rfl)
              have hst := HST.out true HY.out.symm
              have HR2 := Lib.hid hst.1; have HB2 := Lib.hid hst.2
              clear hst HST HE p3 p4 q3 q4
              go_wp2
              go_roundw
              case rel => exact ⟨j + 1, by go_num, by omega, HR2, HB2⟩
              case measure => simp [intOf]; omega
            · rw [p3, p4, q3, q4] at HE
              have HY : Hid (y = false) := Lib.hid (by rw [HE.out]; rfl)
              have hst := HST.out false HY.out.symm
              have HR2 := Lib.hid hst.1; have HB2 := Lib.hid hst.2
              clear hst HST HE p3 p4 q3 q4
              go_wp2
              go_roundw
              case rel => exact ⟨j + 1, by go_num, by omega, HR2, HB2⟩
              case measure => simp [intOf]; omega
            · rw [p3, p4, q3, q4] at HE
              have HY : Hid (y = false) := Lib.hid (by rw [HE.out]; rfl)
              have hst := HST.out false HY.out.symm
              have HR2 := Lib.hid hst.1; have HB2 := Lib.hid hst.2
              clear hst HST HE p3 p4 q3 q4
              go_wp2
              go_roundw
              case rel => exact ⟨j + 1, by go_num, by omega, HR2, HB2⟩
              case measure => simp [intOf]; omega
            · rw [p3, p4, q3, q4] at HE
              have HY : Hid (y = true) := Lib.hid (by rw [HE.out]; rfl)
              have hst := HST.out true HY.out.symm
              have HR2 := Lib.hid hst.1; have HB2 := Lib.hid hst.2
              clear hst HST HE p3 p4 q3 q4
              go_wp2
              go_roundw
              case rel => exact ⟨j + 1, by go_num, by omega, HR2, HB2⟩
              case measure => simp [intOf]; omega
        · obtain rfl : j = n := by omega
          have HBF := Lib.hid (below_next0 HB.out HBW.out)
          have HO5 := Lib.hid (HO.out.ex HBW.out)
          have HRE : Hid (OwB w6 w4.heap.size (.slice A5 j c5) (rowT E' j k)) := Lib.hid (by rw [← mixR_end (E := E)]; exact HR.out)
          have hm5 := HBF.out.size
          go_wp2_with (first | (at_builtin; refine wpList_app w6 rfl (.tmp 55) (.tmp 57) 82 rfl w.heap.size 84 (.slice none 0 0) 1 24 Try.underlying82 infoRB rfl (by omega) (.slice A2 k c2) k us rfl HO5.out.outer #[.slice A5 j c5] 84 1 rfl rfl (by intro v hv; simp at hv; subst hv; rfl) (by omega) (by omega) hm5 ?_; intro A7 c7 w7 ho7 hg7 hsz7 hor7; have HO7 := Lib.hid (HO5.out.snoc hs4 HRE.out ho7 hg7); have HB7 := Lib.hid (below_own HBF.out HO5.out.outer hg7 hm5 (Nat.le_refl _)); clear ho7 hg7 hsz7 hor7) | fail)
          go_roundw
          case rel => exact ⟨k + 1, c7, A7, _, rfl, by go_num, by omega, by rw [tabT_succ]; exact HO7, HB7⟩
          case measure => simp [intOf]; omega
    · obtain rfl : k = n := by omega
      go_wp2
      go_ret
      exact ⟨_, _, us, rfl, HO.out, HB.out⟩
end Go.Proofs.Ytlgeddbgbcineaa
