/-
The functions of the statements over slices of int64 (size, copy, equality, marks, held): each by its contract. Conditions: the slices read as lists of int64; lengths as the form's reach bounds them.
-/
import Derived.Test.YtlgeddbgbcineaaBase
namespace Go.Proofs.Ytlgeddbgbcineaa
open Go.RowKit
set_option linter.unusedVariables false

theorem infoI : (Try.prog.info? 2).map (fun i => (i.zero, i.size, i.bytes)) = some (some (.int .i64 0), 1, 8) := by kernel_rfl

/-- what is left of a bound -/
def szOf (l : Int) (n : Nat) : Int := if l - n < 0 then -1 else l - n
theorem szOf_neg {l : Int} {n : Nat} (h : l - n < 0) : szOf l n = -1 := by unfold szOf; rw [if_pos h]
theorem szOf_or {s l : Int} {n : Nat} (h : s = szOf l n) : s = -1 ∨ (0 ≤ s ∧ s = l - (n : Int)) := by unfold szOf at h; split at h <;> omega
theorem szOf_pos {l : Int} {n : Nat} (h : ¬ l - n < 0) : szOf l n = l - n := by unfold szOf; rw [if_neg h]

theorem szInt64S_any (A : Option Addr) (n c : Nat) (l : Int) (w : World) (hn : n ≤ 17592186044416) (h0 : 0 ≤ l) (h1 : l ≤ 1048576) :
    Calls Try.prog 49 #[.slice A n c, .int .i64 l] w fun e w' => e = .returned (.int .i64 (szOf l n)) ∧ w = w' := by
  by_cases h : l - n < 0
  · go_enter Try.func49, Try.ntmps49
    go_wp2
    go_ret
    exact ⟨ret_int (szOf_neg (by omega)).symm, rfl⟩
  · go_enter Try.func49, Try.ntmps49
    go_wp2
    go_ret
    exact ⟨ret_int (szOf_pos (by omega)).symm, rfl⟩

theorem eqInt64S_any (v u : Value) (xs ys : List Int) (w : World) (hv : SlI w v xs) (hu : SlI w u ys) :
    Calls Try.prog 34 #[v, u] w fun e w' => e = .returned (.bool (decide (xs = ys))) ∧ ∃ n, w' = w.drewN n := by
  obtain ⟨A, ca, rfl, hla, ha⟩ := hv.op
  obtain ⟨B, cb, rfl, hlb, hb⟩ := hu.op
  clear hv hu
  by_cases hl : xs.length = ys.length
  · have hl1 : ((xs.length : Int) != (ys.length : Int)) = false := by simp [hl]
    have HL := Lib.hid hl; clear hl
    go_enter Try.func34, Try.ntmps34
    go_wp2
    go_loopw [5] (fun i wr => ∃ k : Nat, k ≤ xs.length ∧ i = .int .i64 k ∧ Hid (xs.take k = ys.take k) ∧ ∃ n, wr = w.drewN n) (fun i _ => xs.length - (intOf i).toNat)
    case atStart => exact ⟨0, Nat.zero_le _, rfl, rfl, 0, rfl⟩
    case round =>
      obtain ⟨k, hk, rfl, htk, n, rfl⟩ := hrel
      by_cases hlt : k < xs.length
      · have hlt2 : k < ys.length := by have := HL.out; omega
        obtain ⟨b1, o1, rfl, hb1, hc1⟩ := ha k hlt
        obtain ⟨b2, o2, rfl, hb2, hc2⟩ := hb k hlt2
        replace hc1 := hc1 k hlt
        replace hc2 := hc2 k hlt2
        clear ha hb
        go_wp2
        go_quiet (fail)
        go_wp2
        · have hne : (xs[k] != ys[k]) = true := by assumption
          go_ret
          exact ⟨ret_bool (by symm; rw [decide_eq_false_iff_not]; rintro rfl; simp at hne), n + nq, by simp⟩
        · have hne : (xs[k] != ys[k]) = false := by assumption
          refine ⟨⟨k + 1, by omega, by go_num, ?_, n + nq, rfl⟩, by simp [intOf]; omega⟩
          exact (take_succ_eq xs ys k hlt hlt2).2 ⟨htk.out, by simpa using hne⟩
      · go_wp2
        go_ret
        exact ⟨ret_bool (by symm; rw [decide_eq_true_iff]; have := htk.out; have h2 := HL.out; rwa [List.take_of_length_le (by omega), List.take_of_length_le (by omega)] at this), n, rfl⟩
  · have hl1 : ((xs.length : Int) != (ys.length : Int)) = true := by simp; omega
    go_enter Try.func34, Try.ntmps34
    go_wp2
    go_ret
    exact ⟨ret_bool (by symm; rw [decide_eq_false_iff_not]; intro h; apply hl; rw [h]), 0, rfl⟩

theorem toInt64S_any (v : Value) (xs : List Int) (w : World) (hv : SlI w v xs) :
    Calls Try.prog 51 #[v] w fun e w' => ∃ A c, e = .returned (.slice A xs.length c) ∧ OwI w' w.heap.size (.slice A xs.length c) xs ∧ Below w.heap.size w w' := by
  obtain ⟨A, ca, rfl, hla, ha⟩ := hv.op
  clear hv
  go_enter Try.func51, Try.ntmps51
  go_wp2_with (with_reducible refine wpList_make1 _ rfl (.tmp 6) (.tmp 6) _ rfl w.heap.size 2 (.int .i64 0) 8 Try.underlying49 infoI rfl _ _ xs.length rfl rfl (by omega) hla (Nat.le_refl _) ?_; intro w1 hown hb _)
  go_loopw [4] (fun i wr => ∃ k : Nat, k ≤ xs.length ∧ i = .int .i64 k ∧ Ow wr w.heap.size 2 1 (.slice (some ⟨w.heap.size, 0, none⟩) xs.length xs.length) xs.length ((xs.take k).map (Value.int .i64) ++ List.replicate (xs.length - k) (Value.int .i64 0)) ∧ Below w.heap.size w wr) (fun i _ => xs.length - (intOf i).toNat)
  case atStart => exact ⟨0, Nat.zero_le _, rfl, by simpa using hown, hb⟩
  case round =>
    clear hown hb
    obtain ⟨k, hk, rfl, hown, hb⟩ := hrel
    by_cases hlt : k < xs.length
    · obtain ⟨b1, o1, rfl, hb1, hc1⟩ := ha k hlt
      have hcx : wr.cell? ⟨b1, o1 + k, none⟩ = some (.int .i64 xs[k]) := (hb.cell (p := ⟨b1, o1 + k, none⟩) hb1).trans (hc1 k hlt)
      have hle : k < ((xs.take k).map (Value.int .i64) ++ List.replicate (xs.length - k) (Value.int .i64 0)).length := by simp; omega
      have hcy := hown.cell hle
      have hfy := hown.free k
      have hnew := hown.set k (.int .i64 xs[k])
      rw [set_take_rep _ _ _ _ hlt _ (by simp; omega)] at hnew
      have hb2 := hb.setCell (p := ⟨w.heap.size, k, none⟩) (Nat.le_refl _) (.int .i64 xs[k])
      have HN := Lib.hid hnew; have HB := Lib.hid hb2
      clear ha hc1 hnew hb2
      go_wp2
      go_roundw
      case rel => exact ⟨k + 1, by omega, by go_num, by rw [List.take_succ_eq_append_getElem hlt, List.map_append]; exact HN.out, HB.out⟩
      case measure => simp [intOf]; omega
    · go_wp2
      go_ret
      obtain rfl : k = xs.length := by omega
      exact ⟨_, _, rfl, ⟨by simpa using hown.own, hla⟩, hb⟩

/-- k, k + 1, .. : n numbers -/
def marks (k : Int) (n : Nat) : List Int := (List.range n).map fun (i : Nat) => k + (i : Int)
@[simp] theorem marks_length (k : Int) (n : Nat) : (marks k n).length = n := by simp [marks]
theorem marks_get (k : Int) (n i : Nat) (h : i < (marks k n).length) : (marks k n)[i] = k + (i : Int) := by simp [marks]
/-- the first k are marked, the rest is as it was -/
def marked (k0 : Int) (xs : List Int) (k : Nat) : List Int := marks k0 k ++ xs.drop k
theorem marked_length (k0 : Int) (xs : List Int) (k : Nat) (h : k ≤ xs.length) : (marked k0 xs k).length = xs.length := by simp [marked]; omega
theorem marked_set (k0 : Int) (xs : List Int) (k : Nat) (h : k < xs.length) : (marked k0 xs k).set k (k0 + (k : Int)) = marked k0 xs (k + 1) := by
  unfold marked
  rw [List.set_append_right _ _ (by simp)]
  have h1 : xs.drop k = xs[k] :: xs.drop (k + 1) := List.drop_eq_getElem_cons h
  have h2 : marks k0 (k + 1) = marks k0 k ++ [k0 + (k : Int)] := by simp [marks, List.range_succ]
  rw [h2]
  simp [marks]
  rw [h1]; rfl

theorem marked_setU (k0 : Int) (xs : List Int) (k : Nat) (u : Int) (h : k < xs.length) (hu : u = k0 + (k : Int)) : (marked k0 xs k).set k u = marked k0 xs (k + 1) := by rw [hu]; exact marked_set k0 xs k h

theorem markInt64S_any (v : Value) (xs : List Int) (k0 : Int) (w : World) (lo : Nat) (hv : OwI w lo v xs) (h0 : 0 ≤ k0) (h1 : k0 ≤ 1152921504606846976) :
    Calls Try.prog 37 #[v, .int .i64 k0] w fun e w' => e = .returned (.int .i64 (k0 + xs.length)) ∧ OwI w' lo v (marks k0 xs.length) ∧ w.grownBy w' v.ownBlock := by
  have hla := hv.sl.le
  rcases Ow.form hv with ⟨rfl, hn, _⟩ | ⟨g, c, rfl, hlo, hlt, _⟩
  · have hx : xs = [] := List.eq_nil_of_length_eq_zero hn
    subst hx
    clear hv
    go_enter Try.func37, Try.ntmps37
    go_wp2
    go_loopw [1, 5] (fun k i wr => i = .int .i64 0 ∧ k = .int .i64 k0 ∧ w = wr) (fun _ i _ => 0 - (intOf i).toNat)
    case atStart => exact ⟨rfl, rfl, rfl⟩
    case round =>
      obtain ⟨rfl, rfl, rfl⟩ := hrel
      go_wp2
      go_ret
      exact ⟨ret_int (by simp), ⟨World.ownsRow_nil _ _ _ _, by simp⟩, World.grownBy.refl _ _⟩
  · have HV := Lib.hid hv; clear hv
    go_enter Try.func37, Try.ntmps37
    go_wp2
    go_loopw [1, 5] (fun k i wr => ∃ m : Nat, m ≤ xs.length ∧ i = .int .i64 m ∧ k = .int .i64 (k0 + (m : Int)) ∧ Ow wr lo 2 1 (.slice (some ⟨g, 0, none⟩) xs.length c) xs.length ((marked k0 xs m).map (Value.int .i64)) ∧ w.grownBy wr (some g)) (fun _ i _ => xs.length - (intOf i).toNat)
    case atStart => exact ⟨0, Nat.zero_le _, rfl, by simp, HV.out, World.grownBy.refl _ _⟩
    case round =>
      obtain ⟨m, hm, rfl, rfl, hown, hg⟩ := hrel
      by_cases hml : m < xs.length
      · have hle : m < ((marked k0 xs m).map (Value.int .i64)).length := by rw [List.length_map, marked_length _ _ _ (by omega)]; exact hml
        have hcy := hown.cell hle
        have hfy := hown.free m
        have hnew := hown.set m (Value.int .i64 (k0 + (m : Int)))
        rw [← List.map_set, marked_set _ _ _ hml] at hnew
        have hg2 := grown_trans hg (hown.grow (k := m) (Value.int .i64 (k0 + (m : Int))))
        have HN := Lib.hid hnew; have HG := Lib.hid hg2
        clear hnew hg2 hg hown
        go_wp2
        go_roundw
        case rel => exact ⟨m + 1, by omega, by go_num, by go_num, HN.out, HG.out⟩
        case measure => simp [intOf]; omega
      · obtain rfl : m = xs.length := by omega
        have HO := Lib.hid hown; clear hown
        go_wp2
        go_ret
        refine ⟨rfl, ?_, hg⟩
        have := HO.out
        simp only [marked, List.drop_length, List.append_nil] at this
        exact ⟨by simpa using this.own, by simpa using hla⟩

theorem heldInt64S_any (v : Value) (n : Nat) (k0 : Int) (w : World) (hv : SlI w v (marks k0 n)) (h0 : 0 ≤ k0) (h1 : k0 ≤ 1152921504606846976) :
    Calls Try.prog 38 #[v, .int .i64 k0] w fun e w' => e = .returned (.int .i64 (k0 + n)) ∧ w = w' := by
  obtain ⟨A, c, rfl, hla, ha⟩ := hv.op
  rw [marks_length] at hla
  clear hv
  go_enter Try.func38, Try.ntmps38
  go_wp2
  go_loop [1, 5] (fun k i => ∃ m : Nat, m ≤ n ∧ i = .int .i64 m ∧ k = .int .i64 (k0 + (m : Int))) (fun _ i => n - (intOf i).toNat)
  case atStart => exact ⟨0, Nat.zero_le _, rfl, by simp⟩
  case round =>
    obtain ⟨m, hm, rfl, rfl⟩ := hrel
    by_cases hml : m < n
    · obtain ⟨b, o, rfl, hbs, hc⟩ := ha m (by simpa using hml)
      have hcell := hc m (by simpa using hml)
      rw [marks_get] at hcell
      clear hc ha
      go_wp2
      go_round
      case rel => exact ⟨m + 1, by omega, by go_num, by go_num⟩
      case measure => simp [intOf]; omega
    · obtain rfl : m = n := by omega
      go_wp2
      go_ret
      exact ⟨rfl, rfl⟩

end Go.Proofs.Ytlgeddbgbcineaa
