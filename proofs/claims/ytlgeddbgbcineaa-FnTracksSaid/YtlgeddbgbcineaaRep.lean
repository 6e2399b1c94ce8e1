/-
slices.Repeat of one int, by its contract; math/bits.Mul on small numbers. Condition: at most 14 repeats.
-/
import Derived.Test.YtlgeddbgbcineaaIntN
import Derived.Laws.CopyOwn
import Derived.BigQuiet
import Derived.Deep.RegionLaw
import Derived.Test.YtlgeddbgbcineaaSrc
namespace Go.Proofs.Ytlgeddbgbcineaa
open Go Go.RowKit
set_option linter.unusedVariables false

theorem ow_full {w : World} {lo g n : Nat} {e : TypeId} {cs : List Value} (h : Ow w lo e 1 (.slice (some ⟨g, 0, none⟩) n n) n cs) : w.heap[g]? = some (.cells cs.toArray e (0, 0)) ∧ cs.length = n := by
  obtain ⟨⟨hl, hr⟩, _⟩ := h
  rcases hr with ⟨hv, _⟩ | ⟨g', cap, cur, hv, hlo, hh, h1, h2, h3, h4⟩
  · simp at hv
  · injection hv with hv1 _ hv2
    injection hv1 with hv1
    injection hv1 with hv1 _ _
    subst hv1 hv2
    have e1 : cs = cur.toList := by rw [← h4]; exact List.take_of_length_le (by simp [h3])
    subst e1
    exact ⟨by simpa using hh, by simpa using hl⟩
theorem ow_of_full {w : World} {lo g n : Nat} {e : TypeId} {cs : List Value} (hlo : lo ≤ g) (hh : w.heap[g]? = some (.cells cs.toArray e (0, 0))) (hl : cs.length = n) (hn : n ≤ 1048576) : Ow w lo e 1 (.slice (some ⟨g, 0, none⟩) n n) n cs :=
  ⟨⟨by simpa using hl, .inr ⟨g, n, cs.toArray, rfl, hlo, hh, Nat.le_refl _, by unfold maxLen; omega, by simpa using hl, by simp; exact List.take_of_length_le (by omega)⟩⟩, by omega⟩

theorem mul64_any (n : Nat) (hn : n ≤ 14) (w : World) : Calls Try.prog 92 #[.int .u64 1, .int .u64 (n : Int)] w fun e w' => e = .returned (.tuple #[.int .u64 0, .int .u64 (n : Int)]) ∧ w = w' := by
  have h : n = 0 ∨ n = 1 ∨ n = 2 ∨ n = 3 ∨ n = 4 ∨ n = 5 ∨ n = 6 ∨ n = 7 ∨ n = 8 ∨ n = 9 ∨ n = 10 ∨ n = 11 ∨ n = 12 ∨ n = 13 ∨ n = 14 := by omega
  rcases h with rfl | rfl | rfl | rfl | rfl | rfl | rfl | rfl | rfl | rfl | rfl | rfl | rfl | rfl | rfl
  all_goals
    go_enter Try.func92, Try.ntmps92
    go_wp2
    go_ret2
    exact ⟨rfl, rfl⟩
theorem mul_any (n : Nat) (hn : n ≤ 14) (w : World) : Calls Try.prog 90 #[.int .u64 1, .int .u64 (n : Int)] w fun e w' => e = .returned (.tuple #[.int .u64 0, .int .u64 (n : Int)]) ∧ w = w' := by
  go_enter Try.func90, Try.ntmps90
  go_wp2_with fail
  refine (mul64_any n hn _).mono ?_
  rintro e w1 ⟨rfl, rfl⟩
  go_wp2
  go_ret2
  exact ⟨rfl, rfl⟩
theorem one_src {w : World} {b : Nat} {x : Value} (h : w.cell? ⟨b, 0, none⟩ = some x) : ∀ (j : Nat) (v : Value), [x][j]? = some v → w.cell? ((⟨b, 0, none⟩ : Addr).add j) = some v := by
  intro j v hj
  cases j with
  | zero => simp at hj; subst hj; exact h
  | succ j => simp at hj
theorem rep_src {w : World} {g k j : Nat} {t : TypeId} {y : List Value} {x : Value} (h : w.heap[g]? = some (.cells ((List.replicate k x) ++ y).toArray t (0, 0))) (hjk : j ≤ k) : ∀ (i : Nat) (v : Value), (List.replicate j x)[i]? = some v → w.cell? ((⟨g, 0, none⟩ : Addr).add i) = some v := by
  intro i v hi
  have hij : i < j := by
    rcases Nat.lt_or_ge i j with h9 | h9
    · exact h9
    · rw [List.getElem?_eq_none (by simp; omega)] at hi; cases hi
  rw [List.getElem?_replicate, if_pos hij] at hi
  injection hi with hi
  subst hi
  have ha : (⟨g, 0, none⟩ : Addr).add i = ⟨g, i, none⟩ := by
    unfold Addr.add; split
    · rename_i h; subst h; rfl
    · simp
  rw [ha]
  have hik : i < k := by omega
  simp [World.cell?, h, List.getElem?_append_left, hik]
theorem splice_rep {n k j : Nat} (h1 : k + j ≤ n) : splice ((List.replicate k (Value.int .i64 (-1))) ++ List.replicate (n - k) (Value.int .i64 0)) k (List.replicate j (Value.int .i64 (-1))) = (List.replicate (k + j) (Value.int .i64 (-1))) ++ List.replicate (n - (k + j)) (Value.int .i64 0) := by
  unfold splice
  rw [List.take_left' (by simp), List.length_replicate, List.drop_append]
  rw [List.drop_eq_nil_of_le (by simp), List.nil_append, List.length_replicate, List.drop_replicate, ← List.append_assoc, List.replicate_append_replicate]
  congr 2; omega
theorem repRow {w : World} {g n : Nat} (h : w.heap[g]? = some (.cells ((List.replicate n (Value.int .i64 (-1))) ++ List.replicate (n - n) (Value.int .i64 0)).toArray 3 (0, 0))) (hn : n ≤ 14) {lo : Nat} (hlo : lo ≤ g) : OwN w lo (.slice (some ⟨g, 0, none⟩) n n) (List.replicate n (-1)) := by
  have e : (List.replicate n (Value.int .i64 (-1))) ++ List.replicate (n - n) (Value.int .i64 0) = (List.replicate n (-1 : Int)).map (Value.int .i64) := by simp
  rw [e] at h
  unfold OwN
  rw [List.length_replicate]
  exact ow_of_full hlo h (by simp) (by omega)
set_option maxRecDepth 100000 in
set_option maxHeartbeats 1000000 in
theorem repeat_any (n : Nat) (hn : n ≤ 14) (b c : Nat) (w : World) (hb : w.cell? ⟨b, 0, none⟩ = some (.int .i64 (-1))) :
    Calls Try.prog 85 #[.slice (some ⟨b, 0, none⟩) 1 c, .int .i64 (n : Int)] w fun e w' => e = .returned (.slice (some ⟨w.heap.size, 0, none⟩) n n) ∧ OwN w' w.heap.size (.slice (some ⟨w.heap.size, 0, none⟩) n n) (List.replicate n (-1)) ∧ Below w.heap.size w w' := by
  have HBC := Lib.hid (show b < w.heap.size from by
    rcases Nat.lt_or_ge b w.heap.size with h1 | h1
    · exact h1
    · simp [World.cell?, Array.getElem?_eq_none h1] at hb)
  have HC := Lib.hid hb
  clear hb
  have hni : (0 : Int) ≤ (n : Int) := by omega
  by_cases h0 : n = 0
  · subst h0
    go_enter Try.func85, Try.ntmps85
    go_wp2_with fail
    refine (mul_any 0 (by omega) _).mono ?_
    rintro e w1 ⟨rfl, rfl⟩
    go_wp2_with (first | (at_make; refine wpList_make1 _ rfl (.tmp 29) (.tmp 29) _ rfl w.heap.size 3 (.int .i64 0) 8 Try.underlying80 infoN rfl .i64 .i64 0 ?_ ?_ (by omega) (by omega) (Nat.le_refl _) ?_; rfl; rfl; intro w2 hown hb2 hsz; have HO := Lib.hid hown; have HB := Lib.hid hb2; clear hown hb2 hsz) | (refine wpList_copy_nothing rfl (.tmp 31) (.tmp 32) 80 80 rfl 3 Try.underlying80 (by kernel_rfl) (some ⟨w.heap.size, 0, none⟩) (some ⟨b, 0, none⟩) 0 0 1 c rfl rfl (by decide) ?_) | fail)
    go_loopw [8] (fun v8 wr => v8 = .int .i64 0 ∧ wr = w2) (fun _ _ => 0)
    case atStart => exact ⟨rfl, rfl⟩
    case round =>
      obtain ⟨rfl, rfl⟩ := hrel
      go_wp2
      go_ret
      exact ⟨rfl, HO.out, HB.out⟩
  · have hn1 : (1 : Int) ≤ (n : Int) := by omega
    have HMIN : Hid ([Value.int .i64 (-1)].length = Nat.min 1 n) := Lib.hid (by show 1 = Nat.min 1 n; exact (Nat.min_eq_left (by omega)).symm)
    have HFIT : Hid (0 + [Value.int .i64 (-1)].length ≤ (List.replicate n (Value.int .i64 0)).length) := Lib.hid (by rw [List.length_replicate]; show 0 + 1 ≤ n; omega)
    have HONE : Hid (∀ v ∈ [Value.int .i64 (-1)], v.oneCell' = true) := Lib.hid (by intro v hv; simp at hv; subst hv; rfl)
    go_enter Try.func85, Try.ntmps85
    go_wp2_with fail
    refine (mul_any n hn _).mono ?_
    rintro e w1 ⟨rfl, rfl⟩
    go_wp2_with (first | (at_make; refine wpList_make1 _ rfl (.tmp 29) (.tmp 29) _ rfl w.heap.size 3 (.int .i64 0) 8 Try.underlying80 infoN rfl .i64 .i64 n ?_ ?_ (by omega) (by omega) (Nat.le_refl _) ?_; rfl; rfl; intro w2 hown hb2 hsz; have HO := Lib.hid (ow_full hown).1; have HB := Lib.hid hb2; have HSRC := Lib.hid (one_src ((hb2.cell (p := ⟨b, 0, none⟩) HBC.out).trans HC.out)); clear hown hb2 hsz) | (refine wpList_copy_splice rfl (.tmp 31) (.tmp 32) 80 80 rfl 3 Try.underlying80 (by kernel_rfl) (some ⟨w.heap.size, 0, none⟩) (some ⟨b, 0, none⟩) n n 1 c rfl rfl w.heap.size 0 (List.replicate n (Value.int .i64 0)) 3 HO.out [Value.int .i64 (-1)] HMIN.out (fun _ => ⟨rfl, ⟨b, 0, none⟩, rfl, HSRC.out⟩) HFIT.out HONE.out w.heap.size w HB.out (Nat.le_refl _) ?_; intro w3 HO3 hb3; have HB3 := Lib.hid hb3; clear hb3) | fail)
    have H1 : Hid (w3.heap[w.heap.size]? = some (.cells ((List.replicate 1 (Value.int .i64 (-1))) ++ List.replicate (n - 1) (Value.int .i64 0)).toArray 3 (0, 0))) := Lib.hid (by
      have h := HO3.out
      have e := splice_rep (n := n) (k := 0) (j := 1) (by omega)
      simp only [List.replicate_zero, List.nil_append, Nat.sub_zero, Nat.zero_add, List.replicate_one] at e
      rw [e] at h; simpa using h)
    clear HO3 HO HB HC HBC
    go_loopw [8] (fun v8 wr => ∃ k : Nat, v8 = .int .i64 k ∧ 1 ≤ k ∧ k ≤ n ∧ Hid (wr.heap[w.heap.size]? = some (.cells ((List.replicate k (Value.int .i64 (-1))) ++ List.replicate (n - k) (Value.int .i64 0)).toArray 3 (0, 0))) ∧ Hid (Below w.heap.size w wr)) (fun v8 _ => n - (intOf v8).toNat)
    case atStart => exact ⟨1, rfl, by omega, by omega, H1, HB3⟩
    case round =>
      clear H1 HB3
      obtain ⟨k, rfl, hk1, hk2, HO, HB⟩ := hrel
      by_cases hlt : k < n
      · have hlti : (k : Int) < (n : Int) := by omega
        have hk1i : (1 : Int) ≤ (k : Int) := by omega
        have hnk : ¬ n = k := by omega
        have hnki : ¬ (n : Int) = (k : Int) := by omega
        obtain ⟨j, hj⟩ : ∃ j : Nat, j = Nat.min k (n - k) := ⟨_, rfl⟩
        have hj1 : 1 ≤ j := by rw [hj]; simp [Nat.min_def]; split <;> omega
        have hj2 : k + j ≤ n := by have : j ≤ n - k := by rw [hj]; exact Nat.min_le_right _ _
                                   omega
        have hjk : j ≤ k := by rw [hj]; exact Nat.min_le_left _ _
        have HJ := Lib.hid hj
        clear hj
        have hwkj : IntKind.i64.wrap ((k : Int) + (j : Int)) = (k : Int) + (j : Int) := IntWalk.i64_in _ (by omega)
        have HOd : Hid (wr.drew.heap[w.heap.size]? = some (.cells ((List.replicate k (Value.int .i64 (-1))) ++ List.replicate (n - k) (Value.int .i64 0)).toArray 3 (0, 0))) := Lib.hid HO.out
        have HBd : Hid (Below w.heap.size w wr.drew) := Lib.hid HB.out.drew
        have HM2 : Hid ((List.replicate j (Value.int .i64 (-1))).length = Nat.min k (n - k)) := Lib.hid (by rw [List.length_replicate]; exact HJ.out)
        have HF2 : Hid (k + (List.replicate j (Value.int .i64 (-1))).length ≤ ((List.replicate k (Value.int .i64 (-1))) ++ List.replicate (n - k) (Value.int .i64 0)).length) := Lib.hid (by simp; omega)
        have HO2 : Hid (∀ v ∈ (List.replicate j (Value.int .i64 (-1))), v.oneCell' = true) := Lib.hid (fun v hv => by rw [List.eq_of_mem_replicate hv]; rfl)
        have HS2 : Hid (∀ (i : Nat) (v : Value), (List.replicate j (Value.int .i64 (-1)))[i]? = some v → wr.drew.cell? ((⟨w.heap.size, 0, none⟩ : Addr).add i) = some v) := Lib.hid (rep_src HOd.out hjk)
        go_wp2_with fail
        go_region_law (first | (refine step_copy_splice rfl (.tmp 41) (.tmp 44) 80 80 rfl 3 Try.underlying80 (by kernel_rfl) (some ⟨w.heap.size, k, none⟩) (some ⟨w.heap.size, 0, none⟩) (n - k) (n - k) k n (by simp [Act.eval, Act.put]) (by simp [Act.eval, Act.put]) w.heap.size k ((List.replicate k (Value.int .i64 (-1))) ++ List.replicate (n - k) (Value.int .i64 0)) 3 HOd.out (List.replicate j (Value.int .i64 (-1))) HM2.out (fun _ => ⟨rfl, ⟨w.heap.size, 0, none⟩, rfl, HS2.out⟩) HF2.out HO2.out w.heap.size w HBd.out (Nat.le_refl _) ?_; intro w3 HO3 hb3) | fail)
        have HO4 : Hid (w3.heap[w.heap.size]? = some (.cells ((List.replicate (k + j) (Value.int .i64 (-1))) ++ List.replicate (n - (k + j)) (Value.int .i64 0)).toArray 3 (0, 0))) := Lib.hid (by
          have h := HO3.out
          rw [splice_rep (n := n) (k := k) (j := j) (by omega)] at h
          exact h)
        have HB4 := Lib.hid hb3
        clear HO3 hb3
        simp [Act.put]
        clear hwkj
        go_roundw
        case rel => exact ⟨.int .i64 ((k + j : Nat) : Int), _, _, _, _, _, _, _, _, _, _, _, _, _, ⟨k + j, rfl, by omega, by omega, HO4, HB4⟩, rfl⟩
        case measure => simp [intOf]; omega
      · obtain rfl : k = n := by omega
        go_wp2
        go_ret
        exact ⟨rfl, repRow HO.out hn (Nat.le_refl _), HB.out⟩
end Go.Proofs.Ytlgeddbgbcineaa
