/-
slices.Grow of nil and slices.Concat of two slices of int64. Condition: the slices read as lists, not both empty.
-/
import Derived.Test.YtedoibgclplnaaaOwn
import Derived.Lib.AppendZerosOnto
import Derived.Laws.Append
namespace Go.Proofs.Ytedoibgclplnaaa
open Go.RowKit
set_option linter.unusedVariables false

set_option maxHeartbeats 1000000 in
theorem growI_any (n : Nat) (w : World) (h1 : 1 ≤ n) (hn : n ≤ 4194304) :
    Calls Try.prog 94 #[.slice none 0 0, .int .i64 (n : Int)] w fun e w' => ∃ g c, e = .returned (.slice (some ⟨g, 0, none⟩) 0 c) ∧ OwI w' w.heap.size (.slice (some ⟨g, 0, none⟩) 0 c) [] ∧ Below w.heap.size w w' := by
  have h2 : ¬ ((n : Int) < 0) := by omega
  have h4 : (0 : Int) < (n : Int) := by omega
  obtain ⟨i0, hi, hz0, hz1, hz2⟩ := info_parts infoI64
  have hold : (Builtin.firstCells i0.size 0 (.slice none 0 0)).run Try.prog w.drew = .ok #[] w.drew := run_firstCells_none w.drew i0.size 0 0 0
  have hrz : ∀ ty, (Builtin.append_ #[24, 3] ty #[.slice none 0 0, .int .i64 (n : Int)]).run Try.prog w =
      .ok (.slice (some ⟨w.heap.size, 0, none⟩) n (grownCap w n 0 2)) (w.drew.alloc (.cells (#[] ++ Builtin.zeroCells (Value.int .i64 0).cells n ++ Builtin.zeroCells (Value.int .i64 0).cells (grownCap w n 0 2 - n)) 2)) := fun ty => by
    have h := Lib.run_append_grow_zeros (P := Try.prog) w 24 3 ty 2 i0 (.int .i64 0) .i64 .i64 Try.underlying24 Try.underlying3 hi hz0 none 0 0 [] hold n (by omega) (by rw [hz1]; omega) (by omega) (by omega) (by rw [hz2]; omega)
      (growslice_fits (by omega) (by rw [hz2]; omega))
    simpa using h
  have hGn : n ≤ grownCap w n 0 2 := grownCap_ge w _ _ _
  have hGm : grownCap w n 0 2 ≤ maxLen := grownCap_le_maxLen w n 0 2 (by unfold maxLen; omega)
  generalize grownCap w n 0 2 = G at hrz hGn hGm
  have hsz : (#[] ++ Builtin.zeroCells (Value.int .i64 0).cells n ++ Builtin.zeroCells (Value.int .i64 0).cells (G - n)).size = G := by simp [Builtin.zeroCells, Value.cells]; omega
  generalize #[] ++ Builtin.zeroCells (Value.int .i64 0).cells n ++ Builtin.zeroCells (Value.int .i64 0).cells (G - n) = CC at hrz hsz
  have HOW : Hid (OwI (w.alloc (.cells CC 2)).drew w.heap.size (.slice (some ⟨w.heap.size, 0, none⟩) 0 G) []) := Lib.hid
    ⟨⟨rfl, .inr ⟨w.heap.size, G, CC, rfl, Nat.le_refl _, (MapKept.heap_alloc w _).1, Nat.zero_le _, hGm, by rw [hsz]; simp, by simp⟩⟩, by simp⟩
  have HB : Hid (Below w.heap.size w (w.alloc (.cells CC 2)).drew) := Lib.hid ((Below.refl _ _).alloc (Nat.le_refl _) _).drew
  have hGm2 : G ≤ 9223372036854775807 := by unfold maxLen at hGm; omega
  clear hold hGm hi hz0 hz1 hz2 hsz
  go_enter Try.func94, Try.ntmps94
  go_wp2_with (at_builtin; refine Lib.wpList_append_run _ rfl _ _ _ _ rfl _ _ rfl rfl _ _ (hrz _) ?_)
  all_goals
    go_ret
    exact ⟨_, _, rfl, HOW.out, HB.out⟩

set_option maxHeartbeats 2000000 in
theorem concatI_any (g n1 n2 c1 c2 : Nat) (A1 A2 : Option Addr) (xs ys : List Int) (w : World) (h0 : w.cell? ⟨g, 0, none⟩ = some (.slice A1 n1 c1)) (h1 : w.cell? ⟨g, 1, none⟩ = some (.slice A2 n2 c2))
    (hx : SlI w (.slice A1 n1 c1) xs) (hy : SlI w (.slice A2 n2 c2) ys) (hxn : xs.length = n1) (hyn : ys.length = n2) (hn1 : 1 ≤ n1) (hb1 : n1 ≤ 1048576) (hb2 : n2 ≤ 1048576) :
    Calls Try.prog 88 #[.slice (some ⟨g, 0, none⟩) 2 2] w fun e w' => ∃ A c, e = .returned (.slice A (n1 + n2) c) ∧ OwI w' w.heap.size (.slice A (n1 + n2) c) (xs ++ ys) ∧ Below w.heap.size w w' := by
  have hgs : g < w.heap.size := by
    rcases Nat.lt_or_ge g w.heap.size with h | h
    · exact h
    · simp [World.cell?, Array.getElem?_eq_none h] at h0
  have HX := Lib.hid hx; have HY := Lib.hid hy; have HXN := Lib.hid hxn; have HYN := Lib.hid hyn
  clear hx hy hxn hyn
  go_enter Try.func88, Try.ntmps88
  go_wp2
  go_loop [3, 5, 11] (fun s _ i => (i = .int .i64 0 ∧ s = .int .i64 0) ∨ (i = .int .i64 1 ∧ s = .int .i64 (n1 : Int)) ∨ (i = .int .i64 2 ∧ s = .int .i64 ((n1 : Int) + (n2 : Int)))) (fun _ _ i => 2 - (intOf i).toNat)
  case atStart => exact .inl ⟨rfl, rfl⟩
  case round =>
    rcases hrel with ⟨rfl, rfl⟩ | ⟨rfl, rfl⟩ | ⟨rfl, rfl⟩
    · go_wp2
      go_round
      case rel => exact .inr (.inl ⟨rfl, by go_num⟩)
      case measure => simp [intOf]
    · have hneg : ¬ ((n1 : Int) + (n2 : Int) < 0) := by omega
      go_wp2
      go_round
      case rel => exact .inr (.inr ⟨rfl, by go_num⟩)
      case measure => simp [intOf]
    · have HG := Lib.hid (growI_any (n1 + n2) w (by omega) (by omega))
      have HC : Hid (((n1 + n2 : Nat) : Int) = (n1 : Int) + (n2 : Int)) := Lib.hid (by omega)
      rw [HC.out] at HG
      go_wp2_with fail
      refine HG.out.mono ?_
      rintro e w1 ⟨g1, cg, rfl, hown, hb⟩
      have HO := Lib.hid hown; have HB := Lib.hid hb
      clear hown hb
      go_wp2
      go_loopw [6, 8, 27] (fun o _ i wr => (i = .int .i64 0 ∧ ∃ A c, o = .slice A 0 c ∧ OwI wr w.heap.size (.slice A 0 c) [] ∧ Below w.heap.size w wr) ∨ (i = .int .i64 1 ∧ ∃ A c, o = .slice A n1 c ∧ OwI wr w.heap.size (.slice A n1 c) xs ∧ Below w.heap.size w wr) ∨ (i = .int .i64 2 ∧ ∃ A c, o = .slice A (n1 + n2) c ∧ OwI wr w.heap.size (.slice A (n1 + n2) c) (xs ++ ys) ∧ Below w.heap.size w wr)) (fun _ _ i _ => 2 - (intOf i).toNat)
      case atStart => exact .inl ⟨rfl, _, _, rfl, HO.out, HB.out⟩
      case round =>
        rcases hrel with ⟨rfl, A, c, rfl, hown, hb⟩ | ⟨rfl, A, c, rfl, hown, hb⟩ | ⟨rfl, A, c, rfl, hown, hb⟩
        · have h0' := (hb.cell (p := ⟨g, 0, none⟩) hgs).trans h0
          have hr : Sl wr 1 (.slice A1 n1 c1) n1 (xs.map (Value.int .i64)) := by have := HX.out.ex hb; unfold SlI at this; rwa [HXN.out] at this
          have HR := Lib.hid hr; have HOW := Lib.hid hown; have HB1 := Lib.hid hb
          clear hr hown hb
          go_wp2_with (first | (at_builtin; refine wpList_cat wr rfl (.tmp 31) (.tmp 32) _ rfl w.heap.size 2 (.int .i64 0) 1 8 Try.underlying24 infoI64 rfl (by omega) (.slice A 0 c) 0 [] rfl HOW.out (.slice A1 n1 c1) n1 _ rfl HR.out ?_ (by omega) (by omega) HB1.out.size ?_; rotate_left; intro A3 c3 w3 _ hown3 hg3 hsz3) | fail)
          · have hown4 : OwI w3 w.heap.size (.slice A3 n1 c3) xs := by
              unfold OwI; rw [HXN.out]; simpa using hown3
            have hb4 := below_own HB1.out HOW.out hg3 HB1.out.size (Nat.le_refl _)
            have HO4 := Lib.hid hown4; have HB4 := Lib.hid hb4
            clear hown3 hown4 hb4 hg3 hsz3
            go_wp2
            go_roundw
            case rel => exact .inr (.inl ⟨by first | rfl | trivial, _, _, by first | rfl | trivial, HO4.out, HB4.out⟩)
            case measure => simp [intOf]
          · intro u hu; obtain ⟨x, _, rfl⟩ := List.mem_map.1 hu; rfl
        · have h1' := (hb.cell (p := ⟨g, 1, none⟩) hgs).trans h1
          have hr : Sl wr 1 (.slice A2 n2 c2) n2 (ys.map (Value.int .i64)) := by have := HY.out.ex hb; unfold SlI at this; rwa [HYN.out] at this
          have how : Ow wr w.heap.size 2 1 (.slice A n1 c) n1 (xs.map (Value.int .i64)) := by have := hown; unfold OwI at this; rwa [HXN.out] at this
          have HR := Lib.hid hr; have HOW := Lib.hid how; have HB1 := Lib.hid hb
          clear hr hown how hb
          go_wp2_with (first | (at_builtin; refine wpList_cat wr rfl (.tmp 31) (.tmp 32) _ rfl w.heap.size 2 (.int .i64 0) 1 8 Try.underlying24 infoI64 rfl (by omega) (.slice A n1 c) n1 _ rfl HOW.out (.slice A2 n2 c2) n2 _ rfl HR.out ?_ (by omega) (by omega) HB1.out.size ?_; rotate_left; intro A3 c3 w3 _ hown3 hg3 hsz3) | fail)
          · have hown4 : OwI w3 w.heap.size (.slice A3 (n1 + n2) c3) (xs ++ ys) := by
              unfold OwI; rw [List.length_append, HXN.out, HYN.out, List.map_append]; exact hown3
            have hb4 := below_own HB1.out HOW.out hg3 HB1.out.size (Nat.le_refl _)
            have HO4 := Lib.hid hown4; have HB4 := Lib.hid hb4
            clear hown3 hown4 hb4 hg3 hsz3
            go_wp2
            go_roundw
            case rel => exact .inr (.inr ⟨by first | rfl | trivial, _, _, by first | rfl | trivial, HO4.out, HB4.out⟩)
            case measure => simp [intOf]
          · intro u hu; obtain ⟨x, _, rfl⟩ := List.mem_map.1 hu; rfl
        · have HOW := Lib.hid hown
          clear hown
          go_wp2
          go_ret
          exact ⟨A, c, rfl, HOW.out, hb⟩
end Go.Proofs.Ytedoibgclplnaaa
