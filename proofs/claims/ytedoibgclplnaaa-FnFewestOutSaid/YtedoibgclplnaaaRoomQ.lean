/-
Guests without some: l10Without of the reference. Condition: the slices read as lists, the indices are those of guests.
-/
import Derived.Test.YtedoibgclplnaaaRoomP
import Derived.Test.YtedoibgclplnaaaGFew
namespace Go.Proofs.Ytedoibgclplnaaa
open Go.RowKit
set_option linter.unusedVariables false

theorem flat_set2 (g' : Guest) (l : List Guest) (k : Nat) (hk : k < l.length) : ((l.flatMap Guest.vals).set (k * 2) (.int .i64 g'.here)).set (k * 2 + 1) (.int .i64 g'.wants) = (l.set k g').flatMap Guest.vals := by
  have hl1 : (l.flatMap Guest.vals).length = l.length * 2 := flat_len _ _ Guest.vals_len l
  have hl2 : ((l.set k g').flatMap Guest.vals).length = l.length * 2 := by rw [flat_len _ _ Guest.vals_len]; simp
  apply List.ext_getElem?
  intro i
  by_cases hi : i < l.length * 2
  · obtain ⟨j, r, hr, rfl⟩ : ∃ j r, r < 2 ∧ i = j * 2 + r := ⟨i / 2, i % 2, by omega, by omega⟩
    have hj : j < l.length := by omega
    rw [flat_get Guest.vals 2 Guest.vals_len (l.set k g') j (by simpa using hj) r hr, List.getElem?_set, List.getElem?_set, flat_get Guest.vals 2 Guest.vals_len l j hj r hr]
    simp only [List.length_set, hl1, List.getElem_set]
    by_cases e : k = j
    · subst e
      have : r = 0 ∨ r = 1 := by omega
      rcases this with rfl | rfl
      · rw [if_neg (by omega), if_pos (by omega), if_pos (by omega)]; simp [Guest.vals]
      · rw [if_pos (by omega), if_pos (by omega)]; simp [Guest.vals]
    · rw [if_neg (by omega), if_neg (by omega), if_neg e]
  · rw [List.getElem?_eq_none (by simp [hl1]; omega), List.getElem?_eq_none (by rw [hl2]; omega)]

set_option maxHeartbeats 1000000 in
theorem l10Without_any (u vo : Value) (ts : List Guest) (X : List Int) (w : World) (hu : SlGuest w u ts) (ho : SlI w vo X) (hl : ts.length ≤ 8) (hX : ∀ x ∈ X, 0 ≤ x ∧ x < (ts.length : Int)) :
    Calls Try.prog 89 #[u, vo] w fun e w' => ∃ A c, e = .returned (.slice A ts.length c) ∧ OwGuest w' w.heap.size (.slice A ts.length c) (wo ts X) ∧ Below w.heap.size w w' := by
  have HV := Lib.hid (hu.ex (below_alloc w (.cells #[] 34)))
  have HEM := Lib.hid (ow_empty w w.heap.size 34 2 (Nat.le_refl _))
  have HO := Lib.hid ho
  obtain ⟨A, c, rfl, hla, _⟩ := hu.op
  obtain ⟨Ao, co, rfl, hlo, hao⟩ := ho.op
  have HAO := Lib.hid hao; have HX := Lib.hid hX
  clear hu ho hao hX
  go_enter Try.func89, Try.ntmps89
  go_wp2_with (first | (at_builtin; refine wpList_cat (w.alloc (.cells #[] 34)) rfl (.tmp 7) (.tmp 8) _ rfl w.heap.size 34 (.agg #[.int .i64 0, .int .i64 0]) 2 16 Try.underlying25 infoGuest rfl (by omega) (.slice (some ⟨w.heap.size, 0, none⟩) 0 0) 0 [] rfl HEM.out (.slice A ts.length c) ts.length _ rfl HV.out ?_ (by omega) (by omega) (by simp) ?_; rotate_left; intro A3 c3 w3 _ hown3 hg3 hsz3) | fail)
  · simp only [Nat.zero_add, List.nil_append] at hown3 ⊢
    have hb := (below_alloc w (.cells #[] 34)).grown hg3 (by simp) (fun k hk => by simp [Value.ownBlock] at hk; omega)
    have HO3 := Lib.hid (show Ow w3 w.heap.size 34 2 (.slice A3 ts.length c3) ts.length ((wo ts (X.take 0)).flatMap Guest.vals) from by simpa [wo] using hown3)
    have HB := Lib.hid hb
    clear hown3 hg3 hsz3 hb
    go_wp2
    go_loopw [6] (fun i wr => ∃ k : Nat, k ≤ X.length ∧ i = .int .i64 k ∧ Ow wr w.heap.size 34 2 (.slice A3 ts.length c3) ts.length ((wo ts (X.take k)).flatMap Guest.vals) ∧ Below w.heap.size w wr) (fun i _ => X.length - (intOf i).toNat)
    case atStart => exact ⟨0, Nat.zero_le _, rfl, HO3.out, HB.out⟩
    case round =>
      obtain ⟨k, hk, rfl, hown, hb⟩ := hrel
      by_cases hlt : k < X.length
      · have hki : (k : Int) < (X.length : Int) := by omega
        obtain ⟨b, o, rfl, hbs, hc⟩ := HAO.out k hlt
        have hx := (hb.cell (p := ⟨b, o + k, none⟩) hbs).trans (hc k hlt)
        have HT : Hid (X.take (k + 1) = X.take k ++ [X[k]]) := Lib.hid (List.take_succ_eq_append_getElem hlt)
        have hxb := HX.out _ (List.getElem_mem hlt)
        have HW : Hid (wo ts (X.take (k + 1)) = (wo ts (X.take k)).set X[k].toNat outG) := Lib.hid (by rw [HT.out, wo_snoc])
        generalize X[k] = x at hx hxb HW
        obtain ⟨hx0, hxl⟩ := hxb
        obtain ⟨j, rfl⟩ := Int.eq_ofNat_of_zero_le hx0
        have hj : j < ts.length := by omega
        rcases Ow.form hown with ⟨_, h0, _⟩ | ⟨g, c4, hA2, hlo2, hltg, hcl⟩
        · omega
        · injection hA2 with hA2 _ hc2
          subst hA2 hc2
          have hwl := wo_len (X.take k) ts
          have hS := flat_set2 outG (wo ts (X.take k)) j (by omega)
          have hy0 := Ow.cell hown (k := j * 2) (by omega)
          have hy1 := Ow.cell hown (k := j * 2 + 1) (by omega)
          have hf0 := Ow.free hown (j * 2); have hf1 := Ow.free hown (j * 2 + 1)
          have hn := Ow.set (Ow.set hown (j * 2) (.int .i64 outG.here)) (j * 2 + 1) (.int .i64 outG.wants)
          rw [hS] at hn
          rw [Int.toNat_natCast] at HW
          rw [← HW.out] at hn
          have HN := Lib.hid hn
          have HB2 := Lib.hid ((hb.setCell (p := ⟨g, j * 2, none⟩) hlo2 (.int .i64 outG.here)).setCell (p := ⟨g, j * 2 + 1, none⟩) hlo2 (.int .i64 outG.wants))
          generalize ((wo ts (X.take k)).flatMap Guest.vals)[j * 2]'(by omega) = z0 at hy0
          generalize ((wo ts (X.take k)).flatMap Guest.vals)[j * 2 + 1]'(by omega) = z1 at hy1
          clear hown hb hS hn hc hwl hcl
          go_wp2
          go_roundw
          case rel => exact ⟨k + 1, by omega, by go_num, HN.out, HB2.out⟩
          case measure => simp [intOf]; omega
      · have hkn : k = X.length := by omega
        have HOW := Lib.hid hown
        have HWE : Hid (X.take k = X) := Lib.hid (List.take_of_length_le (by omega))
        clear hown
        go_wp2
        go_ret
        refine ⟨A3, c3, rfl, ?_, hb⟩
        unfold OwGuest
        rw [wo_len, ← HWE.out, HWE.out]
        have h9 := HOW.out
        rw [HWE.out] at h9
        exact h9
  · intro u hu
    obtain ⟨g, _, hg⟩ := List.mem_flatMap.1 hu
    simp [Guest.vals] at hg
    rcases hg with rfl | rfl <;> rfl
end Go.Proofs.Ytedoibgclplnaaa
