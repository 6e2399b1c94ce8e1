/-
The first store into a map that a call has just made: the world behind it. No condition.
-/
import Derived.Test.YtegabdhmfemgkaaPolW
namespace Go.Proofs.Ytegabdhmfemgkaa
open Go.RowKit
set_option linter.unusedVariables false

theorem keyZ : ∃ l, keyOf Try.prog 86 (.agg #[.int .i64 0, .int .i64 0, .int .i64 0, .int .i64 0]) = some l :=
  keyOf_four arrS Try.underlying2 sizeS rfl rfl rfl rfl
theorem ownsMap_empty {H : Type} {P : Program} {k : TypeId} {R : Value → Option (DataW H × List MemPlace)} {W : World} {b : Nat} (hb : W.heap[b]? = some (.map #[] 0)) : W.ownsMap P k R b 0 (.map []) :=
  ⟨#[], 0, hb, ⟨by simp, Go.MapKept.stamped_empty 0, by simp⟩, Nat.le_refl _, rfl⟩
theorem insZ_ex {W : World} {b : Nat} (hb : W.heap[b]? = some (.map #[] 0)) : ∃ w', (Instr.mapUpdate 87 (.map (some b)) (.agg #[.int .i64 0, .int .i64 0, .int .i64 0, .int .i64 0]) (.bool true)).run Try.prog W = .ok () w' ∧
    (∀ l, keyOf Try.prog 86 (.agg #[.int .i64 0, .int .i64 0, .int .i64 0, .int .i64 0]) = some l → w'.ownsMap Try.prog 86 (plainElem (H := Unit) Try.prog 4) b 1 ((DataW.map []).put l (.lit (.bool true)))) ∧ W.grownBy w' (some b) ∧ w'.heap.size = W.heap.size := by
  obtain ⟨l, hl⟩ := keyZ
  obtain ⟨w', h1, h2, h3⟩ := World.ownsMap.update (H := Unit) (R := plainElem Try.prog 4) (ownsMap_empty hb) keyedS Try.underlying87 (by unfold maxLen; omega) hl (plainElem_bool Try.underlying4 true)
  have h4 : w'.heap.size = W.heap.size := by
    obtain ⟨es', clock', hrun, _⟩ := Maps.fit_store (H := Unit) (R := plainElem Try.prog 4) (R' := plainElem Try.prog 4) keyedS Try.underlying87 hb ⟨by simp, Go.MapKept.stamped_empty 0, by simp⟩ (by simp [maxLen]) (fun _ _ _ _ hz => hz) hl (plainElem_bool Try.underlying4 true)
    have h5 := h1.symm.trans hrun
    rw [(Result.ok.inj h5).2]
    simp [Go.ChangeMaps.setBlock]
  refine ⟨w', h1, fun l' hl' => ?_, h3, h4⟩
  rw [hl] at hl'
  cases hl'
  exact h2
noncomputable def insZ (W : World) (b : Nat) : World := by
  classical
  exact if hb : W.heap[b]? = some (.map #[] 0) then Classical.choose (insZ_ex hb) else W
theorem insZ_run (W : World) (b : Nat) (hb : W.heap[b]? = some (.map #[] 0)) : (Instr.mapUpdate 87 (.map (some b)) (.agg #[.int .i64 0, .int .i64 0, .int .i64 0, .int .i64 0]) (.bool true)).run Try.prog W = .ok () (insZ W b) := by
  unfold insZ
  rw [dif_pos hb]
  exact (Classical.choose_spec (insZ_ex hb)).1
theorem insZ_grown (W : World) (b : Nat) : W.grownBy (insZ W b) (some b) := by
  unfold insZ
  by_cases hb : W.heap[b]? = some (.map #[] 0)
  · rw [dif_pos hb]; exact (Classical.choose_spec (insZ_ex hb)).2.2.1
  · rw [dif_neg hb]; exact ⟨rfl, rfl, rfl, Nat.le_refl _, fun _ _ _ => rfl⟩
theorem insZ_size (W : World) (b : Nat) : (insZ W b).heap.size = W.heap.size := by
  unfold insZ
  by_cases hb : W.heap[b]? = some (.map #[] 0)
  · rw [dif_pos hb]; exact (Classical.choose_spec (insZ_ex hb)).2.2.2
  · rw [dif_neg hb]
theorem Ow.insZ {W : World} {b lo sz n : Nat} {e : TypeId} {v : Value} {cs : List Value} (h : Ow W lo e sz v n cs) : Ow (insZ W b) lo e sz v n cs := by
  by_cases hb : W.heap[b]? = some (.map #[] 0)
  · refine h.kept (insZ_grown W b) (.inr fun he => ?_)
    have hm : MapB [] W b 0 (fun _ => none) := ⟨.map [], ownsMap_empty hb, fun s _ => ⟨rfl, rfl⟩⟩
    exact hm.ne_row h he.symm
  · unfold Proofs.Ytegabdhmfemgkaa.insZ; rw [dif_neg hb]; exact h
theorem below_insZ {B b : Nat} {w W : World} (h : Below B w W) (hB : B ≤ W.heap.size) (hb : B ≤ b) : Below B w (insZ W b) := h.grown (insZ_grown W b) hB (fun k hk => by cases hk; exact hb)
theorem mapB_insZ {ls : List Nat} (h5 : ∀ l ∈ ls, l ≤ 5) (h4 : ls.length ≤ 4) {W : World} {b : Nat} (hb : W.heap[b]? = some (.map #[] 0)) : MapB ls (insZ W b) b 1 (putS (fun _ => none) (zeroS ls.length) true) := by
  have hz : stV (zeroS ls.length) = .agg #[.int .i64 0, .int .i64 0, .int .i64 0, .int .i64 0] := by unfold stV; simp [plc_zero]
  have hgd := good_zero ls
  have hown : (insZ W b).ownsMap Try.prog 86 (plainElem (H := Unit) Try.prog 4) b 1 ((DataW.map []).put (keyS (zeroS ls.length)) (.lit (.bool true))) := by
    unfold insZ
    rw [dif_pos hb]
    refine (Classical.choose_spec (insZ_ex hb)).2.1 _ ?_
    rw [← hz]
    exact keyS_of h5 hgd
  refine ⟨_, hown, fun t ht => ?_⟩
  have hE : Maps.IsMap (DataW.map (H := Unit) []) := (ownsMap_empty (P := Try.prog) (k := 86) (R := plainElem (H := Unit) Try.prog 4) hb).isMap
  unfold putS
  by_cases e : t = zeroS ls.length
  · subst e
    rw [if_pos rfl]
    have hk := keyS_of h5 ht
    generalize keyS (zeroS ls.length) = kl at hk ⊢
    exact ⟨Maps.has_put_same hE (isKey keyedS hk) _, Maps.atKey_put_same hE (isKey keyedS hk) _ _⟩
  · rw [if_neg e]
    have hne : keyS t ≠ keyS (zeroS ls.length) := fun he => e (keyS_inj h5 h4 ht hgd he)
    rw [Maps.has_put_other hne, Maps.atKey_put_other hne]
    exact ⟨rfl, rfl⟩
theorem heap_new (W : World) (x : Obj) (n : Nat) (h : n = W.heap.size) : (W.alloc x).heap[n]? = some x := by subst h; exact (MapKept.heap_alloc W x).1
theorem heap_old (W : World) (x y : Obj) (n : Nat) (h : W.heap[n]? = some y) : (W.alloc x).heap[n]? = some y := by
  exact ((MapKept.heap_alloc W x).2 n (Array.getElem?_eq_some_iff.1 h).1).trans h
theorem Ow.made (W : World) {lo sz : Nat} (e : TypeId) (cur : Array Value) (n k : Nat) (hn : n = W.heap.size) (hlo : lo ≤ W.heap.size) (hk : k ≤ 1048576) (hs : cur.size = k * sz) : Ow (W.alloc (.cells cur e)) lo e sz (.slice (some ⟨n, 0, none⟩) k k) k cur.toList := by
  subst hn
  refine ⟨⟨by simp [hs], .inr ⟨W.heap.size, k, cur, rfl, hlo, (MapKept.heap_alloc W _).1, Nat.le_refl _, by unfold maxLen; omega, hs, ?_⟩⟩, by omega⟩
  exact List.take_of_length_le (by simp [hs])
theorem Ow.drew {W : World} {lo sz n : Nat} {e : TypeId} {v : Value} {cs : List Value} (h : Ow W lo e sz v n cs) : Ow W.drew lo e sz v n cs := ⟨h.own, h.le⟩
end Go.Proofs.Ytegabdhmfemgkaa
