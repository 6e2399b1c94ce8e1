/-
SafeRun of the program. Condition: the slices read as lists.
-/
import Derived.Test.YtegabdhmfemgkaaPolT
import Derived.Test.YtegabdhmfemgkaaStepI
namespace Go.Proofs.Ytegabdhmfemgkaa
open Go.RowKit
set_option linter.unusedVariables false

/-- what a run holds: the boxes of carriers and of the state, what is known, the moves so far -/
structure RunB (ls : List Nat) (w : World) (x y : Value) (mo : Int) (gt gs b n : Nat) (f : List Int → Option Bool) (st : List Int) (A : Option Addr) (n2 c2 : Nat) (xs : List Int) (W : World) : Prop where
  below : Below w.heap.size w W
  tb : Ow W w.heap.size 69 3 (.slice (some ⟨gt, 0, none⟩) 1 1) 1 [x, y, .int .i64 mo]
  sb : Ow W w.heap.size 86 4 (.slice (some ⟨gs, 0, none⟩) 1 1) 1 [.int .i64 (plc st 0), .int .i64 (plc st 1), .int .i64 (plc st 2), .int .i64 (plc st 3)]
  mp : MapB ls W b n f
  out : Ow W w.heap.size 2 1 (.slice A n2 c2) n2 (xs.map (Value.int .i64))
/-- .. and the first of the moves that are safe -/
structure RunM (ls : List Nat) (w : World) (x y : Value) (mo : Int) (gt gs b n : Nat) (f : List Int → Option Bool) (st : List Int) (gm : Nat) (c0 : Int) (A : Option Addr) (n2 c2 : Nat) (xs : List Int) (W : World) : Prop where
  run : RunB ls w x y mo gt gs b n f st A n2 c2 xs W
  mc : W.cell? ⟨gm, 0, none⟩ = some (.int .i64 c0)
  mne : ∀ g, (Value.slice A n2 c2).ownBlock = some g → g ≠ gm
section
variable {ls : List Nat} {w W W' : World} {x y : Value} {mo c0 : Int} {gt gs b n gm n2 c2 : Nat} {f : List Int → Option Bool} {st xs : List Int} {A : Option Addr}
theorem RunB.ex (h : RunB ls w x y mo gt gs b n f st A n2 c2 xs W) (hb : Below W.heap.size W W') : RunB ls w x y mo gt gs b n f st A n2 c2 xs W' :=
  ⟨below_next h.below h.below.size hb, h.tb.ex hb, h.sb.ex hb, h.mp.ex hb, h.out.ex hb⟩
theorem RunM.ex (h : RunM ls w x y mo gt gs b n f st gm c0 A n2 c2 xs W) (hb : Below W.heap.size W W') : RunM ls w x y mo gt gs b n f st gm c0 A n2 c2 xs W' :=
  ⟨h.run.ex hb, (hb.cell (p := ⟨gm, 0, none⟩) (World.block_lt_of_cell? _ _ h.mc)).trans h.mc, h.mne⟩
theorem MapB.ne_row {lo sz m : Nat} {e : TypeId} {v : Value} {cs : List Value} (h : MapB ls W b n f) (h' : Ow W lo e sz v m cs) : some b ≠ v.ownBlock := by
  obtain ⟨D, ⟨es, clock, hb0, r⟩, h2⟩ := h
  rcases h'.own.2 with ⟨rfl, _⟩ | ⟨g, cap, cur, rfl, _, hh, _⟩
  · simp [Value.ownBlock]
  · simp only [Value.ownBlock, ne_eq, Option.some.injEq]
    rintro rfl
    rw [hb0] at hh; cases hh
theorem RunM.app (h : RunM ls w x y mo gt gs b n f st gm c0 A n2 c2 xs W) {g' c' : Nat} (ho : Ow W' w.heap.size 2 1 (.slice (some ⟨g', 0, none⟩) (n2 + 1) c') (n2 + 1) (xs.map (Value.int .i64) ++ [.int .i64 c0])) (hg : W.grownBy W' (Value.slice A n2 c2).ownBlock) (hor : (Value.slice A n2 c2).ownBlock = some g' ∨ g' = W.heap.size) :
    RunM ls w x y mo gt gs b n f st gm c0 (some ⟨g', 0, none⟩) (n2 + 1) c' (xs ++ [c0]) W' := by
  have hlt := World.block_lt_of_cell? _ _ h.mc
  refine ⟨⟨below_own h.run.below h.run.out hg h.run.below.size (Nat.le_refl _), h.run.tb.keptS hg (Ow.sep_type h.run.tb h.run.out (by decide)), h.run.sb.keptS hg (Ow.sep_type h.run.sb h.run.out (by decide)), h.run.mp.kept hg (h.run.mp.ne_row h.run.out), by simpa using ho⟩, ?_, ?_⟩
  · rw [hg.cell_far ⟨gm, 0, none⟩ hlt (fun he => h.mne gm he.symm rfl)]; exact h.mc
  · intro g hgg
    have e : g' = g := by simpa [Value.ownBlock] using hgg
    subst e
    rcases hor with hor | hor
    · exact h.mne g' hor
    · have : gm < W.heap.size := hlt
      omega
/-- the state is stored anew -/
theorem RunB.store (h : RunB ls w x y mo gt gs b n f st A n2 c2 xs W) (st' : List Int) : RunB ls w x y mo gt gs b n f st' A n2 c2 xs ((((W.setCell ⟨gs, 0, none⟩ (.int .i64 (plc st' 0))).setCell ⟨gs, 1, none⟩ (.int .i64 (plc st' 1))).setCell ⟨gs, 2, none⟩ (.int .i64 (plc st' 2))).setCell ⟨gs, 3, none⟩ (.int .i64 (plc st' 3))) := by
  have h0 := Ow.set h.sb 0 (.int .i64 (plc st' 0))
  have g0 := Ow.grow (k := 0) h.sb (.int .i64 (plc st' 0))
  have h1 := Ow.set h0 1 (.int .i64 (plc st' 1))
  have g1 := Ow.grow (k := 1) h0 (.int .i64 (plc st' 1))
  have h2 := Ow.set h1 2 (.int .i64 (plc st' 2))
  have g2 := Ow.grow (k := 2) h1 (.int .i64 (plc st' 2))
  have h3 := Ow.set h2 3 (.int .i64 (plc st' 3))
  have g3 := Ow.grow (k := 3) h2 (.int .i64 (plc st' 3))
  have hg := grown_trans (grown_trans (grown_trans g0 g1) g2) g3
  have hg' : W.grownBy ((((W.setCell ⟨gs, 0, none⟩ (.int .i64 (plc st' 0))).setCell ⟨gs, 1, none⟩ (.int .i64 (plc st' 1))).setCell ⟨gs, 2, none⟩ (.int .i64 (plc st' 2))).setCell ⟨gs, 3, none⟩ (.int .i64 (plc st' 3))) (Value.slice (some ⟨gs, 0, none⟩) 1 1).ownBlock := hg
  exact ⟨below_own h.below h.sb hg' h.below.size (Nat.le_refl _), h.tb.keptS hg' (Ow.sep_type h.tb h.sb (by decide)), by simpa using h3, h.mp.kept hg' (h.mp.ne_row h.sb), h.out.keptS hg' (Ow.sep_type h.out h.sb (by decide))⟩
theorem RunB.sc (h : RunB ls w x y mo gt gs b n f st A n2 c2 xs W) (k : Nat) (hk : k < 4) : W.cell? ⟨gs, k, none⟩ = some (.int .i64 (plc st k)) := by
  match k, hk with
  | 0, _ => exact Ow.cell h.sb (k := 0) (by simp)
  | 1, _ => exact Ow.cell h.sb (k := 1) (by simp)
  | 2, _ => exact Ow.cell h.sb (k := 2) (by simp)
  | 3, _ => exact Ow.cell h.sb (k := 3) (by simp)
  | k + 4, hk => omega
end
theorem plc_zero (n k : Nat) : plc (zeroS n) k = 0 := by
  unfold plc zeroS
  simp only [List.getD_eq_getElem?_getD, List.getElem?_replicate]
  split <;> rfl
end Go.Proofs.Ytegabdhmfemgkaa
