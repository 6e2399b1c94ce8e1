/-
All states that the program reaches: what the call holds on its way, and how each step keeps it. No condition beyond the premises.
-/
import Derived.Test.YtegabdhmfemgkaaPolU
namespace Go.Proofs.Ytegabdhmfemgkaa
open Go.RowKit
set_option linter.unusedVariables false

def stC (s : List Int) : List Value := [.int .i64 (plc s 0), .int .i64 (plc s 1), .int .i64 (plc s 2), .int .i64 (plc s 3)]
theorem stC_len (s : List Int) : (stC s).length = 4 := rfl
theorem stC_get (s : List Int) {j : Nat} (hj : j < 4) : (stC s)[j]? = some (.int .i64 (plc s j)) := by
  match j, hj with
  | 0, _ => rfl
  | 1, _ => rfl
  | 2, _ => rfl
  | 3, _ => rfl
  | j + 4, hj => omega
theorem infoHS : (Try.prog.info? 86).map (fun i => (i.zero, i.size, i.bytes)) = some (some (.agg #[.int .i64 0, .int .i64 0, .int .i64 0, .int .i64 0]), 4, 32) := by kernel_rfl
theorem infoSI : (Try.prog.info? 31).map (fun i => (i.zero, i.size, i.bytes)) = some (some (.slice none 0 0), 1, 24) := by kernel_rfl
/-- the states and the lists of moves that a call has gathered -/
structure RchC (ls : List Nat) (w : World) (x y : Value) (mo : Int) (A4 : Option Addr) (n4 c4 : Nat) (sts : List (List Int)) (A5 : Option Addr) (n5 c5 : Nat) (us : List Value) (pss : List (List Int)) (b n : Nat) (f : List Int → Option Bool) (W : World) : Prop where
  below : Below w.heap.size w W
  tb : Ow W w.heap.size 69 3 (.slice (some ⟨w.heap.size, 0, none⟩) 1 1) 1 [x, y, .int .i64 mo]
  st : Ow W w.heap.size 86 4 (.slice A4 n4 c4) n4 (sts.flatMap stC)
  li : Ow W w.heap.size 31 1 (.slice A5 n5 c5) n5 us
  rows : ∀ (i : Nat) (h : i < us.length) (h' : i < pss.length), OwI W w.heap.size us[i] pss[i]
  mp : MapB ls W b n f
section
variable {ls : List Nat} {w W W' : World} {x y : Value} {mo : Int} {A4 A5 : Option Addr} {n4 c4 n5 c5 b n : Nat} {sts pss : List (List Int)} {us : List Value} {f : List Int → Option Bool}
theorem RchC.ex (h : RchC ls w x y mo A4 n4 c4 sts A5 n5 c5 us pss b n f W) (hb : Below W.heap.size W W') : RchC ls w x y mo A4 n4 c4 sts A5 n5 c5 us pss b n f W' :=
  ⟨below_next h.below h.below.size hb, h.tb.ex hb, h.st.ex hb, h.li.ex hb, fun i h1 h2 => (h.rows i h1 h2).ex hb, h.mp.ex hb⟩
theorem RchC.stApp (h : RchC ls w x y mo A4 n4 c4 sts A5 n5 c5 us pss b n f W) {g' c' : Nat} {s : List Int} (ho : Ow W' w.heap.size 86 4 (.slice (some ⟨g', 0, none⟩) (n4 + 1) c') (n4 + 1) (sts.flatMap stC ++ stC s)) (hg : W.grownBy W' (Value.slice A4 n4 c4).ownBlock) :
    RchC ls w x y mo (some ⟨g', 0, none⟩) (n4 + 1) c' (sts ++ [s]) A5 n5 c5 us pss b n f W' :=
  ⟨below_own h.below h.st hg h.below.size (Nat.le_refl _), h.tb.keptS hg (Ow.sep_type h.tb h.st (by decide)), by simpa using ho, h.li.keptS hg (Ow.sep_type h.li h.st (by decide)), fun i h1 h2 => (h.rows i h1 h2).keptS hg (Ow.sep_type (h.rows i h1 h2) h.st (by decide)), h.mp.kept hg (h.mp.ne_row h.st)⟩
theorem RchC.liApp (h : RchC ls w x y mo A4 n4 c4 sts A5 n5 c5 us pss b n f W) (hl : us.length = pss.length) {g' c' : Nat} {v : Value} {p : List Int} (hv : OwI W w.heap.size v p) (ho : Ow W' w.heap.size 31 1 (.slice (some ⟨g', 0, none⟩) (n5 + 1) c') (n5 + 1) (us ++ [v])) (hg : W.grownBy W' (Value.slice A5 n5 c5).ownBlock) :
    RchC ls w x y mo A4 n4 c4 sts (some ⟨g', 0, none⟩) (n5 + 1) c' (us ++ [v]) (pss ++ [p]) b n f W' :=
  ⟨below_own h.below h.li hg h.below.size (Nat.le_refl _), h.tb.keptS hg (Ow.sep_type h.tb h.li (by decide)), h.st.keptS hg (Ow.sep_type h.st h.li (by decide)), ho, fun i h1 h2 => by
    by_cases hi : i < us.length
    · rw [List.getElem_append_left hi, List.getElem_append_left (by omega)]
      exact (h.rows i hi (by omega)).keptS hg (Ow.sep_type (h.rows i hi (by omega)) h.li (by decide))
    · have e : i = us.length := by simp at h1; omega
      subst e
      have e1 : (us ++ [v])[us.length]'h1 = v := by simp
      have e2 : (pss ++ [p])[us.length]'h2 = p := by simp [hl]
      rw [e1, e2]
      exact OwI.keptS (u := .slice A5 n5 c5) hv hg (Ow.sep_type hv h.li (by decide)), h.mp.kept hg (h.mp.ne_row h.li)⟩
theorem RchC.put (h : RchC ls w x y mo A4 n4 c4 sts A5 n5 c5 us pss b n f W) (hb : w.heap.size ≤ b) {n' : Nat} {f' : List Int → Option Bool} (hm : MapB ls W' b n' f') (hg : W.grownBy W' (some b)) : RchC ls w x y mo A4 n4 c4 sts A5 n5 c5 us pss b n' f' W' :=
  ⟨h.below.grown hg h.below.size (fun k hk => by cases hk; exact hb), h.tb.kept hg (.inr (Ne.symm (h.mp.ne_row h.tb))), h.st.kept hg (.inr (Ne.symm (h.mp.ne_row h.st))), h.li.kept hg (.inr (Ne.symm (h.mp.ne_row h.li))), fun i h1 h2 => Ow.kept (h.rows i h1 h2) hg (.inr (Ne.symm (h.mp.ne_row (h.rows i h1 h2)))), hm⟩
theorem RchC.sc (h : RchC ls w x y mo A4 n4 c4 sts A5 n5 c5 us pss b n f W) {i : Nat} (hi : i < sts.length) : ∃ g4, A4 = some ⟨g4, 0, none⟩ ∧ sts.length = n4 ∧ ∀ j, j < 4 → W.cell? ⟨g4, i * 4 + j, none⟩ = some (.int .i64 (plc sts[i] j)) := by
  have hlen := h.st.len
  rw [flat_len stC 4 stC_len] at hlen
  have hn : sts.length = n4 := by omega
  rcases Ow.form h.st with ⟨_, h0, _⟩ | ⟨g, c, hA, _, _, hl⟩
  · omega
  injection hA with hA hn9 hc
  subst hA hc
  refine ⟨g, rfl, hn, fun j hj => ?_⟩
  have hfl := flat_len stC 4 stC_len sts
  have h1 := Ow.cell h.st (k := i * 4 + j) (by rw [hfl]; omega)
  rw [h1]
  have h2 := flat_get stC 4 stC_len sts i hi j hj
  rw [stC_get _ hj, List.getElem?_eq_getElem (by rw [hfl]; omega)] at h2
  exact h2
theorem RchC.lc (h : RchC ls w x y mo A4 n4 c4 sts A5 n5 c5 us pss b n f W) {i : Nat} (hi : i < us.length) : ∃ g5, A5 = some ⟨g5, 0, none⟩ ∧ W.cell? ⟨g5, i, none⟩ = some us[i] := by
  have hlen := h.li.len
  rcases Ow.form h.li with ⟨_, h0, _⟩ | ⟨g, c, hA, _, _, hl⟩
  · omega
  injection hA with hA hn9 hc
  subst hA hc
  exact ⟨g, rfl, Ow.cell h.li hi⟩
end
end Go.Proofs.Ytegabdhmfemgkaa
