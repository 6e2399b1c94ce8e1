/-
A [][]int64 of the call's own stays while other rows are marked. Condition: they share no block.
-/
import Derived.Test.YtlgeddbgbcineaaMarkII
namespace Go.Proofs.Ytlgeddbgbcineaa
open Go.RowKit
set_option linter.unusedVariables false

/-- a slice of slices made later than another row shares no block with it -/
structure ApartII (v : Value) (us : List Value) (u : Value) : Prop where
  outer : Sep v u
  rows : ∀ (i : Nat) (h : i < us.length), Sep us[i] u
theorem ApartII.new {w w1 : World} {lo lo' sz n : Nat} {e : TypeId} {va v : Value} {cs us : List Value} {xss : List (List Int)} (a : Ow w lo e sz va n cs) (h : OwII w1 lo' v us xss) (hlo : w.heap.size ≤ lo') : ApartII v us va :=
  ⟨Ow.sep_new' a h.outer hlo, fun i hi => Ow.sep_new' a (h.row i hi (by have := h.outer.len; simp at this; omega)) hlo⟩
theorem OwII.keptG {w w' : World} {lo : Nat} {v u : Value} {us : List Value} {xss : List (List Int)} (h : OwII w lo v us xss) (hg : w.grownBy w' u.ownBlock) (ha : ApartII v us u) : OwII w' lo v us xss :=
  ⟨h.outer.keptS hg ha.outer, fun i h1 h2 => (h.row i h1 h2).keptS hg (ha.rows i h1), h.apart⟩
structure ApartIIII (v : Value) (us us0 : List Value) : Prop where
  outer : ∀ (i : Nat) (h : i < us0.length), Sep v us0[i]
  rows : ∀ (j : Nat) (hj : j < us.length) (i : Nat) (h : i < us0.length), Sep us[j] us0[i]
theorem ApartIIII.new {w w1 : World} {lo lo' : Nat} {v0 v : Value} {us0 us : List Value} {xss0 xss : List (List Int)} (a : OwII w lo v0 us0 xss0) (h : OwII w1 lo' v us xss) (hlo : w.heap.size ≤ lo') : ApartIIII v us us0 :=
  ⟨OwII.sepR a h.outer hlo, fun j hj => OwII.sepR a (h.row j hj (by have := h.outer.len; simp at this; omega)) hlo⟩
theorem OwII.keptM {w w' : World} {lo : Nat} {v : Value} {us us0 : List Value} {xss : List (List Int)} (h : OwII w lo v us xss)
    (mk : ∀ (lo2 sz2 m : Nat) (e2 : TypeId) (vd : Value) (ds : List Value), Ow w lo2 e2 sz2 vd m ds → (∀ (i : Nat) (h : i < us0.length), Sep vd us0[i]) → Ow w' lo2 e2 sz2 vd m ds) (ha : ApartIIII v us us0) : OwII w' lo v us xss :=
  ⟨mk _ _ _ _ _ _ h.outer ha.outer, fun i h1 h2 => mk _ _ _ _ _ _ (h.row i h1 h2) (ha.rows i h1), h.apart⟩
end Go.Proofs.Ytlgeddbgbcineaa
