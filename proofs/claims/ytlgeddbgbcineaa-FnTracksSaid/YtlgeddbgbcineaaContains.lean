/-
slices.IndexFunc and slices.ContainsFunc at the element types of this seat, for whatever predicate: the first index, whether there is one. Condition: the function value answers each element and only makes new memory.
-/
import Derived.Test.YtlgeddbgbcineaaBase
import Derived.Deep.LoopGhost
import Derived.Shelf.Abstract
namespace Go.Proofs.Ytlgeddbgbcineaa
open Go.RowKit
set_option linter.unusedVariables false

/-- the first number below n for which p says yes, -1 if there is none -/
def firstN (p : Nat → Bool) (n : Nat) : Int := match (List.range n).find? p with | some k => (k : Int) | none => -1
def anyN (p : Nat → Bool) (n : Nat) : Bool := (List.range n).any p
theorem anyN_iff {p : Nat → Bool} {n : Nat} : anyN p n = true ↔ ∃ k, k < n ∧ p k = true := by unfold anyN; simp
theorem anyN_false {p : Nat → Bool} {n : Nat} : anyN p n = false ↔ ∀ k, k < n → p k = false := by unfold anyN; simp
theorem anyN_congr {p q : Nat → Bool} {n : Nat} (h : ∀ k, k < n → p k = q k) : anyN p n = anyN q n := by
  cases hq : anyN q n with
  | true => obtain ⟨k, hk, hp⟩ := anyN_iff.1 hq; exact anyN_iff.2 ⟨k, hk, by rw [h k hk]; exact hp⟩
  | false => exact anyN_false.2 fun k hk => by rw [h k hk]; exact anyN_false.1 hq k hk
/-- of a list's elements -/
theorem anyN_list {α : Type} (xs : List α) (q : α → Bool) (p : Nat → Bool) (h : ∀ k (hk : k < xs.length), p k = q xs[k]) : anyN p xs.length = xs.any q := by
  rw [Bool.eq_iff_iff, anyN_iff, List.any_eq_true]
  constructor
  · rintro ⟨k, hk, hp⟩; exact ⟨xs[k], List.getElem_mem hk, by rw [← h k hk]; exact hp⟩
  · rintro ⟨x, hx, hq⟩; obtain ⟨k, hk, rfl⟩ := List.getElem_of_mem hx; exact ⟨k, hk, by rw [h k hk]; exact hq⟩
theorem firstN_hit {p : Nat → Bool} {n k : Nat} (hk : k < n) (hp : p k = true) (h : ∀ j, j < k → p j = false) : firstN p n = (k : Int) := by
  have : (List.range n).find? p = some k := by
    rw [List.find?_eq_some_iff_getElem]
    exact ⟨hp, k, by simpa using hk, by simp, fun j hj => by simp [h j hj]⟩
  unfold firstN; rw [this]
theorem firstN_miss {p : Nat → Bool} {n : Nat} (h : ∀ j, j < n → p j = false) : firstN p n = -1 := by
  have : (List.range n).find? p = none := by
    rw [List.find?_eq_none]; intro x hx; simp [h x (by simpa using hx)]
  unfold firstN; rw [this]
theorem firstN_nonneg (p : Nat → Bool) (n : Nat) : decide (0 ≤ firstN p n) = anyN p n := by
  cases ha : anyN p n with
  | false => rw [firstN_miss (anyN_false.1 ha)]; rfl
  | true =>
    obtain ⟨k, hk, hp⟩ := anyN_iff.1 ha
    have : ∃ m, (List.range n).find? p = some m := by
      rw [← Option.isSome_iff_exists, List.find?_isSome]; exact ⟨k, by simpa using hk, hp⟩
    obtain ⟨m, hm⟩ := this
    unfold firstN; rw [hm]; simp

set_option maxHeartbeats 1000000 in
theorem idxI_any (g : Nat) (lb : Array Value) (eg : ∀ args w, (callFunc g args).run Try.prog w = .ok (.enter g args) w) (p : Nat → Bool) (v : Value) (n : Nat) (cs : List Value) (w : World) (hv : Sl w 1 v n cs)
    (hp : ∀ k (hk : k < cs.length) W, Below w.heap.size w W → Calls Try.prog g (#[cs[k]] ++ lb) W fun e w' => e = .returned (.bool (p k)) ∧ Below W.heap.size W w') :
    Calls Try.prog 88 #[v, .func (.func g) #[] lb] w fun e w' => e = .returned (.int .i64 (firstN p n)) ∧ Below w.heap.size w w' := by
  obtain ⟨A, c, rfl, hcl, hbig, ha⟩ := hv
  have HL := Lib.hid hcl; clear hcl
  go_enter Try.func88, Try.ntmps88
  go_wp2
  go_loopg [5, 8] n (fun gg _ s8 wr => ∃ kk : Nat, kk ≤ n ∧ n - kk ≤ gg ∧ s8 = .int .i64 kk ∧ Below w.heap.size w wr ∧ Hid (∀ j, j < kk → p j = false))
  case atStart => exact ⟨0, Nat.zero_le _, by omega, rfl, Below.refl _ _, fun j hj => absurd hj (Nat.not_lt_zero _)⟩
  case round =>
    obtain ⟨kk, hkk, hg, rfl, hb, A⟩ := hrel
    by_cases hlt : kk < n
    · have hltz : (kk : Int) < (n : Int) := by omega
      have hlc : kk < cs.length := by have := HL.out; omega
      obtain ⟨b, o, rfl, hbs, hc⟩ := ha.at_ hlc
      have hcell : wr.cell? ⟨b, o + kk, none⟩ = some cs[kk] := (hb.cell (p := ⟨b, o + kk, none⟩) hbs).trans (hc kk hlc)
      have hcall := fun W hW => hp kk hlc W hW
      generalize cs[kk] = y at hcell hcall
      clear hc hp ha
      cases hq : p kk with
      | true =>
        rw [hq] at hcall
        go_wp2_with (go_at_fn g; refine (hcall _ hb).mono ?_; rintro e w1 ⟨rfl, hb1⟩)
        go_ret
        exact ⟨ret_int (firstN_hit hlt hq A.out).symm, below_next hb hb.size hb1⟩
      | false =>
        rw [hq] at hcall
        go_wp2_with (go_at_fn g; refine (hcall _ hb).mono ?_; rintro e w1 ⟨rfl, hb1⟩)
        go_roundg (n - (kk + 1))
        case measure => omega
        case rel =>
          refine ⟨kk + 1, by omega, by omega, by go_num, below_next hb hb.size hb1, (show Hid _ from fun j hj => ?_)⟩
          by_cases e : j = kk
          · subst e; exact hq
          · exact A.out j (by omega)
    · have hltz : ¬ (kk : Int) < (n : Int) := by omega
      have : kk = n := by omega
      subst this
      go_wp2
      go_ret
      exact ⟨ret_int (firstN_miss A.out).symm, hb⟩

theorem conI_any (g : Nat) (lb : Array Value) (eg : ∀ args w, (callFunc g args).run Try.prog w = .ok (.enter g args) w) (p : Nat → Bool) (v : Value) (n : Nat) (cs : List Value) (w : World) (hv : Sl w 1 v n cs)
    (hp : ∀ k (hk : k < cs.length) W, Below w.heap.size w W → Calls Try.prog g (#[cs[k]] ++ lb) W fun e w' => e = .returned (.bool (p k)) ∧ Below W.heap.size W w') :
    Calls Try.prog 77 #[v, .func (.func g) #[] lb] w fun e w' => e = .returned (.bool (anyN p n)) ∧ Below w.heap.size w w' := by
  have H := Lib.hid hp; clear hp
  have he := firstN_nonneg p n
  go_enter Try.func77, Try.ntmps77
  go_wp2_with (go_at_call 88; refine (idxI_any g lb eg p v n cs _ hv H.out).mono ?_; rintro e w1 ⟨rfl, hb1⟩)
  go_ret
  exact ⟨rfl, hb1⟩

set_option maxHeartbeats 1000000 in
theorem idxII_any (g : Nat) (lb : Array Value) (eg : ∀ args w, (callFunc g args).run Try.prog w = .ok (.enter g args) w) (p : Nat → Bool) (v : Value) (n : Nat) (cs : List Value) (w : World) (hv : Sl w 1 v n cs)
    (hp : ∀ k (hk : k < cs.length) W, Below w.heap.size w W → Calls Try.prog g (#[cs[k]] ++ lb) W fun e w' => e = .returned (.bool (p k)) ∧ Below W.heap.size W w') :
    Calls Try.prog 76 #[v, .func (.func g) #[] lb] w fun e w' => e = .returned (.int .i64 (firstN p n)) ∧ Below w.heap.size w w' := by
  obtain ⟨A, c, rfl, hcl, hbig, ha⟩ := hv
  have HL := Lib.hid hcl; clear hcl
  go_enter Try.func76, Try.ntmps76
  go_wp2
  go_loopg [5, 8] n (fun gg _ s8 wr => ∃ kk : Nat, kk ≤ n ∧ n - kk ≤ gg ∧ s8 = .int .i64 kk ∧ Below w.heap.size w wr ∧ Hid (∀ j, j < kk → p j = false))
  case atStart => exact ⟨0, Nat.zero_le _, by omega, rfl, Below.refl _ _, fun j hj => absurd hj (Nat.not_lt_zero _)⟩
  case round =>
    obtain ⟨kk, hkk, hg, rfl, hb, A⟩ := hrel
    by_cases hlt : kk < n
    · have hltz : (kk : Int) < (n : Int) := by omega
      have hlc : kk < cs.length := by have := HL.out; omega
      obtain ⟨b, o, rfl, hbs, hc⟩ := ha.at_ hlc
      have hcell : wr.cell? ⟨b, o + kk, none⟩ = some cs[kk] := (hb.cell (p := ⟨b, o + kk, none⟩) hbs).trans (hc kk hlc)
      have hcall := fun W hW => hp kk hlc W hW
      generalize cs[kk] = y at hcell hcall
      clear hc hp ha
      cases hq : p kk with
      | true =>
        rw [hq] at hcall
        go_wp2_with (go_at_fn g; refine (hcall _ hb).mono ?_; rintro e w1 ⟨rfl, hb1⟩)
        go_ret
        exact ⟨ret_int (firstN_hit hlt hq A.out).symm, below_next hb hb.size hb1⟩
      | false =>
        rw [hq] at hcall
        go_wp2_with (go_at_fn g; refine (hcall _ hb).mono ?_; rintro e w1 ⟨rfl, hb1⟩)
        go_roundg (n - (kk + 1))
        case measure => omega
        case rel =>
          refine ⟨kk + 1, by omega, by omega, by go_num, below_next hb hb.size hb1, (show Hid _ from fun j hj => ?_)⟩
          by_cases e : j = kk
          · subst e; exact hq
          · exact A.out j (by omega)
    · have hltz : ¬ (kk : Int) < (n : Int) := by omega
      have : kk = n := by omega
      subst this
      go_wp2
      go_ret
      exact ⟨ret_int (firstN_miss A.out).symm, hb⟩

theorem conII_any (g : Nat) (lb : Array Value) (eg : ∀ args w, (callFunc g args).run Try.prog w = .ok (.enter g args) w) (p : Nat → Bool) (v : Value) (n : Nat) (cs : List Value) (w : World) (hv : Sl w 1 v n cs)
    (hp : ∀ k (hk : k < cs.length) W, Below w.heap.size w W → Calls Try.prog g (#[cs[k]] ++ lb) W fun e w' => e = .returned (.bool (p k)) ∧ Below W.heap.size W w') :
    Calls Try.prog 52 #[v, .func (.func g) #[] lb] w fun e w' => e = .returned (.bool (anyN p n)) ∧ Below w.heap.size w w' := by
  have H := Lib.hid hp; clear hp
  have he := firstN_nonneg p n
  go_enter Try.func52, Try.ntmps52
  go_wp2_with (go_at_call 76; refine (idxII_any g lb eg p v n cs _ hv H.out).mono ?_; rintro e w1 ⟨rfl, hb1⟩)
  go_ret
  exact ⟨rfl, hb1⟩

end Go.Proofs.Ytlgeddbgbcineaa
