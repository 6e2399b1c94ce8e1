/-
Maps from states to bools that a call makes: what stands where. Condition: the states are good ones of one sort.
-/
import Derived.Test.YtegabdhmfemgkaaPolN
import Derived.Test.YtegabdhmfemgkaaLaw
import Derived.Maps.OwnSet
import Derived.Maps.OwnOps
import Derived.Maps.Views
import Derived.DeepKeys4
import Derived.WideKeyPair
namespace Go.Proofs.Ytegabdhmfemgkaa
open Go.RowKit
set_option linter.unusedVariables false

theorem arrS : WideMaps.ArrKey Try.prog 86 2 4 := ⟨Try.underlying86, by kernel_rfl, by kernel_rfl, by kernel_rfl⟩
theorem wideS : (match Try.prog.underlying 86 with | some (.array _ _) | some (.struct _) => true | _ => false) = true := by rw [Try.underlying86]
set_option maxRecDepth 100000 in
theorem keyedS : Maps.Keyed Try.prog 86 := Maps.Keyed.of_law (deep_law_laid laidOut (m := 2) (by omega) (of_decide_eq_true (by kernel_rfl)) (by kernel_rfl) wideS)
theorem zeroB (w : World) : (zeroValue 4).run Try.prog w = .ok (.bool false) w := by kernel_rfl
theorem keyOf_four {P : Program} {k e : TypeId} {q : IntKind} (A : WideMaps.ArrKey P k e 4) (he : P.underlying e = some (.int q)) (hsz : ∃ m, P.types.size = m + 1) {a b c d : Int} (wa : (Lit.int q a).wf = true) (wb : (Lit.int q b).wf = true) (wc : (Lit.int q c).wf = true) (wd : (Lit.int q d).wf = true) :
    ∃ l, keyOf P k (.agg #[.int q a, .int q b, .int q c, .int q d]) = some l := by
  have hkt := A.keyType hsz
  obtain ⟨m, hm⟩ := hsz
  unfold keyOf
  simp only [A.hu]
  rw [if_pos (by simp [hkt, Value.formed, A.hu, A.size]), hm]
  unfold Program.keyLits
  simp only [A.hu, Value.cells]
  rw [if_pos (by rw [A.size]; rfl), show List.range 4 = [0, 1, 2, 3] from rfl, List.mapM_cons, List.mapM_cons, List.mapM_cons, List.mapM_cons, List.mapM_nil]
  simp [A.one, Program.keyLits, he, wa, wb, wc, wd]

set_option maxRecDepth 100000 in
theorem sizeS : ∃ m, Try.prog.types.size = m + 1 := ⟨Try.prog.types.size - 1, by have : 0 < Try.prog.types.size := of_decide_eq_true (by kernel_rfl); omega⟩
theorem plc_wf {x : Int} (h : 0 ≤ x ∧ x ≤ 6) : (Lit.int .i64 x).wf = true := WalkArith.wf_i64 (by omega)
theorem key_some {ls : List Nat} (h5 : ∀ l ∈ ls, l ≤ 5) {s : List Int} (h : Good ls s) : ∃ l, keyOf Try.prog 86 (stV s) = some l := by
  have hb : ∀ k, (Lit.int .i64 (plc s k)).wf = true := fun k => by
    by_cases hk : k < s.length
    · exact plc_wf (h.le6 h5 k hk)
    · have : plc s k = 0 := by simp [plc, List.getD_eq_getElem?_getD, List.getElem?_eq_none (show s.length ≤ k by omega)]
      rw [this]; exact plc_wf (by omega)
  exact keyOf_four arrS Try.underlying2 sizeS (hb 0) (hb 1) (hb 2) (hb 3)
theorem isKey {P : Program} {k : TypeId} (K : Maps.Keyed P k) {v : Value} {l : Lit} (h : keyOf P k v = some l) : WideAt.IsKeyLit l := K.key h
/-- the key that a state reads as -/
noncomputable def keyS (s : List Int) : Lit := (keyOf Try.prog 86 (stV s)).getD (.bool true)
theorem keyS_of {ls : List Nat} (h5 : ∀ l ∈ ls, l ≤ 5) {s : List Int} (h : Good ls s) : keyOf Try.prog 86 (stV s) = some (keyS s) := by
  obtain ⟨l, hl⟩ := key_some h5 h
  unfold keyS; rw [hl]; rfl
theorem stV_inj {ls : List Nat} (h4 : ls.length ≤ 4) {s t : List Int} (h : Good ls s) (h' : Good ls t) (he : stV s = stV t) : s = t := by
  unfold stV at he
  simp only [Value.agg.injEq, Array.mk.injEq, List.cons.injEq, Value.int.injEq, true_and, and_true] at he
  obtain ⟨e0, e1, e2, e3⟩ := he
  have hl : s.length = t.length := h.1.trans h'.1.symm
  apply List.ext_getElem hl
  intro i h1 h2
  have h3 : plc s i = plc t i := by
    have := h.1
    match i, h1 with
    | 0, _ => exact e0
    | 1, _ => exact e1
    | 2, _ => exact e2
    | 3, _ => exact e3
    | n + 4, hn => omega
  simpa [plc, List.getD_eq_getElem?_getD, h1, h2] using h3
theorem keyS_inj {ls : List Nat} (h5 : ∀ l ∈ ls, l ≤ 5) (h4 : ls.length ≤ 4) {s t : List Int} (h : Good ls s) (h' : Good ls t) (he : keyS s = keyS t) : s = t :=
  stV_inj h4 h h' (keyedS.inj (keyS_of h5 h) (by rw [he]; exact keyS_of h5 h'))

/-- block b is a map of at most n entries; what it holds at the good states -/
def MapB (ls : List Nat) (w : World) (b n : Nat) (f : List Int → Option Bool) : Prop :=
  ∃ D : DataW Unit, w.ownsMap Try.prog 86 (plainElem Try.prog 4) b n D ∧ ∀ s, Good ls s → Maps.has D (keyS s) = (f s).isSome ∧ D.atKey (keyS s) (.lit (.bool false)) = .lit (.bool ((f s).getD false))
section
variable {ls : List Nat} {w w' : World} {b n : Nat} {f : List Int → Option Bool}
theorem mapB_made (ls : List Nat) (w : World) : MapB ls (w.alloc (.map #[] 0)) w.heap.size 0 (fun _ => none) :=
  ⟨.map [], World.ownsMap_made w _ _ _, fun s _ => ⟨rfl, rfl⟩⟩
theorem MapB.lt (h : MapB ls w b n f) : b < w.heap.size := by obtain ⟨D, h1, _⟩ := h; exact h1.lt
theorem MapB.kept {row : Option Nat} (h : MapB ls w b n f) (hg : w.grownBy w' row) (hne : some b ≠ row) : MapB ls w' b n f := by
  obtain ⟨D, h1, h2⟩ := h
  exact ⟨D, h1.kept hg hne, h2⟩
theorem MapB.ex (h : MapB ls w b n f) (hb : Below w.heap.size w w') : MapB ls w' b n f := h.kept (below_gn hb) (by simp)
theorem MapB.mono (h : MapB ls w b n f) {n' : Nat} (hn : n ≤ n') : MapB ls w b n' f := by
  obtain ⟨D, h1, h2⟩ := h
  exact ⟨D, h1.mono hn, h2⟩
theorem MapB.congr {f' : List Int → Option Bool} (h : MapB ls w b n f) (he : ∀ s, Good ls s → f s = f' s) : MapB ls w b n f' := by
  obtain ⟨D, h1, h2⟩ := h
  exact ⟨D, h1, fun s hs => by rw [← he s hs]; exact h2 s hs⟩
end
theorem plainElem_bool_inv {H : Type} {P : Program} {e : TypeId} (he : P.underlying e = some .bool) {v : Value} {z : DataW H × List MemPlace} (h : plainElem P e v = some z) : ∃ a, v = .bool a ∧ z = (.lit (.bool a), []) := by
  unfold plainElem at h
  rw [he] at h
  cases v <;> simp at h
  rename_i a
  exact ⟨a, rfl, h.symm⟩
/-- m[k] -/
theorem wpList_lookB {ls : List Nat} (h5 : ∀ l ∈ ls, l ≤ 5) (w : World) {ops : Array Oper} {rest : List Oper} {o : Oper} {a : Act} {Q : Exit → Act → World → Prop}
    (hg : o.guard = none) (m x : Operand) (hop : o.op = Op.lookup 87 m x false) (b n : Nat) (f : List Int → Option Bool) (s : List Int) (hm : a.eval m = .map (some b)) (hown : MapB ls w b n f) (hs : Good ls s) (hx : a.eval x = stV s)
    (hK : wpList Try.prog ops Q rest (a.put o.dst (.bool ((f s).getD false))) w) : wpList Try.prog ops Q (o :: rest) a w := by
  refine wpList_plain hg fun K' hK' => ?_
  obtain ⟨D, h1, h2⟩ := hown
  obtain ⟨v, ps, hrun, hv⟩ := h1.lookup keyedS Try.underlying87 (zeroB w) (plainElem_bool Try.underlying4 false) (keyS_of h5 hs)
  obtain ⟨c, rfl, hc⟩ := plainElem_bool_inv Try.underlying4 hv
  rw [(h2 s hs).2] at hc
  obtain rfl : (f s).getD false = c := by simpa using congrArg Prod.fst hc
  unfold Oper.wp
  simp [execOp, hop, hm, hx, hrun, Result.andThen]
  exact hK' _ _ hK
/-- v, ok := m[k] -/
theorem wpList_lookOkB {ls : List Nat} (h5 : ∀ l ∈ ls, l ≤ 5) (w : World) {ops : Array Oper} {rest : List Oper} {o : Oper} {a : Act} {Q : Exit → Act → World → Prop}
    (hg : o.guard = none) (m x : Operand) (hop : o.op = Op.lookup 87 m x true) (b n : Nat) (f : List Int → Option Bool) (s : List Int) (hm : a.eval m = .map (some b)) (hown : MapB ls w b n f) (hs : Good ls s) (hx : a.eval x = stV s)
    (hK : wpList Try.prog ops Q rest (a.put o.dst (.tuple #[.bool ((f s).getD false), .bool (f s).isSome])) w) : wpList Try.prog ops Q (o :: rest) a w := by
  refine wpList_plain hg fun K' hK' => ?_
  obtain ⟨D, h1, h2⟩ := hown
  obtain ⟨v, ps, hrun, hv⟩ := h1.look_ok keyedS Try.underlying87 (zeroB w) (plainElem_bool Try.underlying4 false) (keyS_of h5 hs)
  obtain ⟨c, rfl, hc⟩ := plainElem_bool_inv Try.underlying4 hv
  rw [(h2 s hs).2] at hc
  obtain rfl : (f s).getD false = c := by simpa using congrArg Prod.fst hc
  rw [(h2 s hs).1] at hrun
  unfold Oper.wp
  simp [execOp, hop, hm, hx, hrun, Result.andThen]
  exact hK' _ _ hK
def putS (f : List Int → Option Bool) (s : List Int) (v : Bool) : List Int → Option Bool := fun t => if t = s then some v else f t
/-- m[k] = v -/
theorem wpList_putB {ls : List Nat} (h5 : ∀ l ∈ ls, l ≤ 5) (h4 : ls.length ≤ 4) (w : World) {ops : Array Oper} {rest : List Oper} {o : Oper} {a : Act} {Q : Exit → Act → World → Prop}
    (hg : o.guard = none) (m x v : Operand) (hop : o.op = Op.mapUpdate 87 m x v) (b n : Nat) (f : List Int → Option Bool) (s : List Int) (y : Bool) (hm : a.eval m = .map (some b)) (hown : MapB ls w b n f) (hn : n ≤ 4611686018427387904) (hs : Good ls s) (hx : a.eval x = stV s) (hv : a.eval v = .bool y)
    (hK : ∀ w', MapB ls w' b (n + 1) (putS f s y) → w.grownBy w' (some b) → wpList Try.prog ops Q rest (a.put o.dst undef) w') : wpList Try.prog ops Q (o :: rest) a w := by
  obtain ⟨D, h1, h2⟩ := hown
  refine wpList_mapUpdate_own w hg m x v 87 hop 86 4 keyedS Try.underlying87 (plainElem Try.prog 4) b n D hm h1 (by unfold maxLen; omega) _ _ _ hx hv (keyS_of h5 hs) _ _ (plainElem_bool Try.underlying4 y) ?_
  intro w' h1' hg'
  refine hK w' ⟨_, h1', fun t ht => ?_⟩ hg'
  unfold putS
  by_cases e : t = s
  · subst e
    rw [if_pos rfl]
    have hk := keyS_of h5 ht
    generalize keyS t = kl at hk ⊢
    exact ⟨Maps.has_put_same h1.isMap (isKey keyedS hk) _, Maps.atKey_put_same h1.isMap (isKey keyedS hk) _ _⟩
  · rw [if_neg e]
    have hne : keyS t ≠ keyS s := fun he => e (keyS_inj h5 h4 ht hs he)
    rw [Maps.has_put_other hne, Maps.atKey_put_other hne]
    exact h2 t ht
end Go.Proofs.Ytegabdhmfemgkaa
