/-
Small laws on memory that the proofs of this seat share: slices that read as lists, rows that the call itself owns, worlds that have only grown. They hold for every program; no condition beyond their own premises.
-/
import Derived.Test.YtlgeddbgbcineaaChecked
import Derived.WalkKit
import Derived.Deep.QuietTactic
import Derived.BigQuiet
import Derived.Lib.Hide
import Derived.Deep.Draws
import Derived.Laws.OwnMore
import Derived.Deep.RegionWith
namespace Go.Proofs.Ytlgeddbgbcineaa
open Go.RowKit
set_option linter.unusedVariables false

theorem ret_bool {a b : Bool} (h : a = b) : Ending.returned (.bool a) = .returned (.bool b) := by rw [h]
theorem ret_int {k : IntKind} {a b : Int} (h : a = b) : Ending.returned (.int k a) = .returned (.int k b) := by rw [h]

/-- cells 'cs' lie from A on, in a block that is there -/
def Cel (w : World) (A : Option Addr) (cs : List Value) : Prop :=
  0 < cs.length → ∃ b o, A = some ⟨b, o, none⟩ ∧ b < w.heap.size ∧ ∀ (k : Nat) (h : k < cs.length), w.cell? ⟨b, o + k, none⟩ = some cs[k]

/-- a slice value of n elements of sz cells each that reads as cs -/
def Sl (w : World) (sz : Nat) (v : Value) (n : Nat) (cs : List Value) : Prop :=
  ∃ A c, v = .slice A n c ∧ cs.length = n * sz ∧ n ≤ 17592186044416 ∧ Cel w A cs

/-- a slice value whose row the call itself made, from block lo on -/
structure Ow (w : World) (lo : Nat) (e : TypeId) (sz : Nat) (v : Value) (n : Nat) (cs : List Value) : Prop where
  own : w.ownsRow lo e sz v n cs
  le : n ≤ 17592186044416

theorem below_gn {w w' : World} (h : Below w.heap.size w w') : w.grownBy w' none := ⟨h.os, h.tape, h.output, h.size, fun k hk _ => h.block k hk⟩
theorem below_drewN {B : Nat} {a w : World} (h : Below B a w) (n : Nat) : Below B a (w.drewN n) := ⟨h.os, h.tape, h.output, h.size, h.block⟩
/-- two steps, the second from whatever world the first left -/
theorem below_next {B : Nat} {a b c : World} (h : Below B a b) (hB : B ≤ b.heap.size) (k : Below b.heap.size b c) : Below B a c := h.trans (k.mono hB)
theorem below_next0 {a b c : World} (h : Below a.heap.size a b) (k : Below b.heap.size b c) : Below a.heap.size a c := h.trans (k.mono h.size)

section
variable {w w' : World} {A : Option Addr} {cs : List Value} {sz n lo hi : Nat} {e : TypeId} {v : Value}
theorem Cel.at_ (h : Cel w A cs) {k : Nat} (hk : k < cs.length) : ∃ b o, A = some ⟨b, o, none⟩ ∧ b < w.heap.size ∧ ∀ (k : Nat) (h : k < cs.length), w.cell? ⟨b, o + k, none⟩ = some cs[k] := h (by omega)
theorem Cel.ex (h : Cel w A cs) (hb : Below w.heap.size w w') : Cel w' A cs := fun h0 => by
  obtain ⟨b, o, hA, hlt, hc⟩ := h h0
  exact ⟨b, o, hA, Nat.lt_of_lt_of_le hlt hb.size, fun k hk => (hb.cell (p := ⟨b, o + k, none⟩) hlt).trans (hc k hk)⟩
theorem Cel.exB {w0 : World} (h : Cel w0 A cs) (hb : Below w0.heap.size w0 w') : Cel w' A cs := h.ex hb
theorem Cel.drewN (h : Cel w A cs) (k : Nat) : Cel (w.drewN k) A cs := h
theorem Sl.ex (h : Sl w sz v n cs) (hb : Below w.heap.size w w') : Sl w' sz v n cs := by
  obtain ⟨A, c, hv, hl, hn, hc⟩ := h
  exact ⟨A, c, hv, hl, hn, hc.ex hb⟩
theorem Sl.drewN (h : Sl w sz v n cs) (k : Nat) : Sl (w.drewN k) sz v n cs := h
theorem Ow.kept {row : Option Nat} (h : Ow w lo e sz v n cs) (hg : w.grownBy w' row) (hne : v.ownBlock = none ∨ v.ownBlock ≠ row) : Ow w' lo e sz v n cs := ⟨h.own.kept hg hne, h.le⟩
theorem Ow.ex (h : Ow w lo e sz v n cs) (hb : Below w.heap.size w w') : Ow w' lo e sz v n cs :=
  ⟨h.own.kept (below_gn hb) (by cases hv : v.ownBlock with | none => exact .inl rfl | some g => exact .inr (by simp)), h.le⟩
theorem Ow.lt (h : Ow w lo e sz v n cs) : ∀ k, v.ownBlock = some k → lo ≤ k ∧ k < w.heap.size := h.own.lt
/-- its shape -/
theorem Ow.form (h : Ow w lo e sz v n cs) : (v = .slice none 0 0 ∧ n = 0 ∧ cs = []) ∨ ∃ g c, v = .slice (some ⟨g, 0, none⟩) n c ∧ lo ≤ g ∧ g < w.heap.size ∧ cs.length = n * sz := by
  obtain ⟨⟨hl, hr⟩, _⟩ := h
  rcases hr with ⟨rfl, h0⟩ | ⟨g, cap, cur, rfl, hlo, hh, _⟩
  · subst h0; exact .inl ⟨rfl, rfl, List.eq_nil_of_length_eq_zero (by simpa using hl)⟩
  · refine .inr ⟨g, cap, rfl, hlo, ?_, hl⟩
    rcases Nat.lt_or_ge g w.heap.size with h | h
    · exact h
    · rw [Array.getElem?_eq_none h] at hh; cases hh
theorem Ow.sl (h : Ow w lo e sz v n cs) : Sl w sz v n cs := by
  rcases h.form with ⟨rfl, rfl, rfl⟩ | ⟨g, c, rfl, hlo, hlt, hl⟩
  · exact ⟨none, 0, rfl, by simp, by omega, fun h => absurd h (by simp)⟩
  · refine ⟨_, c, rfl, hl, h.le, fun _ => ⟨g, 0, rfl, hlt, fun k hk => ?_⟩⟩
    have h2 := h.own.cellAt k (by omega)
    rw [List.getElem?_eq_getElem hk] at h2
    simpa using h2
theorem Ow.mono (h : Ow w lo e sz v n cs) {lo' : Nat} (hlo : lo' ≤ lo) : Ow w lo' e sz v n cs := by
  obtain ⟨⟨hl, hr⟩, hn⟩ := h
  refine ⟨⟨hl, ?_⟩, hn⟩
  rcases hr with h | ⟨g, cap, cur, h1, h2, h3⟩
  · exact .inl h
  · exact .inr ⟨g, cap, cur, h1, Nat.le_trans hlo h2, h3⟩
theorem Ow.cell {g c k : Nat} (h : Ow w lo e sz (.slice (some ⟨g, 0, none⟩) n c) n cs) (hk : k < cs.length) : w.cell? ⟨g, k, none⟩ = some cs[k] := by
  have := h.own.cellAt k (by have := h.own.1; omega)
  rw [this, List.getElem?_eq_getElem hk]
theorem Ow.free {g c : Nat} (h : Ow w lo e sz (.slice (some ⟨g, 0, none⟩) n c) n cs) (k : Nat) : w.frozen? ⟨g, k, none⟩ = false := h.own.frozenAt k
theorem Ow.set {g c : Nat} (h : Ow w lo e sz (.slice (some ⟨g, 0, none⟩) n c) n cs) (k : Nat) (u : Value) : Ow (w.setCell ⟨g, k, none⟩ u) lo e sz (.slice (some ⟨g, 0, none⟩) n c) n (cs.set k u) := ⟨(h.own.stored k u).1, h.le⟩
theorem Ow.drewN (h : Ow w lo e sz v n cs) (k : Nat) : Ow (w.drewN k) lo e sz v n cs := ⟨h.own, h.le⟩
theorem Ow.alloc (h : Ow w lo e sz v n cs) (o : Obj) : Ow (w.alloc o) lo e sz v n cs := ⟨h.own.alloc o, h.le⟩
theorem Ow.len (h : Ow w lo e sz v n cs) : cs.length = n * sz := h.own.1
end

/-- boxes that a call has laid, read in every later world -/
theorem box1 {w W : World} {x : Value} {t : TypeId} (h : Below (w.alloc (.cells #[x] t)).heap.size (w.alloc (.cells #[x] t)) W) : W.cell? ⟨w.heap.size, 0, none⟩ = some x :=
  (h.cell (p := ⟨w.heap.size, 0, none⟩) (by simp)).trans (by simp)
theorem box2 {w W : World} {x y : Value} {t u : TypeId} (h : Below ((w.alloc (.cells #[x] t)).alloc (.cells #[y] u)).heap.size ((w.alloc (.cells #[x] t)).alloc (.cells #[y] u)) W) :
    W.cell? ⟨w.heap.size, 0, none⟩ = some x ∧ W.cell? ⟨w.heap.size + 1, 0, none⟩ = some y :=
  ⟨(h.cell (p := ⟨w.heap.size, 0, none⟩) (by simp; omega)).trans (by rw [World.cell?_alloc_past _ _ _ (by simp), World.cell?_alloc_at _ _ _ _ rfl]; rfl),
   (h.cell (p := ⟨w.heap.size + 1, 0, none⟩) (by simp)).trans (by rw [World.cell?_alloc_at _ _ _ _ (by simp)]; rfl)⟩
theorem box3 {w W : World} {x y z : Value} {t : TypeId} (h : Below (w.alloc (.cells #[x, y, z] t)).heap.size (w.alloc (.cells #[x, y, z] t)) W) :
    W.cell? ⟨w.heap.size, 0, none⟩ = some x ∧ W.cell? ⟨w.heap.size, 1, none⟩ = some y ∧ W.cell? ⟨w.heap.size, 2, none⟩ = some z :=
  ⟨(h.cell (p := ⟨w.heap.size, 0, none⟩) (by simp)).trans (by simp), (h.cell (p := ⟨w.heap.size, 1, none⟩) (by simp)).trans (by simp), (h.cell (p := ⟨w.heap.size, 2, none⟩) (by simp)).trans (by simp)⟩
theorem box12 {w W : World} {x y : Value} {t : TypeId} (h : Below (w.alloc (.cells #[x, y] t)).heap.size (w.alloc (.cells #[x, y] t)) W) :
    W.cell? ⟨w.heap.size, 0, none⟩ = some x ∧ W.cell? ⟨w.heap.size, 1, none⟩ = some y :=
  ⟨(h.cell (p := ⟨w.heap.size, 0, none⟩) (by simp)).trans (by simp), (h.cell (p := ⟨w.heap.size, 1, none⟩) (by simp)).trans (by simp)⟩
/-- a contract that leaves the world alone, met in a quiet region -/
theorem quiet_same_left {P : Program} {f : FuncId} {args : Array Value} {w : World} {n : Nat} {v : Value} (h : Calls P f args (w.drewN n) fun e w' => e = .returned v ∧ w.drewN n = w') : Calls P f args (w.drewN n) fun e w'' => e = .returned v ∧ ∃ m, w'' = w.drewN m :=
  h.mono fun _ _ ⟨he, hm⟩ => ⟨he, n, hm.symm⟩
theorem calls_same_below {P : Program} {f : FuncId} {args : Array Value} {w : World} {R : Ending → Prop} (h : Calls P f args w fun e w' => R e ∧ w = w') : Calls P f args w fun e w' => R e ∧ Below w.heap.size w w' :=
  h.mono fun _ _ ⟨he, hw⟩ => ⟨he, hw ▸ Below.refl _ _⟩
theorem calls_drew_below {P : Program} {f : FuncId} {args : Array Value} {w : World} {R : Ending → Prop} (h : Calls P f args w fun e w' => R e ∧ ∃ n, w' = w.drewN n) : Calls P f args w fun e w' => R e ∧ Below w.heap.size w w' :=
  h.mono fun _ _ ⟨he, n, hw⟩ => ⟨he, hw ▸ below_drewN (Below.refl _ _) n⟩
theorem below_alloc (w : World) (o : Obj) : Below w.heap.size w (w.alloc o) := (Below.refl _ _).alloc (Nat.le_refl _) o
theorem below_alloc2 (w : World) (o p : Obj) : Below w.heap.size w ((w.alloc o).alloc p) := (below_alloc w o).alloc (by simp) p

/-- a list's first k, and what a make lays behind -/
theorem set_take_rep {α : Type} (f : List α) (k n : Nat) (z : α) (hk : k < n) (u : α) (hf : f.length = k) : (f ++ List.replicate (n - k) z).set k u = (f ++ [u]) ++ List.replicate (n - (k + 1)) z := by
  rw [List.set_append_right _ _ (by omega), hf]
  have : n - k = (n - (k + 1)) + 1 := by omega
  rw [this, List.replicate_succ]
  simp
theorem take_succ_eq {α : Type} (xs ys : List α) (k : Nat) (h1 : k < xs.length) (h2 : k < ys.length) : xs.take (k + 1) = ys.take (k + 1) ↔ xs.take k = ys.take k ∧ xs[k] = ys[k] := by
  rw [List.take_succ_eq_append_getElem h1, List.take_succ_eq_append_getElem h2]
  constructor
  · intro h; have := List.append_inj' h rfl; simpa using this
  · rintro ⟨h, h'⟩; rw [h, h']

/-- 'make([]T, n)', an element of T one cell -/
theorem wpList_make1 {P : Program} (w : World) {ops : Array Oper} {rest : List Oper} {o : Oper} {a : Act} {Q : Exit → Act → World → Prop}
    (hg : o.guard = none) (l c : Operand) (t : TypeId) (hop : o.op = Op.makeSlice t l c) (lo : Nat) (e : TypeId) (z : Value) (bytes : Nat) (h1 : P.underlying t = some (.slice e))
    (hinfo : (P.info? e).map (fun i => (i.zero, i.size, i.bytes)) = some (some z, 1, bytes)) (hzc : z.cells = #[z])
    (kl kc : IntKind) (n : Nat) (hl : a.eval l = .int kl (n : Int)) (hc : a.eval c = .int kc (n : Int)) (hby : bytes * n ≤ 281474976710656) (hn : n ≤ 17592186044416) (hlo : lo ≤ w.heap.size)
    (hK : ∀ w', Ow w' lo e 1 (.slice (some ⟨w.heap.size, 0, none⟩) n n) n (List.replicate n z) → Below w.heap.size w w' → w.heap.size < w'.heap.size → wpList P ops Q rest (a.put o.dst (.slice (some ⟨w.heap.size, 0, none⟩) n n)) w') :
    wpList P ops Q (o :: rest) a w := by
  obtain ⟨i, hi, hz, hsz, hb⟩ := info_parts hinfo
  refine wpList_make_full w hg l c t hop lo e i z 1 h1 hi hz hsz kl kc n n n hl hc rfl rfl ?_ (by unfold maxLen; omega) hlo fun w' hown hgr => ?_
  · rw [hb]; exact hby
  · rw [hzc, Nat.mul_one, toList_madeCells_one] at hown
    refine hK w' ⟨hown, hn⟩ ((Below.refl _ _).grown hgr (Nat.le_refl _) (fun k hk => by cases hk)) ?_
    exact (hown.lt w.heap.size rfl).2

theorem grown_trans {a b c : World} {row : Option Nat} (h : a.grownBy b row) (k : b.grownBy c row) : a.grownBy c row :=
  ⟨k.os.trans h.os, k.tape.trans h.tape, k.output.trans h.output, Nat.le_trans h.size k.size, fun i hi hne => (k.block i (Nat.lt_of_lt_of_le hi h.size) hne).trans (h.block i hi hne)⟩

theorem madeCells_all (z : Array Value) (c : Value) (n : Nat) (h0 : 0 < z.size) (hz : ∀ j, j < z.size → z[j]! = c) : (madeCells z n).toList = List.replicate n c := by
  apply List.ext_getElem?
  intro j
  by_cases hj : j < n
  · simp only [madeCells, Array.toList_map, Array.toList_range, List.getElem?_map, List.getElem?_range hj, Option.map_some, List.getElem?_replicate, hj, if_true]
    rw [hz _ (Nat.mod_lt _ h0)]
  · simp [madeCells, hj]
/-- 'make([]T, n)', T a struct of several cells, all alike at first -/
theorem wpList_makeK {P : Program} (w : World) {ops : Array Oper} {rest : List Oper} {o : Oper} {a : Act} {Q : Exit → Act → World → Prop}
    (hg : o.guard = none) (l c : Operand) (t : TypeId) (hop : o.op = Op.makeSlice t l c) (lo : Nat) (e : TypeId) (z cz : Value) (sz bytes : Nat) (h1 : P.underlying t = some (.slice e))
    (hinfo : (P.info? e).map (fun i => (i.zero, i.size, i.bytes)) = some (some z, sz, bytes)) (h0 : 0 < z.cells.size) (hzc : ∀ j, j < z.cells.size → z.cells[j]! = cz)
    (kl kc : IntKind) (n : Nat) (hl : a.eval l = .int kl (n : Int)) (hc : a.eval c = .int kc (n : Int)) (hby : bytes * n ≤ 281474976710656) (hn : n ≤ 17592186044416) (hlo : lo ≤ w.heap.size)
    (hK : ∀ w', Ow w' lo e sz (.slice (some ⟨w.heap.size, 0, none⟩) n n) n (List.replicate (n * sz) cz) → Below w.heap.size w w' → w.heap.size < w'.heap.size → wpList P ops Q rest (a.put o.dst (.slice (some ⟨w.heap.size, 0, none⟩) n n)) w') :
    wpList P ops Q (o :: rest) a w := by
  obtain ⟨i, hi, hz, hsz, hb⟩ := info_parts hinfo
  refine wpList_make_full w hg l c t hop lo e i z sz h1 hi hz hsz kl kc n n n hl hc rfl rfl ?_ (by unfold maxLen; omega) hlo fun w' hown hgr => ?_
  · rw [hb]; exact hby
  · rw [madeCells_all _ cz _ h0 hzc] at hown
    refine hK w' ⟨hown, hn⟩ ((Below.refl _ _).grown hgr (Nat.le_refl _) (fun k hk => by cases hk)) ?_
    exact (hown.lt w.heap.size rfl).2

theorem flat_len {α β : Type} (f : α → List β) (s : Nat) (hf : ∀ x, (f x).length = s) : ∀ xs : List α, (xs.flatMap f).length = xs.length * s
  | [] => by simp
  | x :: xs => by rw [List.flatMap_cons, List.length_append, hf, flat_len f s hf xs, List.length_cons, Nat.add_mul]; omega
theorem flat_get {α β : Type} (f : α → List β) (s : Nat) (hf : ∀ x, (f x).length = s) : ∀ (xs : List α) (k : Nat) (hk : k < xs.length) (j : Nat), j < s → (xs.flatMap f)[k * s + j]? = (f xs[k])[j]?
  | [], k, hk, _, _ => absurd hk (by simp)
  | x :: xs, 0, _, j, hj => by rw [List.flatMap_cons, List.getElem?_append_left (by rw [hf]; omega)]; simp
  | x :: xs, k + 1, hk, j, hj => by
    rw [List.flatMap_cons, List.getElem?_append_right (by rw [hf, Nat.add_mul]; omega), hf]
    have : (k + 1) * s + j - s = k * s + j := by rw [Nat.add_mul]; omega
    rw [this, flat_get f s hf xs k (by simpa using hk) j hj]
    simp
/-- a struct's two cells, stored behind the first ones -/
theorem set2 {α : Type} (f r : List α) (m : Nat) (a b a' b' : α) (hf : f.length = m) : ((f ++ (a :: b :: r)).set m a').set (m + 1) b' = (f ++ [a', b']) ++ r := by
  subst hf
  rw [List.set_append_right _ _ (Nat.le_refl _), List.set_append_right _ _ (by omega)]
  simp
theorem set3 {α : Type} (f r : List α) (m : Nat) (a b c a' b' c' : α) (hf : f.length = m) : (((f ++ (a :: b :: c :: r)).set m a').set (m + 1) b').set (m + 2) c' = (f ++ [a', b', c']) ++ r := by
  subst hf
  rw [List.set_append_right _ _ (Nat.le_refl _), List.set_append_right _ _ (by omega), List.set_append_right _ _ (by omega)]
  simp

/-- two values do not share a block -/
def Sep (v u : Value) : Prop := v.ownBlock = none ∨ v.ownBlock ≠ u.ownBlock
section
variable {w w' : World} {lo lo' sz sz' n m : Nat} {e e' : TypeId} {v u : Value} {cs ds : List Value}
theorem Ow.sep_type (h : Ow w lo e sz v n cs) (h' : Ow w lo' e' sz' u m ds) (hne : e ≠ e') : Sep v u := by
  rcases h.own.2 with ⟨rfl, _⟩ | ⟨g, cap, cur, rfl, _, hh, _⟩
  · exact .inl rfl
  · rcases h'.own.2 with ⟨rfl, _⟩ | ⟨g', cap', cur', rfl, _, hh', _⟩
    · exact .inr (by simp [Value.ownBlock])
    · refine .inr ?_
      simp only [Value.ownBlock, ne_eq, Option.some.injEq]
      rintro rfl
      rw [hh] at hh'; injection hh' with hh'; injection hh' with _ ht; exact hne ht
/-- an elder row and a younger one -/
theorem Ow.sep_new (h : Ow w lo e sz v n cs) {w1 : World} (h' : Ow w1 lo' e' sz' u m ds) (hlo : w.heap.size ≤ lo') : Sep v u := by
  cases hv : v.ownBlock with
  | none => exact .inl hv
  | some g =>
    refine .inr fun hq => ?_
    rw [hv] at hq
    have h1 := (h.lt g hv).2
    have h2 := (h'.lt g hq.symm).1
    omega
theorem Ow.sep_new' (h : Ow w lo e sz v n cs) {w1 : World} (h' : Ow w1 lo' e' sz' u m ds) (hlo : w.heap.size ≤ lo') : Sep u v := by
  cases hv : u.ownBlock with
  | none => exact .inl hv
  | some g =>
    refine .inr fun hq => ?_
    rw [hv] at hq
    have h1 := (h.lt g hq.symm).2
    have h2 := (h'.lt g hv).1
    omega
theorem Ow.keptS (h : Ow w lo e sz v n cs) (hg : w.grownBy w' u.ownBlock) (hs : Sep v u) : Ow w' lo e sz v n cs := h.kept hg hs
theorem Ow.grow {g c k : Nat} (h : Ow w lo e sz (.slice (some ⟨g, 0, none⟩) n c) n cs) (x : Value) : w.grownBy (w.setCell ⟨g, k, none⟩ x) (some g) := (h.own.stored k x).2
end
/-- what was there below B stays, behind a write to a row of the call's own -/
theorem below_own {B lo : Nat} {w0 w w' : World} {e : TypeId} {sz n : Nat} {v : Value} {cs : List Value} (hb : Below B w0 w) (h : Ow w lo e sz v n cs) (hg : w.grownBy w' v.ownBlock) (hB : B ≤ w.heap.size) (hlo : B ≤ lo) : Below B w0 w' :=
  hb.grown hg hB fun k hk => Nat.le_trans hlo (h.lt k hk).1

/-! Worlds that have only grown, as a class for a region whose order is drawn: the calls in it may make memory. -/
structure More where
  os : Array Obj
  n : Nat
instance : Inhabited More := ⟨⟨#[], 0⟩⟩
def plus (w : World) (e : More) : World := { w with heap := w.heap ++ e.os, drawn := e.n }
theorem below_plus (w : World) (e : More) : Below w.heap.size w (plus w e) :=
  ⟨rfl, rfl, rfl, by simp [plus], fun k hk => by simp only [plus]; rw [Array.getElem?_append_left hk]⟩
theorem plus_of_below {w w' : World} (h : Below w.heap.size w w') : ∃ e, w' = plus w e := by
  refine ⟨⟨w'.heap.extract w.heap.size w'.heap.size, w'.drawn⟩, ?_⟩
  have hh : w'.heap = w.heap ++ w'.heap.extract w.heap.size w'.heap.size := by
    apply Array.ext_getElem?
    intro k
    by_cases hk : k < w.heap.size
    · rw [Array.getElem?_append_left hk, h.block k hk]
    · rw [Array.getElem?_append_right (by omega), Array.getElem?_extract]
      have := h.size
      by_cases hk2 : k < w'.heap.size
      · rw [if_pos (by omega)]; congr 1; omega
      · rw [if_neg (by omega), Array.getElem?_eq_none (by omega)]
  obtain ⟨a, b, c, d, e⟩ := w'
  simp only [plus, World.mk.injEq, true_and]
  exact ⟨hh, h.tape, h.os, h.output⟩
theorem below_of_plus {w w' : World} (h : ∃ e, w' = plus w e) : Below w.heap.size w w' := by obtain ⟨e, rfl⟩ := h; exact below_plus w e
theorem wp_region_plus {P : Program} {id : Nat} {Q : Exit → Act → World → Prop} {a : Act} {w : World} {l : List Oper} (hm : P.follows .mixedOrders = true) (hB : Region.lexB .any l.toArray = true)
    (h : wpQuiet P l.toArray (fun w' => ∃ e, w' = plus w e) (fun a' => ∀ w', (∃ e, w' = plus w e) → Q .normal a' w') l a) : (Code.region id l.toArray true).wp P Q a w :=
  wp_region_quiet (C := fun w' => ∃ e, w' = plus w e) hm hB ⟨⟨#[], w.drawn + 1⟩, by simp [plus]⟩ (by simpa using h)
section
variable {P : Program} {f : FuncId} {args : Array Value} {w : World} {e : More} {v : Value}
theorem plus_below (h : Calls P f args (plus w e) fun e' w'' => e' = .returned v ∧ Below (plus w e).heap.size (plus w e) w'') : Calls P f args (plus w e) fun e' w'' => e' = .returned v ∧ ∃ m, w'' = plus w m :=
  h.mono fun _ _ ⟨he, hb⟩ => ⟨he, plus_of_below (below_next0 (below_plus w e) hb)⟩
theorem plus_same (h : Calls P f args (plus w e) fun e' w'' => e' = .returned v ∧ plus w e = w'') : Calls P f args (plus w e) fun e' w'' => e' = .returned v ∧ ∃ m, w'' = plus w m :=
  h.mono fun _ _ ⟨he, hb⟩ => ⟨he, _, hb.symm⟩
theorem plus_drew (h : Calls P f args (plus w e) fun e' w'' => e' = .returned v ∧ ∃ n, w'' = (plus w e).drewN n) : Calls P f args (plus w e) fun e' w'' => e' = .returned v ∧ ∃ m, w'' = plus w m :=
  h.mono fun _ _ ⟨he, n, hb⟩ => ⟨he, plus_of_below (by rw [hb]; exact below_drewN (below_plus w e) n)⟩
end
theorem cell_plus {w : World} {b o : Nat} {x : Value} (h : w.cell? ⟨b, o, none⟩ = some x) : ∀ e, (plus w e).cell? ⟨b, o, none⟩ = some x := fun e => by
  have hb : b < w.heap.size := by
    rcases Nat.lt_or_ge b w.heap.size with h1 | h1
    · exact h1
    · simp [World.cell?, Array.getElem?_eq_none h1] at h
  exact ((below_plus w e).cell (p := ⟨b, o, none⟩) hb).trans h
/-- the world under a name of its own -/
theorem wp_gen {P : Program} {c : Code} {Q : Exit → Act → World → Prop} {a : Act} {w : World} (h : ∀ W, W = w → Code.wp P c Q a W) : Code.wp P c Q a w := h w rfl

/-- slices of int64 -/
def SlI (w : World) (v : Value) (xs : List Int) : Prop := Sl w 1 v xs.length (xs.map (Value.int .i64))
def OwI (w : World) (lo : Nat) (v : Value) (xs : List Int) : Prop := Ow w lo 2 1 v xs.length (xs.map (Value.int .i64))
section
variable {w w' : World} {v u : Value} {xs : List Int} {lo : Nat}
theorem OwI.keptS (h : OwI w lo v xs) (hg : w.grownBy w' u.ownBlock) (hs : Sep v u) : OwI w' lo v xs := Ow.keptS h hg hs
theorem SlI.ex (h : SlI w v xs) (hb : Below w.heap.size w w') : SlI w' v xs := Sl.ex h hb
theorem SlI.drewN (h : SlI w v xs) (k : Nat) : SlI (w.drewN k) v xs := h
theorem OwI.sl (h : OwI w lo v xs) : SlI w v xs := Ow.sl h
theorem OwI.ex (h : OwI w lo v xs) (hb : Below w.heap.size w w') : OwI w' lo v xs := Ow.ex h hb
theorem OwI.mono (h : OwI w lo v xs) {lo' : Nat} (hlo : lo' ≤ lo) : OwI w lo' v xs := Ow.mono h hlo
theorem OwI.set {g c : Nat} (h : OwI w lo (.slice (some ⟨g, 0, none⟩) xs.length c) xs) (k : Nat) (u : Int) : OwI (w.setCell ⟨g, k, none⟩ (.int .i64 u)) lo (.slice (some ⟨g, 0, none⟩) xs.length c) (xs.set k u) := by
  have := Ow.set h k (.int .i64 u)
  rw [← List.map_set] at this
  unfold OwI
  rwa [List.length_set]
theorem OwI.cell {g c : Nat} (h : OwI w lo (.slice (some ⟨g, 0, none⟩) xs.length c) xs) {k : Nat} (hk : k < xs.length) : w.cell? ⟨g, k, none⟩ = some (.int .i64 xs[k]) := by
  have := Ow.cell h (k := k) (by simpa using hk)
  simpa using this
theorem OwI.free {g c : Nat} (h : OwI w lo (.slice (some ⟨g, 0, none⟩) xs.length c) xs) (k : Nat) : w.frozen? ⟨g, k, none⟩ = false := Ow.free h k
theorem OwI.lt (h : OwI w lo v xs) : ∀ k, v.ownBlock = some k → lo ≤ k ∧ k < w.heap.size := Ow.lt h
theorem SlI.le (h : SlI w v xs) : xs.length ≤ 17592186044416 := by obtain ⟨_, _, _, _, h, _⟩ := h; exact h
/-- opened: the address, and each cell -/
theorem SlI.op (h : SlI w v xs) : ∃ A c, v = .slice A xs.length c ∧ xs.length ≤ 17592186044416 ∧
    ∀ k, k < xs.length → ∃ b o, A = some ⟨b, o, none⟩ ∧ b < w.heap.size ∧ ∀ (j : Nat) (hj : j < xs.length), w.cell? ⟨b, o + j, none⟩ = some (.int .i64 xs[j]) := by
  obtain ⟨A, c, hv, hl, hn, hc⟩ := h
  refine ⟨A, c, hv, hn, fun k hk => ?_⟩
  obtain ⟨b, o, hA, hb, hcell⟩ := hc (by simpa using Nat.lt_of_le_of_lt (Nat.zero_le _) hk)
  exact ⟨b, o, hA, hb, fun j hj => by have := hcell j (by simpa using hj); simpa using this⟩
end


/-- slices of slices of int64 -/
def SlII (w : World) (v : Value) (xss : List (List Int)) : Prop :=
  ∃ us : List Value, Sl w 1 v xss.length us ∧ ∀ (i : Nat) (h : i < us.length) (h' : i < xss.length), SlI w us[i] xss[i]
section
variable {w w' : World} {v : Value} {xss : List (List Int)}
theorem SlII.ex (h : SlII w v xss) (hb : Below w.heap.size w w') : SlII w' v xss := by
  obtain ⟨us, h1, h2⟩ := h
  exact ⟨us, h1.ex hb, fun i h h' => (h2 i h h').ex hb⟩
theorem SlII.drewN (h : SlII w v xss) (k : Nat) : SlII (w.drewN k) v xss := h
theorem SlII.op (h : SlII w v xss) : ∃ A c, v = .slice A xss.length c ∧ xss.length ≤ 17592186044416 ∧
    ∀ (k : Nat) (hk : k < xss.length), ∃ b o A' c', A = some ⟨b, o, none⟩ ∧ b < w.heap.size ∧ w.cell? ⟨b, o + k, none⟩ = some (.slice A' xss[k].length c') ∧ SlI w (.slice A' xss[k].length c') xss[k] := by
  obtain ⟨us, ⟨A, c, hv, hl, hn, hc⟩, h2⟩ := h
  refine ⟨A, c, hv, hn, fun k hk => ?_⟩
  have hku : k < us.length := by omega
  obtain ⟨b, o, hA, hb, hcell⟩ := hc.at_ hku
  have h3 := h2 k hku hk
  obtain ⟨A', c', hv', _⟩ := h3.op
  refine ⟨b, o, A', c', hA, hb, ?_, ?_⟩
  · rw [hcell k hku, hv']
  · rw [← hv']; exact h3
end

end Go.Proofs.Ytlgeddbgbcineaa
