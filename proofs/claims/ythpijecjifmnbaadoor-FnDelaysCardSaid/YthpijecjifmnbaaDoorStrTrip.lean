/-
Trip: a struct of int64, and slices of it: what the statements do with them (copy, equality, size, marks), each function by its contract. Conditions: the slices read as lists of such structs; lengths as the form's reach bounds them.
-/
import Derived.Test.YthpijecjifmnbaaDoorInts
namespace Go.Proofs.YthpijecjifmnbaaDoor
open Go.RowKit
set_option linter.unusedVariables false

structure Trip where
  to : Int
  due : Int
  came : Int
  deriving DecidableEq

def Trip.vals (t : Trip) : List Value := [.int .i64 t.to, .int .i64 t.due, .int .i64 t.came]
def Trip.same (a b : Trip) : Bool := decide (a = b)
theorem Trip.same_iff {a b : Trip} : Trip.same a b = true ↔ a = b := by unfold Trip.same; simp
def SlTrip (w : World) (v : Value) (ts : List Trip) : Prop := Sl w 3 v ts.length (ts.flatMap Trip.vals)
def OwTrip (w : World) (lo : Nat) (v : Value) (ts : List Trip) : Prop := Ow w lo 25 3 v ts.length (ts.flatMap Trip.vals)
theorem Trip.vals_len (t : Trip) : t.vals.length = 3 := rfl

section
variable {w w' : World} {v : Value} {t : List Trip} {lo : Nat}
theorem SlTrip.ex (h : SlTrip w v t) (hb : Below w.heap.size w w') : SlTrip w' v t := Sl.ex h hb
theorem SlTrip.drewN (h : SlTrip w v t) (k : Nat) : SlTrip (w.drewN k) v t := Sl.drewN h k
theorem OwTrip.sl (h : OwTrip w lo v t) : SlTrip w v t := Ow.sl h
theorem OwTrip.ex (h : OwTrip w lo v t) (hb : Below w.heap.size w w') : OwTrip w' lo v t := Ow.ex h hb
theorem OwTrip.mono (h : OwTrip w lo v t) {lo' : Nat} (hlo : lo' ≤ lo) : OwTrip w lo' v t := Ow.mono h hlo
theorem OwTrip.keptS {u : Value} (h : OwTrip w lo v t) (hg : w.grownBy w' u.ownBlock) (hs : Sep v u) : OwTrip w' lo v t := Ow.keptS h hg hs
theorem SlTrip.le (h : SlTrip w v t) : t.length ≤ 17592186044416 := by obtain ⟨_, _, _, _, h, _⟩ := h; exact h
theorem SlTrip.op (h : SlTrip w v t) : ∃ A c, v = .slice A t.length c ∧ t.length ≤ 17592186044416 ∧
    ∀ (k : Nat) (hk : k < t.length), ∃ b o, A = some ⟨b, o, none⟩ ∧ b < w.heap.size ∧ w.cell? ⟨b, o + k * 3, none⟩ = some (.int .i64 t[k].to) ∧ w.cell? ⟨b, o + k * 3 + 1, none⟩ = some (.int .i64 t[k].due) ∧ w.cell? ⟨b, o + k * 3 + 2, none⟩ = some (.int .i64 t[k].came) := by
  obtain ⟨A, c, hv, hl, hn, hc⟩ := h
  refine ⟨A, c, hv, hn, fun k hk => ?_⟩
  have h0 : k * 3 + 3 ≤ (t.flatMap Trip.vals).length := by rw [hl]; omega
  obtain ⟨b, o, hA, hb, hcell⟩ := hc.at_ (k := k * 3) (by omega)
  have hg : ∀ j, j < 3 → w.cell? ⟨b, o + k * 3 + j, none⟩ = (t[k].vals)[j]? := fun j hj => by
    have h1 := hcell (k * 3 + j) (by omega)
    rw [← Nat.add_assoc] at h1
    rw [h1, ← flat_get Trip.vals 3 Trip.vals_len t k hk j hj, List.getElem?_eq_getElem (by omega)]
  exact ⟨b, o, hA, hb, by simpa [Trip.vals] using hg 0 (by omega), by simpa [Trip.vals] using hg 1 (by omega), by simpa [Trip.vals] using hg 2 (by omega)⟩
end

theorem infoTrip : (Tryd.prog.info? 25).map (fun i => (i.zero, i.size, i.bytes)) = some (some (.agg #[.int .i64 0, .int .i64 0, .int .i64 0]), 3, 24) := by kernel_rfl

theorem zeroTrip0 : 0 < (Value.cells (.agg #[.int .i64 0, .int .i64 0, .int .i64 0])).size := by decide
theorem zeroTrip : ∀ j, j < (Value.cells (.agg #[.int .i64 0, .int .i64 0, .int .i64 0])).size → (Value.cells (.agg #[.int .i64 0, .int .i64 0, .int .i64 0]))[j]! = .int .i64 0 := by
  intro j hj
  have h : j < 3 := hj
  match j, h with
  | 0, _ => rfl
  | 1, _ => rfl
  | 2, _ => rfl

theorem toTrip_any (x0 x1 x2 : Int) (w : World) : Calls Tryd.prog 6 #[.agg #[.int .i64 x0, .int .i64 x1, .int .i64 x2]] w fun e w' => e = .returned (.agg #[.int .i64 x0, .int .i64 x1, .int .i64 x2]) ∧ Below w.heap.size w w' := by
  go_enter Tryd.func6, Tryd.ntmps6
  go_wp2
  exact bodyPost_ret (v := .agg #[.int .i64 x0, .int .i64 x1, .int .i64 x2]) (by simp [results, Tryd.results6, go_sem]) rfl ⟨rfl, (below_alloc2 _ _ _).alloc (by simp; omega) _⟩

def Trip.nums (t : Trip) : List Int := [t.to, t.due, t.came]
theorem Trip.vals_nums (t : List Trip) : t.flatMap Trip.vals = (t.flatMap Trip.nums).map (Value.int .i64) := by
  rw [List.map_flatMap]; rfl
theorem Trip.nums_len (t : List Trip) : (t.flatMap Trip.nums).length = t.length * 3 := flat_len Trip.nums 3 (fun _ => rfl) t


end Go.Proofs.YthpijecjifmnbaaDoor
