/-
Reading: a struct of int64, and slices of it: what the statements do with them (copy, equality, size, marks), each function by its contract. Conditions: the slices read as lists of such structs; lengths as the form's reach bounds them.
-/
import Derived.Test.YtlgeddbgbcineaaInts
namespace Go.Proofs.Ytlgeddbgbcineaa
open Go.RowKit
set_option linter.unusedVariables false

structure Reading where
  sensor : Int
  tick : Int
  deriving DecidableEq

def Reading.vals (t : Reading) : List Value := [.int .i64 t.sensor, .int .i64 t.tick]
def Reading.same (a b : Reading) : Bool := decide (a = b)
theorem Reading.same_iff {a b : Reading} : Reading.same a b = true ↔ a = b := by unfold Reading.same; simp
def SlReading (w : World) (v : Value) (ts : List Reading) : Prop := Sl w 2 v ts.length (ts.flatMap Reading.vals)
def OwReading (w : World) (lo : Nat) (v : Value) (ts : List Reading) : Prop := Ow w lo 35 2 v ts.length (ts.flatMap Reading.vals)
theorem Reading.vals_len (t : Reading) : t.vals.length = 2 := rfl

section
variable {w w' : World} {v : Value} {t : List Reading} {lo : Nat}
theorem SlReading.ex (h : SlReading w v t) (hb : Below w.heap.size w w') : SlReading w' v t := Sl.ex h hb
theorem SlReading.drewN (h : SlReading w v t) (k : Nat) : SlReading (w.drewN k) v t := Sl.drewN h k
theorem OwReading.sl (h : OwReading w lo v t) : SlReading w v t := Ow.sl h
theorem OwReading.ex (h : OwReading w lo v t) (hb : Below w.heap.size w w') : OwReading w' lo v t := Ow.ex h hb
theorem OwReading.mono (h : OwReading w lo v t) {lo' : Nat} (hlo : lo' ≤ lo) : OwReading w lo' v t := Ow.mono h hlo
theorem OwReading.keptS {u : Value} (h : OwReading w lo v t) (hg : w.grownBy w' u.ownBlock) (hs : Sep v u) : OwReading w' lo v t := Ow.keptS h hg hs
theorem SlReading.le (h : SlReading w v t) : t.length ≤ 17592186044416 := by obtain ⟨_, _, _, _, h, _⟩ := h; exact h
theorem SlReading.op (h : SlReading w v t) : ∃ A c, v = .slice A t.length c ∧ t.length ≤ 17592186044416 ∧
    ∀ (k : Nat) (hk : k < t.length), ∃ b o, A = some ⟨b, o, none⟩ ∧ b < w.heap.size ∧ w.cell? ⟨b, o + k * 2, none⟩ = some (.int .i64 t[k].sensor) ∧ w.cell? ⟨b, o + k * 2 + 1, none⟩ = some (.int .i64 t[k].tick) := by
  obtain ⟨A, c, hv, hl, hn, hc⟩ := h
  refine ⟨A, c, hv, hn, fun k hk => ?_⟩
  have h0 : k * 2 + 2 ≤ (t.flatMap Reading.vals).length := by rw [hl]; omega
  obtain ⟨b, o, hA, hb, hcell⟩ := hc.at_ (k := k * 2) (by omega)
  have hg : ∀ j, j < 2 → w.cell? ⟨b, o + k * 2 + j, none⟩ = (t[k].vals)[j]? := fun j hj => by
    have h1 := hcell (k * 2 + j) (by omega)
    rw [← Nat.add_assoc] at h1
    rw [h1, ← flat_get Reading.vals 2 Reading.vals_len t k hk j hj, List.getElem?_eq_getElem (by omega)]
  exact ⟨b, o, hA, hb, by simpa [Reading.vals] using hg 0 (by omega), by simpa [Reading.vals] using hg 1 (by omega)⟩
end

theorem infoReading : (Try.prog.info? 35).map (fun i => (i.zero, i.size, i.bytes)) = some (some (.agg #[.int .i64 0, .int .i64 0]), 2, 16) := by kernel_rfl

theorem zeroReading0 : 0 < (Value.cells (.agg #[.int .i64 0, .int .i64 0])).size := by decide
theorem zeroReading : ∀ j, j < (Value.cells (.agg #[.int .i64 0, .int .i64 0])).size → (Value.cells (.agg #[.int .i64 0, .int .i64 0]))[j]! = .int .i64 0 := by
  intro j hj
  have h : j < 2 := hj
  match j, h with
  | 0, _ => rfl
  | 1, _ => rfl

theorem toReading_any (x0 x1 : Int) (w : World) : Calls Try.prog 25 #[.agg #[.int .i64 x0, .int .i64 x1]] w fun e w' => e = .returned (.agg #[.int .i64 x0, .int .i64 x1]) ∧ Below w.heap.size w w' := by
  go_enter Try.func25, Try.ntmps25
  go_wp2
  exact bodyPost_ret (v := .agg #[.int .i64 x0, .int .i64 x1]) (by simp [results, Try.results25, go_sem]) rfl ⟨rfl, (below_alloc2 _ _ _).alloc (by simp; omega) _⟩

theorem szReadingS_any (A : Option Addr) (n c : Nat) (l : Int) (w : World) (hn : n ≤ 17592186044416) (h0 : 0 ≤ l) (h1 : l ≤ 1048576) :
    Calls Try.prog 27 #[.slice A n c, .int .i64 l] w fun e w' => e = .returned (.int .i64 (szOf l n)) ∧ w = w' := by
  by_cases h : l - n < 0
  · go_enter Try.func27, Try.ntmps27
    go_wp2
    go_ret
    exact ⟨ret_int (szOf_neg (by omega)).symm, rfl⟩
  · go_enter Try.func27, Try.ntmps27
    go_wp2
    go_ret
    exact ⟨ret_int (szOf_pos (by omega)).symm, rfl⟩

theorem eqReading_any (x0 x1 y0 y1 : Int) (w : World) : Calls Try.prog 64 #[.agg #[.int .i64 x0, .int .i64 x1], .agg #[.int .i64 y0, .int .i64 y1]] w fun e w' => e = .returned (.bool (Reading.same ⟨x0, x1⟩ ⟨y0, y1⟩)) ∧ Below w.heap.size w w' := by
  go_enter Try.func64, Try.ntmps64
  go_wp2
  all_goals
    go_ret
    exact ⟨ret_bool (by unfold Reading.same; simp_all), below_alloc2 _ _ _⟩

set_option maxHeartbeats 1000000 in
theorem toReadingS_any (v : Value) (t : List Reading) (w : World) (hv : SlReading w v t) (hsm : t.length ≤ 1048576) :
    Calls Try.prog 29 #[v] w fun e w' => ∃ A c, e = .returned (.slice A t.length c) ∧ OwReading w' w.heap.size (.slice A t.length c) t ∧ Below w.heap.size w w' := by
  obtain ⟨A, ca, rfl, hla, ha⟩ := hv.op
  clear hv
  go_enter Try.func29, Try.ntmps29
  go_wp2_with (with_reducible refine wpList_makeK _ rfl (.tmp 6) (.tmp 6) _ rfl w.heap.size 35 (.agg #[.int .i64 0, .int .i64 0]) (.int .i64 0) 2 16 Try.underlying29 infoReading zeroReading0 zeroReading _ _ t.length rfl rfl (by omega) hla (Nat.le_refl _) ?_; intro w1 hown hb hsz)
  go_loopw [4] (fun i wr => ∃ k : Nat, k ≤ t.length ∧ i = .int .i64 k ∧ Ow wr w.heap.size 35 2 (.slice (some ⟨w.heap.size, 0, none⟩) t.length t.length) t.length ((t.take k).flatMap Reading.vals ++ List.replicate ((t.length - k) * 2) (Value.int .i64 0)) ∧ Below w.heap.size w wr ∧ w.heap.size < wr.heap.size) (fun i _ => t.length - (intOf i).toNat)
  case atStart => exact ⟨0, Nat.zero_le _, rfl, by simpa using hown, hb, hsz⟩
  case round =>
    clear hown hb hsz
    obtain ⟨k, hk, rfl, hown, hb, hsz⟩ := hrel
    by_cases hlt : k < t.length
    · obtain ⟨b1, o1, rfl, hb1, hc0, hc1⟩ := ha k hlt
      have hx0 := (hb.cell (p := ⟨b1, o1 + k * 2, none⟩) hb1).trans hc0
      have hx1 := (hb.cell (p := ⟨b1, o1 + k * 2 + 1, none⟩) hb1).trans hc1
      have hlti : (k : Int) < (t.length : Int) := by omega
      have htake : t.take (k + 1) = t.take k ++ [t[k]] := List.take_succ_eq_append_getElem hlt
      have hfl : ((t.take k).flatMap Reading.vals).length = k * 2 := by rw [flat_len _ _ Reading.vals_len, List.length_take]; congr 1; omega
      have HF := Lib.hid hfl; have HT := Lib.hid htake
      generalize t[k] = e at hx0 hx1 HT
      clear ha hc0 hc1 htake hfl
      go_wp2_with (go_at_call 25; (refine (toReading_any _ _ _).mono ?_; rintro e1 w1 ⟨rfl, hbu⟩; have hown1 := hown.ex hbu; have hcy0 := hown1.cell (k := k * 2) (by rw [List.length_append, HF.out, List.length_replicate]; omega); have hfy0 := hown1.free (k * 2); have hcy1 := hown1.cell (k := k * 2 + 1) (by rw [List.length_append, HF.out, List.length_replicate]; omega); have hfy1 := hown1.free (k * 2 + 1); clear hown1))
      have hown1 := hown.ex hbu
      have hrep : List.replicate ((t.length - k) * 2) (Value.int .i64 0) = Value.int .i64 0 :: Value.int .i64 0 :: List.replicate ((t.length - (k + 1)) * 2) (Value.int .i64 0) := by
        have : (t.length - k) * 2 = (t.length - (k + 1)) * 2 + 2 := by omega
        rw [this]; rfl
      have hnew := ((hown1).set (k * 2) (.int .i64 e.sensor)).set (k * 2 + 1) (.int .i64 e.tick)
      rw [hrep, set2 _ _ _ _ _ _ _ HF.out] at hnew
      have hb2 := (((below_next hb hb.size hbu).setCell (p := ⟨w.heap.size, k * 2, none⟩) (Nat.le_refl _) (.int .i64 e.sensor)).setCell (p := ⟨w.heap.size, k * 2 + 1, none⟩) (Nat.le_refl _) (.int .i64 e.tick))
      have hsz2 : w.heap.size < (((w1.setCell ⟨w.heap.size, k * 2, none⟩ (.int .i64 e.sensor)).setCell ⟨w.heap.size, k * 2 + 1, none⟩ (.int .i64 e.tick))).heap.size := by simp; have := hbu.size; omega
      have HN := Lib.hid hnew; have HB := Lib.hid hb2
      clear hnew hb2 hrep hown1 hown hb hbu
      go_roundw
      case rel => exact ⟨k + 1, by omega, by go_num, by rw [HT.out, List.flatMap_append]; exact HN.out, HB.out, hsz2⟩
      case measure => simp [intOf]; omega
    · obtain rfl : k = t.length := by omega
      have HO := Lib.hid hown
      clear hown
      go_wp2
      go_ret
      exact ⟨_, _, rfl, by simpa [OwReading] using HO.out, hb⟩

set_option maxHeartbeats 1000000 in
theorem eqReadingS_any (v u : Value) (xs ys : List Reading) (w : World) (hv : SlReading w v xs) (hu : SlReading w u ys) :
    Calls Try.prog 31 #[v, u] w fun e w' => e = .returned (.bool (decide (xs = ys))) ∧ Below w.heap.size w w' := by
  obtain ⟨A, ca, rfl, hla, ha⟩ := hv.op
  obtain ⟨B, cb, rfl, hlb, hb⟩ := hu.op
  clear hv hu
  by_cases hl : xs.length = ys.length
  · have hl1 : ((xs.length : Int) != (ys.length : Int)) = false := by simp [hl]
    have HL := Lib.hid hl; clear hl
    go_enter Try.func31, Try.ntmps31
    go_wp2
    go_loopw [5] (fun i wr => ∃ k : Nat, k ≤ xs.length ∧ i = .int .i64 k ∧ Hid (xs.take k = ys.take k) ∧ Below w.heap.size w wr) (fun i _ => xs.length - (intOf i).toNat)
    case atStart => exact ⟨0, Nat.zero_le _, rfl, rfl, Below.refl _ _⟩
    case round =>
      obtain ⟨k, hk, rfl, htk, hbl⟩ := hrel
      by_cases hlt : k < xs.length
      · have hlt2 : k < ys.length := by have := HL.out; omega
        obtain ⟨b1, o1, rfl, hb1, hc0, hc1⟩ := ha k hlt
        obtain ⟨b2, o2, rfl, hb2, hd0, hd1⟩ := hb k hlt2
        have hx0 := cell_plus ((hbl.cell (p := ⟨b1, o1 + k * 2, none⟩) hb1).trans hc0)
        have hx1 := cell_plus ((hbl.cell (p := ⟨b1, o1 + k * 2 + 1, none⟩) hb1).trans hc1)
        have hy0 := cell_plus ((hbl.cell (p := ⟨b2, o2 + k * 2, none⟩) hb2).trans hd0)
        have hy1 := cell_plus ((hbl.cell (p := ⟨b2, o2 + k * 2 + 1, none⟩) hb2).trans hd1)
        have HT := Lib.hid (take_succ_eq xs ys k hlt hlt2)
        generalize xs[k] = x at hx0 hx1 HT
        generalize ys[k] = y at hy0 hy1 HT
        have hlti : (k : Int) < (xs.length : Int) := by omega
        have hlti2 : (k : Int) < (ys.length : Int) := by omega
        have HB := Lib.hid hbl
        clear ha hb hc0 hc1 hd0 hd1 hbl
        go_wp2
        refine wp_region_plus (by kernel_rfl) (by kernel_rfl) ?_
        repeat (go_big_quiet_step (((go_at_call 64; exact plus_below (eqReading_any _ _ _ _ _)))))
        refine wpQuiet_nil ?_
        intro wq hwq
        replace hwq := below_of_plus hwq
        have hq := below_next HB.out HB.out.size hwq
        cases hd : Reading.same ⟨x.sensor, x.tick⟩ ⟨y.sensor, y.tick⟩ with
        | true =>
          go_wp2
          go_roundw
          case rel => exact ⟨k + 1, by omega, by go_num, HT.out.2 ⟨htk.out, Reading.same_iff.1 hd⟩, hq⟩
          case measure => simp [intOf]; omega
        | false =>
          go_wp2
          go_ret
          exact ⟨ret_bool (by
            symm; rw [decide_eq_false_iff_not]; intro h
            have := (HT.out.1 (by rw [h])).2
            rw [this, Reading.same_iff.2 rfl] at hd; cases hd), hq⟩
      · go_wp2
        go_ret
        exact ⟨ret_bool (by symm; rw [decide_eq_true_iff]; have := htk.out; have h2 := HL.out; rwa [List.take_of_length_le (by omega), List.take_of_length_le (by omega)] at this), hbl⟩
  · have hl1 : ((xs.length : Int) != (ys.length : Int)) = true := by simp; omega
    go_enter Try.func31, Try.ntmps31
    go_wp2
    go_ret
    exact ⟨ret_bool (by symm; rw [decide_eq_false_iff_not]; intro h; apply hl; rw [h]), Below.refl _ _⟩

def Reading.nums (t : Reading) : List Int := [t.sensor, t.tick]
theorem Reading.vals_nums (t : List Reading) : t.flatMap Reading.vals = (t.flatMap Reading.nums).map (Value.int .i64) := by
  rw [List.map_flatMap]; rfl
theorem Reading.nums_len (t : List Reading) : (t.flatMap Reading.nums).length = t.length * 2 := flat_len Reading.nums 2 (fun _ => rfl) t

set_option maxHeartbeats 1000000 in
theorem markReadingS_any (v : Value) (n : Nat) (xs : List Int) (k0 : Int) (w : World) (lo : Nat) (hv : Ow w lo 35 2 v n (xs.map (Value.int .i64))) (h0 : 0 ≤ k0) (h1 : k0 ≤ 1152921504606846976) :
    Calls Try.prog 36 #[v, .int .i64 k0] w fun e w' => e = .returned (.int .i64 (k0 + xs.length)) ∧ Ow w' lo 35 2 v n ((marks k0 xs.length).map (Value.int .i64)) ∧ w.grownBy w' v.ownBlock := by
  have hla := hv.le
  have hxl : xs.length = n * 2 := by simpa using hv.len
  rcases Ow.form hv with ⟨rfl, rfl, hx⟩ | ⟨g, c, rfl, hlo, hlt, _⟩
  · have hx : xs = [] := by simpa using hx
    subst hx
    have HV := Lib.hid hv
    clear hv hxl
    go_enter Try.func36, Try.ntmps36
    go_wp2
    go_loopw [1, 5] (fun k i wr => i = .int .i64 0 ∧ k = .int .i64 k0 ∧ w = wr) (fun _ i _ => 0 - (intOf i).toNat)
    case atStart => exact ⟨rfl, rfl, rfl⟩
    case round =>
      obtain ⟨rfl, rfl, rfl⟩ := hrel
      go_wp2
      go_ret
      exact ⟨ret_int (by simp), HV.out, World.grownBy.refl _ _⟩
  · have HV := Lib.hid hv; have HX := Lib.hid hxl
    clear hv hxl
    go_enter Try.func36, Try.ntmps36
    go_wp2
    go_loopw [1, 5] (fun k i wr => ∃ m : Nat, m ≤ n ∧ i = .int .i64 m ∧ k = .int .i64 (k0 + (m : Int) * 2) ∧ Ow wr lo 35 2 (.slice (some ⟨g, 0, none⟩) n c) n ((marked k0 xs (m * 2)).map (Value.int .i64)) ∧ w.grownBy wr (some g)) (fun _ i _ => n - (intOf i).toNat)
    case atStart => exact ⟨0, Nat.zero_le _, rfl, by simp, by simpa [marked, marks] using HV.out, World.grownBy.refl _ _⟩
    case round =>
      obtain ⟨m, hm, rfl, rfl, hown, hg⟩ := hrel
      by_cases hml : m < n
      · have hlen : ((marked k0 xs (m * 2)).map (Value.int .i64)).length = n * 2 := by rw [List.length_map, marked_length _ _ _ (by have := HX.out; omega)]; exact HX.out
        have HL := Lib.hid hlen; clear hlen
        have hcy0 := hown.cell (k := m * 2) (by have := HL.out; omega); have hfy0 := hown.free (m * 2)
        have hcy1 := hown.cell (k := m * 2 + 1) (by have := HL.out; omega); have hfy1 := hown.free (m * 2 + 1)
        have o1 := hown.set (m * 2) (Value.int .i64 (k0 + (m : Int) * 2))
        have o2 := o1.set (m * 2 + 1) (Value.int .i64 (k0 + (m : Int) * 2 + 1))

        have hg2 := (grown_trans (grown_trans hg (hown.grow (k := m * 2) (Value.int .i64 (k0 + (m : Int) * 2)))) (o1.grow (k := m * 2 + 1) (Value.int .i64 (k0 + (m : Int) * 2 + 1))))
        rw [← List.map_set, ← List.map_set] at o2
        have HO := Lib.hid o2; have HG := Lib.hid hg2
        clear o1 o2 hg2 hg hown
        go_wp2
        go_roundw
        case rel =>
          refine ⟨m + 1, by omega, by go_num, by congr 1; omega, ?_, HG.out⟩
          have h3 := HO.out
          rw [marked_setU _ _ _ _ (by have := HX.out; omega) (by omega)] at h3
          rw [marked_setU _ _ _ _ (by have := HX.out; omega) (by omega)] at h3
          have e5 : m * 2 + 2 = (m + 1) * 2 := by omega
          rw [← e5]; exact h3
        case measure => simp [intOf]; omega
      · obtain rfl : m = n := by omega
        have HO := Lib.hid hown; clear hown
        go_wp2
        go_ret
        refine ⟨ret_int (by have := HX.out; omega), ?_, hg⟩
        have h2 := HO.out
        have h3 := HX.out
        rw [← h3] at h2
        simpa [marked] using h2


end Go.Proofs.Ytlgeddbgbcineaa
