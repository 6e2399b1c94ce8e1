/-
Blower: a struct of int64, and slices of it: what the statements do with them (copy, equality, size, marks), each function by its contract. Conditions: the slices read as lists of such structs; lengths as the form's reach bounds them.
-/
import Derived.Test.YtjleabgoajoegaaInts
namespace Go.Proofs.Ytjleabgoajoegaa
open Go.RowKit
set_option linter.unusedVariables false

structure Blower where
  power : Int
  hour : Int
  start : Int
  deriving DecidableEq

def Blower.vals (t : Blower) : List Value := [.int .i64 t.power, .int .i64 t.hour, .int .i64 t.start]
def Blower.same (a b : Blower) : Bool := decide (a = b)
theorem Blower.same_iff {a b : Blower} : Blower.same a b = true ↔ a = b := by unfold Blower.same; simp
def SlBlower (w : World) (v : Value) (ts : List Blower) : Prop := Sl w 3 v ts.length (ts.flatMap Blower.vals)
def OwBlower (w : World) (lo : Nat) (v : Value) (ts : List Blower) : Prop := Ow w lo 62 3 v ts.length (ts.flatMap Blower.vals)
theorem Blower.vals_len (t : Blower) : t.vals.length = 3 := rfl

section
variable {w w' : World} {v : Value} {t : List Blower} {lo : Nat}
theorem SlBlower.ex (h : SlBlower w v t) (hb : Below w.heap.size w w') : SlBlower w' v t := Sl.ex h hb
theorem SlBlower.drewN (h : SlBlower w v t) (k : Nat) : SlBlower (w.drewN k) v t := Sl.drewN h k
theorem OwBlower.sl (h : OwBlower w lo v t) : SlBlower w v t := Ow.sl h
theorem OwBlower.ex (h : OwBlower w lo v t) (hb : Below w.heap.size w w') : OwBlower w' lo v t := Ow.ex h hb
theorem OwBlower.mono (h : OwBlower w lo v t) {lo' : Nat} (hlo : lo' ≤ lo) : OwBlower w lo' v t := Ow.mono h hlo
theorem OwBlower.keptS {u : Value} (h : OwBlower w lo v t) (hg : w.grownBy w' u.ownBlock) (hs : Sep v u) : OwBlower w' lo v t := Ow.keptS h hg hs
theorem SlBlower.le (h : SlBlower w v t) : t.length ≤ 17592186044416 := by obtain ⟨_, _, _, _, h, _⟩ := h; exact h
theorem SlBlower.op (h : SlBlower w v t) : ∃ A c, v = .slice A t.length c ∧ t.length ≤ 17592186044416 ∧
    ∀ (k : Nat) (hk : k < t.length), ∃ b o, A = some ⟨b, o, none⟩ ∧ b < w.heap.size ∧ w.cell? ⟨b, o + k * 3, none⟩ = some (.int .i64 t[k].power) ∧ w.cell? ⟨b, o + k * 3 + 1, none⟩ = some (.int .i64 t[k].hour) ∧ w.cell? ⟨b, o + k * 3 + 2, none⟩ = some (.int .i64 t[k].start) := by
  obtain ⟨A, c, hv, hl, hn, hc⟩ := h
  refine ⟨A, c, hv, hn, fun k hk => ?_⟩
  have h0 : k * 3 + 3 ≤ (t.flatMap Blower.vals).length := by rw [hl]; omega
  obtain ⟨b, o, hA, hb, hcell⟩ := hc.at_ (k := k * 3) (by omega)
  have hg : ∀ j, j < 3 → w.cell? ⟨b, o + k * 3 + j, none⟩ = (t[k].vals)[j]? := fun j hj => by
    have h1 := hcell (k * 3 + j) (by omega)
    rw [← Nat.add_assoc] at h1
    rw [h1, ← flat_get Blower.vals 3 Blower.vals_len t k hk j hj, List.getElem?_eq_getElem (by omega)]
  exact ⟨b, o, hA, hb, by simpa [Blower.vals] using hg 0 (by omega), by simpa [Blower.vals] using hg 1 (by omega), by simpa [Blower.vals] using hg 2 (by omega)⟩
end

theorem infoBlower : (Try.prog.info? 62).map (fun i => (i.zero, i.size, i.bytes)) = some (some (.agg #[.int .i64 0, .int .i64 0, .int .i64 0]), 3, 24) := by kernel_rfl

theorem zeroBlower0 : 0 < (Value.cells (.agg #[.int .i64 0, .int .i64 0, .int .i64 0])).size := by decide
theorem zeroBlower : ∀ j, j < (Value.cells (.agg #[.int .i64 0, .int .i64 0, .int .i64 0])).size → (Value.cells (.agg #[.int .i64 0, .int .i64 0, .int .i64 0]))[j]! = .int .i64 0 := by
  intro j hj
  have h : j < 3 := hj
  match j, h with
  | 0, _ => rfl
  | 1, _ => rfl
  | 2, _ => rfl

theorem toBlower_any (x0 x1 x2 : Int) (w : World) : Calls Try.prog 56 #[.agg #[.int .i64 x0, .int .i64 x1, .int .i64 x2]] w fun e w' => e = .returned (.agg #[.int .i64 x0, .int .i64 x1, .int .i64 x2]) ∧ Below w.heap.size w w' := by
  go_enter Try.func56, Try.ntmps56
  go_wp2
  exact bodyPost_ret (v := .agg #[.int .i64 x0, .int .i64 x1, .int .i64 x2]) (by simp [results, Try.results56, go_sem]) rfl ⟨rfl, (below_alloc2 _ _ _).alloc (by simp; omega) _⟩

theorem szBlowerS_any (A : Option Addr) (n c : Nat) (l : Int) (w : World) (hn : n ≤ 17592186044416) (h0 : 0 ≤ l) (h1 : l ≤ 1048576) :
    Calls Try.prog 19 #[.slice A n c, .int .i64 l] w fun e w' => e = .returned (.int .i64 (szOf l n)) ∧ w = w' := by
  by_cases h : l - n < 0
  · go_enter Try.func19, Try.ntmps19
    go_wp2
    go_ret
    exact ⟨ret_int (szOf_neg (by omega)).symm, rfl⟩
  · go_enter Try.func19, Try.ntmps19
    go_wp2
    go_ret
    exact ⟨ret_int (szOf_pos (by omega)).symm, rfl⟩

theorem eqBlower_any (x0 x1 x2 y0 y1 y2 : Int) (w : World) : Calls Try.prog 60 #[.agg #[.int .i64 x0, .int .i64 x1, .int .i64 x2], .agg #[.int .i64 y0, .int .i64 y1, .int .i64 y2]] w fun e w' => e = .returned (.bool (Blower.same ⟨x0, x1, x2⟩ ⟨y0, y1, y2⟩)) ∧ Below w.heap.size w w' := by
  go_enter Try.func60, Try.ntmps60
  go_wp2
  all_goals
    go_ret
    exact ⟨ret_bool (by unfold Blower.same; simp_all), below_alloc2 _ _ _⟩

set_option maxHeartbeats 1000000 in
theorem toBlowerS_any (v : Value) (t : List Blower) (w : World) (hv : SlBlower w v t) (hsm : t.length ≤ 1048576) :
    Calls Try.prog 21 #[v] w fun e w' => ∃ A c, e = .returned (.slice A t.length c) ∧ OwBlower w' w.heap.size (.slice A t.length c) t ∧ Below w.heap.size w w' := by
  obtain ⟨A, ca, rfl, hla, ha⟩ := hv.op
  clear hv
  go_enter Try.func21, Try.ntmps21
  go_wp2_with (with_reducible refine wpList_makeK _ rfl (.tmp 6) (.tmp 6) _ rfl w.heap.size 62 (.agg #[.int .i64 0, .int .i64 0, .int .i64 0]) (.int .i64 0) 3 24 Try.underlying29 infoBlower zeroBlower0 zeroBlower _ _ t.length rfl rfl (by omega) hla (Nat.le_refl _) ?_; intro w1 hown hb hsz)
  go_loopw [4] (fun i wr => ∃ k : Nat, k ≤ t.length ∧ i = .int .i64 k ∧ Ow wr w.heap.size 62 3 (.slice (some ⟨w.heap.size, 0, none⟩) t.length t.length) t.length ((t.take k).flatMap Blower.vals ++ List.replicate ((t.length - k) * 3) (Value.int .i64 0)) ∧ Below w.heap.size w wr ∧ w.heap.size < wr.heap.size) (fun i _ => t.length - (intOf i).toNat)
  case atStart => exact ⟨0, Nat.zero_le _, rfl, by simpa using hown, hb, hsz⟩
  case round =>
    clear hown hb hsz
    obtain ⟨k, hk, rfl, hown, hb, hsz⟩ := hrel
    by_cases hlt : k < t.length
    · obtain ⟨b1, o1, rfl, hb1, hc0, hc1, hc2⟩ := ha k hlt
      have hx0 := (hb.cell (p := ⟨b1, o1 + k * 3, none⟩) hb1).trans hc0
      have hx1 := (hb.cell (p := ⟨b1, o1 + k * 3 + 1, none⟩) hb1).trans hc1
      have hx2 := (hb.cell (p := ⟨b1, o1 + k * 3 + 2, none⟩) hb1).trans hc2
      have hlti : (k : Int) < (t.length : Int) := by omega
      have htake : t.take (k + 1) = t.take k ++ [t[k]] := List.take_succ_eq_append_getElem hlt
      have hfl : ((t.take k).flatMap Blower.vals).length = k * 3 := by rw [flat_len _ _ Blower.vals_len, List.length_take]; congr 1; omega
      have HF := Lib.hid hfl; have HT := Lib.hid htake
      generalize t[k] = e at hx0 hx1 hx2 HT
      clear ha hc0 hc1 hc2 htake hfl
      go_wp2_with (go_at_call 56; (refine (toBlower_any _ _ _ _).mono ?_; rintro e1 w1 ⟨rfl, hbu⟩; have hown1 := hown.ex hbu; have hcy0 := hown1.cell (k := k * 3) (by rw [List.length_append, HF.out, List.length_replicate]; omega); have hfy0 := hown1.free (k * 3); have hcy1 := hown1.cell (k := k * 3 + 1) (by rw [List.length_append, HF.out, List.length_replicate]; omega); have hfy1 := hown1.free (k * 3 + 1); have hcy2 := hown1.cell (k := k * 3 + 2) (by rw [List.length_append, HF.out, List.length_replicate]; omega); have hfy2 := hown1.free (k * 3 + 2); clear hown1))
      have hown1 := hown.ex hbu
      have hrep : List.replicate ((t.length - k) * 3) (Value.int .i64 0) = Value.int .i64 0 :: Value.int .i64 0 :: Value.int .i64 0 :: List.replicate ((t.length - (k + 1)) * 3) (Value.int .i64 0) := by
        have : (t.length - k) * 3 = (t.length - (k + 1)) * 3 + 3 := by omega
        rw [this]; rfl
      have hnew := (((hown1).set (k * 3) (.int .i64 e.power)).set (k * 3 + 1) (.int .i64 e.hour)).set (k * 3 + 2) (.int .i64 e.start)
      rw [hrep, set3 _ _ _ _ _ _ _ _ _ HF.out] at hnew
      have hb2 := ((((below_next hb hb.size hbu).setCell (p := ⟨w.heap.size, k * 3, none⟩) (Nat.le_refl _) (.int .i64 e.power)).setCell (p := ⟨w.heap.size, k * 3 + 1, none⟩) (Nat.le_refl _) (.int .i64 e.hour)).setCell (p := ⟨w.heap.size, k * 3 + 2, none⟩) (Nat.le_refl _) (.int .i64 e.start))
      have hsz2 : w.heap.size < ((((w1.setCell ⟨w.heap.size, k * 3, none⟩ (.int .i64 e.power)).setCell ⟨w.heap.size, k * 3 + 1, none⟩ (.int .i64 e.hour)).setCell ⟨w.heap.size, k * 3 + 2, none⟩ (.int .i64 e.start))).heap.size := by simp; have := hbu.size; omega
      have HN := Lib.hid hnew; have HB := Lib.hid hb2
      clear hnew hb2 hrep hown1 hown hb hbu
      go_roundw
      case rel => exact ⟨k + 1, by omega, by go_num, by rw [HT.out, List.flatMap_append]; exact HN.out, HB.out, hsz2⟩
      case measure => simp [intOf]; omega
    · obtain rfl : k = t.length := by omega
      have HO := Lib.hid hown
      clear hown
      go_wp2
      go_ret
      exact ⟨_, _, rfl, by simpa [OwBlower] using HO.out, hb⟩

set_option maxHeartbeats 1000000 in
theorem eqBlowerS_any (v u : Value) (xs ys : List Blower) (w : World) (hv : SlBlower w v xs) (hu : SlBlower w u ys) :
    Calls Try.prog 23 #[v, u] w fun e w' => e = .returned (.bool (decide (xs = ys))) ∧ Below w.heap.size w w' := by
  obtain ⟨A, ca, rfl, hla, ha⟩ := hv.op
  obtain ⟨B, cb, rfl, hlb, hb⟩ := hu.op
  clear hv hu
  by_cases hl : xs.length = ys.length
  · have hl1 : ((xs.length : Int) != (ys.length : Int)) = false := by simp [hl]
    have HL := Lib.hid hl; clear hl
    go_enter Try.func23, Try.ntmps23
    go_wp2
    go_loopw [5] (fun i wr => ∃ k : Nat, k ≤ xs.length ∧ i = .int .i64 k ∧ Hid (xs.take k = ys.take k) ∧ Below w.heap.size w wr) (fun i _ => xs.length - (intOf i).toNat)
    case atStart => exact ⟨0, Nat.zero_le _, rfl, rfl, Below.refl _ _⟩
    case round =>
      obtain ⟨k, hk, rfl, htk, hbl⟩ := hrel
      by_cases hlt : k < xs.length
      · have hlt2 : k < ys.length := by have := HL.out; omega
        obtain ⟨b1, o1, rfl, hb1, hc0, hc1, hc2⟩ := ha k hlt
        obtain ⟨b2, o2, rfl, hb2, hd0, hd1, hd2⟩ := hb k hlt2
        have hx0 := cell_plus ((hbl.cell (p := ⟨b1, o1 + k * 3, none⟩) hb1).trans hc0)
        have hx1 := cell_plus ((hbl.cell (p := ⟨b1, o1 + k * 3 + 1, none⟩) hb1).trans hc1)
        have hx2 := cell_plus ((hbl.cell (p := ⟨b1, o1 + k * 3 + 2, none⟩) hb1).trans hc2)
        have hy0 := cell_plus ((hbl.cell (p := ⟨b2, o2 + k * 3, none⟩) hb2).trans hd0)
        have hy1 := cell_plus ((hbl.cell (p := ⟨b2, o2 + k * 3 + 1, none⟩) hb2).trans hd1)
        have hy2 := cell_plus ((hbl.cell (p := ⟨b2, o2 + k * 3 + 2, none⟩) hb2).trans hd2)
        have HT := Lib.hid (take_succ_eq xs ys k hlt hlt2)
        generalize xs[k] = x at hx0 hx1 hx2 HT
        generalize ys[k] = y at hy0 hy1 hy2 HT
        have hlti : (k : Int) < (xs.length : Int) := by omega
        have hlti2 : (k : Int) < (ys.length : Int) := by omega
        have HB := Lib.hid hbl
        clear ha hb hc0 hc1 hc2 hd0 hd1 hd2 hbl
        go_wp2
        refine wp_region_plus (by kernel_rfl) (by kernel_rfl) ?_
        repeat (go_big_quiet_step (((go_at_call 60; exact plus_below (eqBlower_any _ _ _ _ _ _ _)))))
        refine wpQuiet_nil ?_
        intro wq hwq
        replace hwq := below_of_plus hwq
        have hq := below_next HB.out HB.out.size hwq
        cases hd : Blower.same ⟨x.power, x.hour, x.start⟩ ⟨y.power, y.hour, y.start⟩ with
        | true =>
          go_wp2
          go_roundw
          case rel => exact ⟨k + 1, by omega, by go_num, HT.out.2 ⟨htk.out, Blower.same_iff.1 hd⟩, hq⟩
          case measure => simp [intOf]; omega
        | false =>
          go_wp2
          go_ret
          exact ⟨ret_bool (by
            symm; rw [decide_eq_false_iff_not]; intro h
            have := (HT.out.1 (by rw [h])).2
            rw [this, Blower.same_iff.2 rfl] at hd; cases hd), hq⟩
      · go_wp2
        go_ret
        exact ⟨ret_bool (by symm; rw [decide_eq_true_iff]; have := htk.out; have h2 := HL.out; rwa [List.take_of_length_le (by omega), List.take_of_length_le (by omega)] at this), hbl⟩
  · have hl1 : ((xs.length : Int) != (ys.length : Int)) = true := by simp; omega
    go_enter Try.func23, Try.ntmps23
    go_wp2
    go_ret
    exact ⟨ret_bool (by symm; rw [decide_eq_false_iff_not]; intro h; apply hl; rw [h]), Below.refl _ _⟩

def Blower.nums (t : Blower) : List Int := [t.power, t.hour, t.start]
theorem Blower.vals_nums (t : List Blower) : t.flatMap Blower.vals = (t.flatMap Blower.nums).map (Value.int .i64) := by
  rw [List.map_flatMap]; rfl
theorem Blower.nums_len (t : List Blower) : (t.flatMap Blower.nums).length = t.length * 3 := flat_len Blower.nums 3 (fun _ => rfl) t

set_option maxHeartbeats 1000000 in
theorem markBlowerS_any (v : Value) (n : Nat) (xs : List Int) (k0 : Int) (w : World) (lo : Nat) (hv : Ow w lo 62 3 v n (xs.map (Value.int .i64))) (h0 : 0 ≤ k0) (h1 : k0 ≤ 1152921504606846976) :
    Calls Try.prog 40 #[v, .int .i64 k0] w fun e w' => e = .returned (.int .i64 (k0 + xs.length)) ∧ Ow w' lo 62 3 v n ((marks k0 xs.length).map (Value.int .i64)) ∧ w.grownBy w' v.ownBlock := by
  have hla := hv.le
  have hxl : xs.length = n * 3 := by simpa using hv.len
  rcases Ow.form hv with ⟨rfl, rfl, hx⟩ | ⟨g, c, rfl, hlo, hlt, _⟩
  · have hx : xs = [] := by simpa using hx
    subst hx
    have HV := Lib.hid hv
    clear hv hxl
    go_enter Try.func40, Try.ntmps40
    go_wp2
    go_loopw [1, 5] (fun k i wr => i = .int .i64 0 ∧ k = .int .i64 k0 ∧ w = wr) (fun _ i _ => 0 - (intOf i).toNat)
    case atStart => exact ⟨rfl, rfl, rfl⟩
    case round =>
      obtain ⟨rfl, rfl, rfl⟩ := hrel
      go_wp2
      go_ret
      exact ⟨ret_int (by simp), HV.out, World.grownBy.refl _ _⟩
  · have HV := Lib.hid hv; have HX := Lib.hid hxl
    clear hv hxl
    go_enter Try.func40, Try.ntmps40
    go_wp2
    go_loopw [1, 5] (fun k i wr => ∃ m : Nat, m ≤ n ∧ i = .int .i64 m ∧ k = .int .i64 (k0 + (m : Int) * 3) ∧ Ow wr lo 62 3 (.slice (some ⟨g, 0, none⟩) n c) n ((marked k0 xs (m * 3)).map (Value.int .i64)) ∧ w.grownBy wr (some g)) (fun _ i _ => n - (intOf i).toNat)
    case atStart => exact ⟨0, Nat.zero_le _, rfl, by simp, by simpa [marked, marks] using HV.out, World.grownBy.refl _ _⟩
    case round =>
      obtain ⟨m, hm, rfl, rfl, hown, hg⟩ := hrel
      by_cases hml : m < n
      · have hlen : ((marked k0 xs (m * 3)).map (Value.int .i64)).length = n * 3 := by rw [List.length_map, marked_length _ _ _ (by have := HX.out; omega)]; exact HX.out
        have HL := Lib.hid hlen; clear hlen
        have hcy0 := hown.cell (k := m * 3) (by have := HL.out; omega); have hfy0 := hown.free (m * 3)
        have hcy1 := hown.cell (k := m * 3 + 1) (by have := HL.out; omega); have hfy1 := hown.free (m * 3 + 1)
        have hcy2 := hown.cell (k := m * 3 + 2) (by have := HL.out; omega); have hfy2 := hown.free (m * 3 + 2)
        have o1 := hown.set (m * 3) (Value.int .i64 (k0 + (m : Int) * 3))
        have o2 := o1.set (m * 3 + 1) (Value.int .i64 (k0 + (m : Int) * 3 + 1))
        have o3 := o2.set (m * 3 + 2) (Value.int .i64 (k0 + (m : Int) * 3 + 1 + 1))
        have hg2 := (grown_trans (grown_trans (grown_trans hg (hown.grow (k := m * 3) (Value.int .i64 (k0 + (m : Int) * 3)))) (o1.grow (k := m * 3 + 1) (Value.int .i64 (k0 + (m : Int) * 3 + 1)))) (o2.grow (k := m * 3 + 2) (Value.int .i64 (k0 + (m : Int) * 3 + 1 + 1))))
        rw [← List.map_set, ← List.map_set, ← List.map_set] at o3
        have HO := Lib.hid o3; have HG := Lib.hid hg2
        clear o1 o2 o3 hg2 hg hown
        go_wp2
        go_roundw
        case rel =>
          refine ⟨m + 1, by omega, by go_num, by congr 1; omega, ?_, HG.out⟩
          have h3 := HO.out
          rw [marked_setU _ _ _ _ (by have := HX.out; omega) (by omega)] at h3
          rw [marked_setU _ _ _ _ (by have := HX.out; omega) (by omega)] at h3
          rw [marked_setU _ _ _ _ (by have := HX.out; omega) (by omega)] at h3
          have e5 : m * 3 + 3 = (m + 1) * 3 := by omega
          rw [← e5]; exact h3
        case measure => simp [intOf]; omega
      · obtain rfl : m = n := by omega
        have HO := Lib.hid hown; clear hown
        go_wp2
        go_ret
        refine ⟨ret_int (by have := HX.out; omega), ?_, hg⟩
        have h2 := HO.out
        have h3 := HX.out
        rw [← h3] at h2
        simpa [marked] using h2


end Go.Proofs.Ytjleabgoajoegaa
