/-
The functions of the statements over slices of slices of int64 (size, copy, equality, marks, held): each by its contract. Conditions: the slices read as lists of lists of int64; lengths as the form's reach bounds them.
-/
import Derived.Test.YtlgeddbgbcineaaInts
namespace Go.Proofs.Ytlgeddbgbcineaa
open Go.RowKit
set_option linter.unusedVariables false

theorem infoII : (Try.prog.info? 49).map (fun i => (i.zero, i.size, i.bytes)) = some (some (.slice none 0 0), 1, 24) := by kernel_rfl

def total (xss : List (List Int)) : Nat := xss.length + (xss.map List.length).sum
/-- the answer of a size: -1, or what is left -/
def SzPost (l : Int) (t : Nat) (e : Ending) : Prop := ∃ r : Int, e = .returned (.int .i64 r) ∧ (r = -1 ∨ (0 ≤ r ∧ r = l - (t : Int)))

theorem szInt64SS_any (v : Value) (xss : List (List Int)) (l : Int) (w : World) (hv : SlII w v xss) (h0 : 0 ≤ l) (h1 : l ≤ 1048576) :
    Calls Try.prog 14 #[v, .int .i64 l] w fun e w' => SzPost l (total xss) e ∧ w = w' := by
  obtain ⟨A, c, rfl, hla, ha⟩ := hv.op
  clear hv
  by_cases hneg : l - (xss.length : Int) < 0
  · go_enter Try.func14, Try.ntmps14
    go_wp2
    go_ret
    exact ⟨⟨-1, rfl, .inl rfl⟩, rfl⟩
  · go_enter Try.func14, Try.ntmps14
    go_wp2
    go_loop [1, 5] (fun lv i => ∃ (k : Nat) (r : Int), k ≤ xss.length ∧ i = .int .i64 k ∧ lv = .int .i64 r ∧ 0 ≤ r ∧ r ≤ 1048576 ∧ Hid (r = l - (xss.length : Int) - (((xss.take k).map List.length).sum : Int))) (fun _ i => xss.length - (intOf i).toNat)
    case atStart => exact ⟨0, _, Nat.zero_le _, rfl, rfl, by omega, by omega, (show _ = _ by simp)⟩
    case round =>
      obtain ⟨k, r, hk, rfl, rfl, hr0, hr1, hr⟩ := hrel
      by_cases hlt : k < xss.length
      · obtain ⟨b, o, A', c', rfl, hbs, hc, hrow⟩ := ha k hlt
        have hsum : (((xss.take (k + 1)).map List.length).sum : Nat) = ((xss.take k).map List.length).sum + xss[k].length := by
          rw [List.take_succ_eq_append_getElem hlt, List.map_append, List.sum_append]; simp only [List.map_cons, List.map_nil, List.sum_cons, List.sum_nil, Nat.add_zero]
        have HS := Lib.hid hsum
        have hle := hrow.le
        generalize hx : xss[k] = x at hc hrow HS hle
        have hlti : (k : Int) < (xss.length : Int) := by omega
        clear ha hsum hrow hx
        by_cases hn : r - (x.length : Int) < 0
        · have HE := Lib.hid (szOf_neg hn)
          go_wp2_with (go_at_call 49; refine (szInt64S_any _ _ _ _ _ hle hr0 hr1).mono ?_; rintro e w' ⟨rfl, rfl⟩; rw [HE.out])
          go_ret
          exact ⟨⟨-1, rfl, .inl rfl⟩, rfl⟩
        · have HE := Lib.hid (szOf_pos hn)
          go_wp2_with (go_at_call 49; refine (szInt64S_any _ _ _ _ _ hle hr0 hr1).mono ?_; rintro e w' ⟨rfl, rfl⟩; rw [HE.out])
          go_round
          case rel => exact ⟨k + 1, _, by omega, by go_num, rfl, by omega, by omega, (show _ = _ by have h1 := hr.out; have h2 := HS.out; omega)⟩
          case measure => simp [intOf]; omega
      · obtain rfl : k = xss.length := by omega
        go_wp2
        go_ret
        exact ⟨⟨_, rfl, .inr ⟨hr0, by have h1 := hr.out; rw [List.take_of_length_le (Nat.le_refl _)] at h1; unfold total; omega⟩⟩, rfl⟩

/-- slices of slices whose rows the call itself made, no two of them one -/
structure OwII (w : World) (lo : Nat) (v : Value) (us : List Value) (xss : List (List Int)) : Prop where
  outer : Ow w lo 49 1 v xss.length us
  row : ∀ (i : Nat) (h : i < us.length) (h' : i < xss.length), OwI w lo us[i] xss[i]
  apart : ∀ (i j : Nat) (h : i < us.length) (h' : j < us.length), i ≠ j → Sep us[i] us[j]

theorem OwII.sl {w : World} {lo : Nat} {v : Value} {us : List Value} {xss : List (List Int)} (h : OwII w lo v us xss) : SlII w v xss := ⟨us, h.outer.sl, fun i h1 h2 => (h.row i h1 h2).sl⟩

theorem OwII.ex {w w' : World} {lo : Nat} {v : Value} {us : List Value} {xss : List (List Int)} (h : OwII w lo v us xss) (hb : Below w.heap.size w w') : OwII w' lo v us xss :=
  ⟨h.outer.ex hb, fun i h1 h2 => (h.row i h1 h2).ex hb, h.apart⟩

set_option maxHeartbeats 1000000 in
theorem toInt64SS_any (v : Value) (xss : List (List Int)) (w : World) (hv : SlII w v xss) (hsm : xss.length ≤ 1048576) :
    Calls Try.prog 16 #[v] w fun e w' => ∃ A c us, e = .returned (.slice A xss.length c) ∧ OwII w' w.heap.size (.slice A xss.length c) us xss ∧ Below w.heap.size w w' := by
  obtain ⟨A, ca, rfl, hla, ha⟩ := hv.op
  clear hv
  go_enter Try.func16, Try.ntmps16
  go_wp2_with (with_reducible refine wpList_make1 _ rfl (.tmp 6) (.tmp 6) _ rfl w.heap.size 49 (.slice none 0 0) 24 Try.underlying22 infoII rfl _ _ xss.length rfl rfl (by omega) hla (Nat.le_refl _) ?_; intro w1 hown hb hsz)
  go_loopw [4] (fun i wr => ∃ (k : Nat) (us : List Value), k ≤ xss.length ∧ i = .int .i64 k ∧ us.length = k ∧ Ow wr w.heap.size 49 1 (.slice (some ⟨w.heap.size, 0, none⟩) xss.length xss.length) xss.length (us ++ List.replicate (xss.length - k) (Value.slice none 0 0)) ∧
      Hid (∀ (i : Nat) (h : i < us.length) (h' : i < xss.length), OwI wr w.heap.size us[i] xss[i]) ∧ Hid (∀ (i j : Nat) (h : i < us.length) (h' : j < us.length), i ≠ j → Sep us[i] us[j]) ∧ Below w.heap.size w wr ∧ w.heap.size < wr.heap.size) (fun i _ => xss.length - (intOf i).toNat)
  case atStart => exact ⟨0, [], Nat.zero_le _, rfl, rfl, by simpa using hown, (fun i h _ => absurd h (by simp)), (fun i j h _ => absurd h (by simp)), hb, hsz⟩
  case round =>
    clear hown hb hsz
    obtain ⟨k, us, hk, rfl, hul, hown, hrow, hap, hb, hsz⟩ := hrel
    have HU := Lib.hid hul; clear hul
    by_cases hlt : k < xss.length
    · obtain ⟨b1, o1, A', c', rfl, hb1, hc1, hr1⟩ := ha k hlt
      have hcx : wr.cell? ⟨b1, o1 + k, none⟩ = some (.slice A' xss[k].length c') := (hb.cell (p := ⟨b1, o1 + k, none⟩) hb1).trans hc1
      have hlti : (k : Int) < (xss.length : Int) := by omega
      have hrx := hr1.ex hb
      generalize hx : xss[k] = x at hcx hrx
      have HX := Lib.hid hx
      clear ha hc1 hr1 hx
      go_wp2_with (go_at_call 51; (refine (toInt64S_any _ _ _ hrx).mono ?_; rintro e w1 ⟨A2, c2, rfl, hou, hbu⟩; have hown1 := hown.ex hbu; have hle : k < (us ++ List.replicate (xss.length - k) (Value.slice none 0 0)).length := (by have := HU.out; simp; omega); have hcy := hown1.cell hle; have hfy := hown1.free k; clear hown1))
      have hown1 := hown.ex hbu
      generalize Value.slice A2 x.length c2 = u at hou ⊢
      have hnew := hown1.set k u
      rw [set_take_rep us k _ _ hlt _ HU.out] at hnew
      have hg := hown1.grow (k := k) u
      have hsep : Sep u (.slice (some ⟨w.heap.size, 0, none⟩) xss.length xss.length) := Ow.sep_type hou hown1 (by decide)
      have hou2 := OwI.keptS hou hg hsep
      have hb2 := (below_next hb hb.size hbu).setCell (p := ⟨w.heap.size, k, none⟩) (Nat.le_refl _) u
      have hsz2 : w.heap.size < (w1.setCell ⟨w.heap.size, k, none⟩ u).heap.size := by have h1 := hbu.size; have h2 := hg.size; omega
      have HN := Lib.hid hnew; have HB := Lib.hid hb2; have HO := Lib.hid hou2
      have HR : Hid (∀ (i : Nat) (h : i < (us ++ [u]).length) (h' : i < xss.length), OwI (w1.setCell ⟨w.heap.size, k, none⟩ u) w.heap.size (us ++ [u])[i] xss[i]) := Lib.hid fun i h h' => by
        have hul := HU.out
        by_cases hik : i < us.length
        · rw [List.getElem_append_left hik]
          have h1 := hrow.out i hik h'
          exact OwI.keptS (u := .slice (some ⟨w.heap.size, 0, none⟩) xss.length xss.length) (h1.ex hbu) hg (Ow.sep_type (h1.ex hbu) hown1 (by decide))
        · have hi : i = k := by simp at h; omega
          subst hi
          have e1 : (us ++ [u])[i] = u := by simp [List.getElem_append_right, hul]
          rw [e1, HX.out]
          exact HO.out.mono (by have := hb.size; omega)
      have HA : Hid (∀ (i j : Nat) (h : i < (us ++ [u]).length) (h' : j < (us ++ [u]).length), i ≠ j → Sep (us ++ [u])[i] (us ++ [u])[j]) := Lib.hid fun i j h h' hij => by
        have hul := HU.out
        by_cases hik : i < us.length
        · rw [List.getElem_append_left hik]
          by_cases hjk : j < us.length
          · rw [List.getElem_append_left hjk]; exact hap.out i j hik hjk hij
          · have e1 : (us ++ [u])[j] = u := by
              have hj : j = us.length := by simp at h'; omega
              subst hj; simp
            rw [e1]; exact Ow.sep_new (hrow.out i hik (by omega)) hou (Nat.le_refl _)
        · have e1 : (us ++ [u])[i] = u := by
            have hj : i = us.length := by simp at h; omega
            subst hj; simp
          have hjk : j < us.length := by simp at h h'; omega
          rw [e1, List.getElem_append_left hjk]
          exact Ow.sep_new' (hrow.out j hjk (by omega)) hou (Nat.le_refl _)
      clear hnew hb2 hou2 hou hbu hsep hg hown1 hown hb hrow hap hcx hrx
      go_roundw
      case rel => exact ⟨k + 1, us ++ [u], by omega, by go_num, by simp [HU.out], HN.out, HR, HA, HB.out, hsz2⟩
      case measure => simp [intOf]; omega
    · obtain rfl : k = xss.length := by omega
      have HO := Lib.hid hown
      clear hown
      go_wp2
      go_ret
      refine ⟨_, _, us, rfl, ⟨by simpa using HO.out, hrow.out, hap.out⟩, hb⟩

set_option maxHeartbeats 1000000 in
theorem eqInt64SS_any (v u : Value) (xss yss : List (List Int)) (w : World) (hv : SlII w v xss) (hu : SlII w u yss) :
    Calls Try.prog 18 #[v, u] w fun e w' => e = .returned (.bool (decide (xss = yss))) ∧ Below w.heap.size w w' := by
  obtain ⟨A, ca, rfl, hla, ha⟩ := hv.op
  obtain ⟨B, cb, rfl, hlb, hb⟩ := hu.op
  clear hv hu
  by_cases hl : xss.length = yss.length
  · have hl1 : ((xss.length : Int) != (yss.length : Int)) = false := by simp [hl]
    have HL := Lib.hid hl; clear hl
    go_enter Try.func18, Try.ntmps18
    go_wp2
    go_loopw [5] (fun i wr => ∃ k : Nat, k ≤ xss.length ∧ i = .int .i64 k ∧ Hid (xss.take k = yss.take k) ∧ Below w.heap.size w wr) (fun i _ => xss.length - (intOf i).toNat)
    case atStart => exact ⟨0, Nat.zero_le _, rfl, rfl, Below.refl _ _⟩
    case round =>
      obtain ⟨k, hk, rfl, htk, hbl⟩ := hrel
      by_cases hlt : k < xss.length
      · have hlt2 : k < yss.length := by have := HL.out; omega
        obtain ⟨b1, o1, A1, c1, rfl, hb1, hc1, hr1⟩ := ha k hlt
        obtain ⟨b2, o2, A2, c2, rfl, hb2, hc2, hr2⟩ := hb k hlt2
        have hx1 := cell_plus ((hbl.cell (p := ⟨b1, o1 + k, none⟩) hb1).trans hc1)
        have hx2 := cell_plus ((hbl.cell (p := ⟨b2, o2 + k, none⟩) hb2).trans hc2)
        have HT := Lib.hid (take_succ_eq xss yss k hlt hlt2)
        have hr1 := hr1.ex hbl
        have hr2 := hr2.ex hbl
        generalize xss[k] = x at hx1 hr1 HT
        generalize yss[k] = y at hx2 hr2 HT
        have hlti : (k : Int) < (xss.length : Int) := by omega
        have hlti2 : (k : Int) < (yss.length : Int) := by omega
        have HB := Lib.hid hbl
        have HE := Lib.hid (fun W (hW : Below wr.heap.size wr W) => eqInt64S_any _ _ x y W (hr1.ex hW) (hr2.ex hW))
        clear ha hb hc1 hc2 hr1 hr2 hbl
        go_wp2
        refine wp_region_plus (by kernel_rfl) (by kernel_rfl) ?_
        repeat (go_big_quiet_step (((go_at_call 34; exact plus_drew (HE.out _ (below_plus _ _))))))
        refine wpQuiet_nil ?_
        intro wq hwq
        replace hwq := below_of_plus hwq
        have hq := below_next HB.out HB.out.size hwq
        cases hd : decide (x = y) with
        | true =>
          go_wp2
          go_roundw
          case rel => exact ⟨k + 1, by omega, by go_num, HT.out.2 ⟨htk.out, by simpa using hd⟩, hq⟩
          case measure => simp [intOf]; omega
        | false =>
          go_wp2
          go_ret
          exact ⟨ret_bool (by
            symm; rw [decide_eq_false_iff_not]; intro h
            have := (HT.out.1 (by rw [h])).2
            simp [this] at hd), hq⟩
      · go_wp2
        go_ret
        exact ⟨ret_bool (by symm; rw [decide_eq_true_iff]; have := htk.out; have h2 := HL.out; rwa [List.take_of_length_le (by omega), List.take_of_length_le (by omega)] at this), hbl⟩
  · have hl1 : ((xss.length : Int) != (yss.length : Int)) = true := by simp; omega
    go_enter Try.func18, Try.ntmps18
    go_wp2
    go_ret
    exact ⟨ret_bool (by symm; rw [decide_eq_false_iff_not]; intro h; apply hl; rw [h]), Below.refl _ _⟩
end Go.Proofs.Ytlgeddbgbcineaa
