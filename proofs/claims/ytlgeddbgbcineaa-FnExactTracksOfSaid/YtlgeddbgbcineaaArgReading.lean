/-
How an argument that is a slice of Readings of the statements opens. Condition: the form's own reach.
-/
import Derived.Test.YtlgeddbgbcineaaLaw
import Derived.Test.YtlgeddbgbcineaaStrReading
namespace Go.Proofs.Ytlgeddbgbcineaa
open Go.ChangeShapes Go.WideShapes Go.ChangeAt Go.RowKit Go.Deep Go.Joins
set_option linter.unusedVariables false

theorem openReading {H : Type} {enc : TypeId × Value → H} {P : Program} {W : World} {base fuel : Nat} {t e i0 : TypeId} {v : Value} {d : DataW H} {p : List MemPlace} {fs : Array Field}
    (hu : P.underlying t = some (.slice e)) (hue : P.underlying e = some (.struct fs)) (he : P.underlying i0 = some (.int .i64)) (hfs : fs.toList.map (fun f => (f.offset, f.type)) = [(0, i0), (1, i0)]) (hce : P.cellsOf e = 2) (hc : P.cellsOf i0 = 1) (hby : P.bytesOf e = 16)
    (h : DataW.trod enc P W base (fun _ => true) true fuel t [v] = some (d, p)) (hw : ∀ n ∈ d.weights P t, n ≤ reachBytes) : ∃ ts, SlReading W v ts := by
  rcases open_slice hu h with ⟨hcs, _⟩ | ⟨a, len, cap, m, n, D, Pl, hcs, _, hl, hm, hmm, hx, hi⟩
  · injection hcs with hv _
    subst hv
    exact ⟨[], none, 0, rfl, rfl, by simp, fun h => absurd h (by simp)⟩
  · injection hcs with hv _
    subst hv
    simp only [if_true] at hmm
    subst hmm
    injection hx with hd _
    subst hd
    have h1 := hw _ (by simp only [DataW.weights, hu]; exact List.mem_cons_self)
    simp only [List.length_map, List.length_range, hby, reachBytes] at h1
    have hall : ∀ i, i < len → ∃ r : Reading, ∀ j (hj : j < 2), W.cell? (a.add (i * 2 + j)) = some (r.vals[j]'hj) := by
      intro i hil
      obtain ⟨cs', hc1, ht⟩ := hi i (by omega)
      rw [hce] at hc1
      obtain ⟨_, hcl, hat⟩ := World.cells?_some hc1
      obtain ⟨xs, n2, _, _, _, hl2, hg⟩ := DataW.trod_struct hue ht
      have hf : ∀ j (hj : j < 2), ∃ x : Int, cs'[j]? = some (.int .i64 x) := by
        intro j hj
        have hsz : fs.size = 2 := by have := congrArg List.length hfs; simpa using this
        have hfj : fs[j]? = some (fs[j]'(by omega)) := Array.getElem?_eq_getElem (by omega)
        have h2 := hg j _ hfj
        have h3 : ((fs.toList.map (fun f => (f.offset, f.type)))[j]?) = some (j, i0) := by rw [hfs]; match j, hj with | 0, _ => rfl | 1, _ => rfl
        have h4 : (fs[j]'(by omega)).offset = j ∧ (fs[j]'(by omega)).type = i0 := by
          have hlt : j < fs.size := by omega
          simpa [hlt] using h3
        rw [h4.1, h4.2, hc] at h2
        have hjc : j < cs'.length := by omega
        have hone : (cs'.drop j).take 1 = [cs'[j]] := by rw [List.drop_eq_getElem_cons hjc]; rfl
        rw [hone] at h2
        have hxj : ∃ y, xs[j]? = some y := by
          cases hxs : xs[j]? with
          | some y => exact ⟨y, rfl⟩
          | none =>
            rw [hxs] at h2
            rw [List.getElem?_eq_getElem (by omega)] at hxs; cases hxs
        obtain ⟨y, hy⟩ := hxj
        rw [hy] at h2
        obtain ⟨x, e0, _, _⟩ := DataW.trod_int he h2
        injection e0 with e0 _
        exact ⟨x, by rw [List.getElem?_eq_getElem hjc, e0]⟩
      obtain ⟨x0, hx0⟩ := hf 0 (by omega)
      obtain ⟨x1, hx1⟩ := hf 1 (by omega)
      refine ⟨⟨x0, x1⟩, fun j hj => ?_⟩
      have h5 := hat j hj
      rw [← Go.Deep.add_add]
      match j, hj with
      | 0, hj => rw [h5, hx0]; rfl
      | 1, hj => rw [h5, hx1]; rfl
    have hex : ∃ ts : List Reading, ts.length = len ∧ ∀ i (h2 : i < ts.length) j (hj : j < 2), W.cell? (a.add (i * 2 + j)) = some ((ts[i].vals)[j]'hj) := by
      clear hi h hw hl hm h1
      induction len with
      | zero => exact ⟨[], rfl, fun i h => absurd h (by simp)⟩
      | succ k ih =>
        obtain ⟨ts, hx1, hi1⟩ := ih (fun i hi => hall i (by omega))
        obtain ⟨r, hr⟩ := hall k (by omega)
        refine ⟨ts ++ [r], by simp [hx1], fun i h2 j hj => ?_⟩
        by_cases hik : i < k
        · simp only [List.getElem_append_left (show i < ts.length from by omega)]
          exact hi1 i (by omega) j hj
        · have hik' : i = k := by simp [hx1] at h2; omega
          subst hik'
          have e2 : (ts ++ [r])[i] = r := by simp [List.getElem_append_right, hx1]
          simp only [e2]; exact hr j hj
    obtain ⟨ts, hx1, hi1⟩ := hex
    refine ⟨ts, some a, _, by rw [hx1], flat_len _ _ Reading.vals_len ts, by omega, cel_of_add fun i hil => ?_⟩
    have hln : i < ts.length * 2 := by rw [flat_len _ _ Reading.vals_len ts] at hil; exact hil
    have h6 := hi1 (i / 2) (by omega) (i % 2) (by omega)
    have h7 : i / 2 * 2 + i % 2 = i := by omega
    rw [h7] at h6
    rw [h6]
    have h8 := flat_get Reading.vals 2 Reading.vals_len ts (i / 2) (by omega) (i % 2) (by omega)
    rw [h7, List.getElem?_eq_getElem hil, List.getElem?_eq_getElem (by rw [Reading.vals_len]; omega)] at h8
    injection h8 with h8
    exact congrArg some h8.symm

theorem argReading {H : Type} {enc : TypeId × Value → H} {P : Program} {W : World} {base : Nat} {t e i0 : TypeId} {v : Value} {d : DataW H} {p : List MemPlace} {fs : Array Field} {r : Reach} {b0 : Nat}
    (hu : P.underlying t = some (.slice e)) (hue : P.underlying e = some (.struct fs)) (he : P.underlying i0 = some (.int .i64)) (hfs : fs.toList.map (fun f => (f.offset, f.type)) = [(0, i0), (1, i0)]) (hce : P.cellsOf e = 2) (hc : P.cellsOf i0 = 1) (hby : P.bytesOf e = 16)
    (hv : Value.okWide P W r b0 t v) (h : DataW.Trod enc P W base (fun _ => true) true t v d p) (hw : ∀ n ∈ d.weights P t, n ≤ reachBytes) : ∃ ts, SlReading W v ts := by
  obtain ⟨a0, len, cap, rfl⟩ := okWide_slice hu hv
  obtain ⟨fuel, hf⟩ := h
  exact openReading hu hue he hfs hce hc hby (by simpa [Value.cells] using hf) hw
end Go.Proofs.Ytlgeddbgbcineaa
