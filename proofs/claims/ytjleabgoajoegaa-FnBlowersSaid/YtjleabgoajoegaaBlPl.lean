/-
Plain laws of FnBlowers: what a day costs is made of hours and starts; the best day meets all needs and costs no more than the cheapest hours. No program.
-/
import Derived.Test.YtjleabgoajoegaaBlowG
import Derived.Test.YtjleabgoajoegaaBestC
namespace Go.Proofs.Ytjleabgoajoegaa
set_option linter.unusedVariables false
set_option linter.unusedSimpArgs false

def sumN (f : Nat → Int) : Nat → Int
  | 0 => 0
  | n + 1 => sumN f n + f n
/-- what a blower's hours and starts cost, of the first k hours -/
def tT (ts : List Blower) (ss : List Int) (k i : Nat) : Int := match ts[i]? with | some t => hoursL (runsU (onB ss (i : Int)) k) * t.hour + ((runsU (onB ss (i : Int)) k).length : Int) * t.start | none => 0
theorem tT_at {ts : List Blower} {ss : List Int} {k i : Nat} (hi : i < ts.length) : tT ts ss k i = hoursL (runsU (onB ss (i : Int)) k) * ts[i].hour + ((runsU (onB ss (i : Int)) k).length : Int) * ts[i].start := by simp [tT, hi]
theorem tT_zero (ts : List Blower) (ss : List Int) (i : Nat) : tT ts ss 0 i = 0 := by
  unfold tT; cases ts[i]? <;> simp [runsU, hoursL]
theorem sumN_zero (ts : List Blower) (ss : List Int) : ∀ m, sumN (tT ts ss 0) m = 0
  | 0 => rfl
  | m + 1 => by show sumN (tT ts ss 0) m + tT ts ss 0 m = 0; rw [sumN_zero ts ss m, tT_zero]; rfl
theorem was_prev (ss : List Int) (k m : Nat) : wasOn (onB ss (m : Int)) k = hasB (prevS ss k) (m : Int) := by
  unfold wasOn onB prevS
  by_cases hk : k = 0
  · subst hk; simp [hasB]
  · rw [if_neg hk, decide_eq_true (by omega : 0 < k), Bool.true_and]
theorem sum_step {ts : List Blower} {ss : List Int} {k : Nat} (hk : k < ss.length) : ∀ m, m ≤ ts.length → sumN (tT ts ss (k + 1)) m = sumN (tT ts ss k) m + stepS ts (prevS ss k) ss[k] m
  | 0, _ => rfl
  | m + 1, hm => by
    have ih := sum_step (ts := ts) hk m (by omega)
    have hml : m < ts.length := by omega
    show sumN (tT ts ss (k + 1)) m + tT ts ss (k + 1) m = sumN (tT ts ss k) m + tT ts ss k m + stepS ts (prevS ss k) ss[k] (m + 1)
    rw [ih, tT_at hml, tT_at hml]
    have hp : onB ss (m : Int) k = hasB ss[k] (m : Int) := by simp [onB, List.getD_eq_getElem?_getD, hk]
    have hw := was_prev ss k m
    cases h : hasB ss[k] (m : Int) with
    | false =>
      rw [h] at hp
      rw [runsU_no hp, stepS_no h]; omega
    | true =>
      rw [h] at hp
      rw [hoursL_on hp]
      cases hq : hasB (prevS ss k) (m : Int) with
      | true =>
        rw [hq] at hw
        rw [len_on hp hw, stepS_on hml h hq, Int.add_mul, Int.one_mul]; omega
      | false =>
        rw [hq] at hw
        rw [runsU_new hp hw, stepS_up hml h hq, Int.add_mul, Int.one_mul, List.length_append]
        simp only [List.length_cons, List.length_nil]
        rw [show (((runsU (onB ss (m : Int)) k).length + (0 + 1) : Nat) : Int) = ((runsU (onB ss (m : Int)) k).length : Int) + 1 by omega, Int.add_mul, Int.one_mul]
        omega
theorem cost_sum (ts : List Blower) (ss : List Int) : ∀ k, k ≤ ss.length → costS ts ss k = sumN (tT ts ss k) ts.length
  | 0, _ => by rw [sumN_zero]; rfl
  | k + 1, hk => by
    rw [costS_succ (by omega), cost_sum ts ss k (by omega), sum_step (by omega) ts.length (Nat.le_refl _)]
    rfl
/-! the best day -/
theorem out_get {ts : List Blower} {N : Nat} {ns : List Int} {m h : Nat} (hh : h < (outF ts N ns m).length) : (outF ts N ns m)[h] = ((befF ts N ns (h + 1) : Nat) : Int) := by simp [outF]
theorem prev_out {ts : List Blower} {N : Nat} {ns : List Int} {m h : Nat} (hh : h ≤ m) : prevS (outF ts N ns m) h = ((befF ts N ns h : Nat) : Int) := by
  cases h with
  | zero => rfl
  | succ h => rw [prevS_succ (by rw [outF_len]; omega), out_get]
theorem cost_best {ts : List Blower} (hs : ∀ b s, 0 ≤ stepT ts b s) {N : Nat} {ns : List Int} (h0 : 0 ≤ restF ts N ns 0) : ∀ h, h ≤ ns.length → costS ts (outF ts N ns ns.length) h + restF ts N (ns.drop h) (befF ts N ns h) = restF ts N ns 0
  | 0, _ => by simp [costS, befF]
  | h + 1, hh => by
    have ih := cost_best hs h0 h (by omega)
    obtain ⟨_, _, _, _, k5, _⟩ := bef_at hs (show h < ns.length by omega) (way_pos hs h0 h (by omega))
    rw [costS_succ (by rw [outF_len]; omega), out_get, prev_out (by omega)]
    omega
theorem cost_out {ts : List Blower} (hs : ∀ b s, 0 ≤ stepT ts b s) {N : Nat} {ns : List Int} (h0 : 0 ≤ restF ts N ns 0) : costS ts (outF ts N ns ns.length) ns.length = restF ts N ns 0 := by
  have h := cost_best hs h0 ns.length (Nat.le_refl _)
  rw [List.drop_length] at h
  have : restF ts N [] (befF ts N ns ns.length) = 0 := rfl
  omega
theorem out_bd {ts : List Blower} (hs : ∀ b s, 0 ≤ stepT ts b s) {N : Nat} (hN : 0 < N) {ns : List Int} (h0 : 0 ≤ restF ts N ns 0) : ∀ x ∈ outF ts N ns ns.length, 0 ≤ x ∧ x ≤ (N : Int) - 1 := fun x hx => by
  obtain ⟨h, hh, rfl⟩ := List.mem_iff_getElem.1 hx
  rw [out_get]
  have hl := hh
  rw [outF_len] at hl
  have := bef_lt hs hN h0 (h + 1) (by omega)
  omega
theorem out_meets {ts : List Blower} (hs : ∀ b s, 0 ≤ stepT ts b s) {N : Nat} {ns : List Int} (h0 : 0 ≤ restF ts N ns 0) : meetS ts ns (outF ts N ns ns.length) ns.length = true := by
  unfold meetS
  rw [List.all_eq_true]
  intro i hi
  have hi2 : i < ns.length := by simpa using hi
  obtain ⟨_, _, k3, _, _, _⟩ := bef_at hs hi2 (way_pos hs h0 i (by omega))
  have e : (outF ts N ns ns.length).getD i 0 = ((befF ts N ns (i + 1) : Nat) : Int) := by
    have hl : i < (outF ts N ns ns.length).length := by rw [outF_len]; exact hi2
    rw [List.getD_eq_getElem?_getD, List.getElem?_eq_getElem hl, out_get]; rfl
  rw [e]
  exact decide_eq_true k3
/-! the cheapest hours -/
theorem bestH_ok (ts : List Blower) (need : Int) : ∀ m, (bestH ts need m = -1 ∧ ∀ k : Nat, k < m → powT ts k < need) ∨ ∃ j : Nat, j < m ∧ bestH ts need m = (j : Int) ∧ need ≤ powT ts j
  | 0 => .inl ⟨rfl, fun k hk => by omega⟩
  | m + 1 => by
    by_cases h : need ≤ powT ts m ∧ (bestH ts need m < 0 ∨ stepT ts 0 m < stepT ts 0 (bestH ts need m))
    · exact .inr ⟨m, by omega, bestH_yes h, h.1⟩
    · rw [bestH_no h]
      rcases bestH_ok ts need m with ⟨h1, h2⟩ | ⟨j, h1, h2, h3⟩
      · refine .inl ⟨h1, fun k hk => ?_⟩
        by_cases e : k = m
        · subst e; omega
        · exact h2 k (by omega)
      · exact .inr ⟨j, by omega, h2, h3⟩
/-- what a list of sets costs behind a set -/
def costB (ts : List Blower) : Int → List Int → Int
  | _, [] => 0
  | b, s :: ss => stepT ts b s + costB ts s ss
theorem cost_costB (ts : List Blower) (ss : List Int) : ∀ k, k ≤ ss.length → costS ts ss k + costB ts (prevS ss k) (ss.drop k) = costB ts 0 ss
  | 0, _ => by simp [costS, prevS]
  | k + 1, hk => by
    have ih := cost_costB ts ss k (by omega)
    rw [List.drop_eq_getElem_cons (by omega : k < ss.length)] at ih
    rw [costS_succ (by omega), prevS_succ (by omega)]
    have : costB ts (prevS ss k) (ss[k] :: ss.drop (k + 1)) = stepT ts (prevS ss k) ss[k] + costB ts ss[k] (ss.drop (k + 1)) := rfl
    omega
theorem cost_all (ts : List Blower) (ss : List Int) : costS ts ss ss.length = costB ts 0 ss := by
  have h := cost_costB ts ss ss.length (Nat.le_refl _)
  rw [List.drop_length] at h
  have : costB ts (prevS ss ss.length) [] = 0 := rfl
  omega
theorem rest_min {ts : List Blower} (hs : ∀ b s, 0 ≤ stepT ts b s) {N : Nat} (hN : 0 < N) (hle : ∀ s : Nat, s < N → powT ts s ≤ powT ts ((N - 1 : Nat) : Int)) :
    ∀ (needs ss : List Int) (b : Nat), (∀ n ∈ needs, n ≤ powT ts ((N - 1 : Nat) : Int)) → ss.length = needs.length → (∀ (i : Nat) (h1 : i < ss.length) (h2 : i < needs.length), ∃ j : Nat, ss[i] = (j : Int) ∧ j < N ∧ needs[i] ≤ powT ts j) → restF ts N needs b ≤ costB ts (b : Int) ss
  | [], [], b, _, _, _ => Int.le_refl _
  | [], s :: ss, b, _, h, _ => by simp at h
  | n :: needs, [], b, _, h, _ => by simp at h
  | n :: needs, s :: ss, b, hn, hl, h => by
    obtain ⟨j, hj, hjN, hp⟩ := h 0 (by simp) (by simp)
    simp only [List.getElem_cons_zero] at hj hp
    subst hj
    have ih := rest_min hs hN hle needs ss j (fun x hx => hn x (by simp [hx])) (by simpa using hl) (fun i h1 h2 => by
      have := h (i + 1) (by simp; omega) (by simp; omega)
      simpa using this)
    have h0 : 0 ≤ restF ts N needs j := restF_all hs hN needs (fun x hx => hn x (by simp [hx])) j
    have h1 := (bstep_ok hs n (restF ts N needs) (b : Int) N).all j hjN hp h0
    show (bstep ts n (restF ts N needs) (b : Int) N).2 ≤ stepT ts (b : Int) (j : Int) + costB ts (j : Int) ss
    omega
/-- the cheapest set of each hour -/
def eachL (ts : List Blower) (ns : List Int) (k : Nat) : List Int := (ns.take k).map fun n => bestH ts n (2 ^ ts.length)
theorem eachL_succ {ts : List Blower} {ns : List Int} {k : Nat} (hk : k < ns.length) : eachL ts ns (k + 1) = eachL ts ns k ++ [bestH ts ns[k] (2 ^ ts.length)] := by
  unfold eachL; rw [List.take_succ_eq_append_getElem hk, List.map_append]; rfl
theorem eachL_len {ts : List Blower} {ns : List Int} {k : Nat} (hk : k ≤ ns.length) : (eachL ts ns k).length = k := by unfold eachL; rw [List.length_map, List.length_take]; omega
/-- what the best day tells -/
structure DayK (ts : List Blower) (ns out each : List Int) (cost : Int) : Prop where
  meets : meetR ts ns out = (true, 0)
  own : costR ts out = (cost, 0)
  cheap : ∀ (k : Nat) (hk : k < ns.length), ∃ c, chR ts ns[k] = (c, 0) ∧ eachL ts ns (k + 1) = eachL ts ns k ++ [c]
  easy : ∃ x, costR ts (eachL ts ns ns.length) = (x, 0) ∧ cost ≤ x
theorem best_tells {ts : List Blower} {ns : List Int} (h : (bdR ts ns).2.2 = 0) : DayK ts ns (bdR ts ns).1 (eachL ts ns ns.length) (bdR ts ns).2.1 := by
  have hok : (blowersOk ts && needsOk ns) = true := by
    cases e : (blowersOk ts && needsOk ns) with
    | true => rfl
    | false => unfold bdR at h; rw [e] at h; simp at h
  have hb : blowersOk ts = true := by simp only [Bool.and_eq_true] at hok; exact hok.1
  have hn : needsOk ns = true := by simp only [Bool.and_eq_true] at hok; exact hok.2
  have hs : ∀ b s, 0 ≤ stepT ts b s := fun b s => (stepT_bd hb b s).1
  have h4 := (blowersOk_at hb).1
  obtain ⟨_, hp1, hp2, hp3⟩ := two_pow h4
  have hN1 : ((2 ^ ts.length - 1 : Nat) : Int) = lastB ts.length := by rw [hp3]; omega
  have hneg : ¬ restF ts (2 ^ ts.length) ns 0 < 0 := fun h9 => by
    unfold bdR at h; rw [if_pos hok, if_pos h9] at h; simp at h
  have h0 : 0 ≤ restF ts (2 ^ ts.length) ns 0 := by omega
  have e : bdR ts ns = (outF ts (2 ^ ts.length) ns ns.length, restF ts (2 ^ ts.length) ns 0, 0) := by unfold bdR; rw [if_pos hok, if_neg hneg]
  have hle : ∀ s : Nat, s < 2 ^ ts.length → powT ts s ≤ powT ts ((2 ^ ts.length - 1 : Nat) : Int) := fun s _ => by rw [hN1]; exact powT_last hb s
  have hall : ∀ n ∈ ns, n ≤ powT ts ((2 ^ ts.length - 1 : Nat) : Int) := fun n hn => by
    rcases Int.lt_or_le (powT ts ((2 ^ ts.length - 1 : Nat) : Int)) n with h9 | h9
    · exfalso
      have := restF_none hle ns ⟨n, hn, h9⟩ 0
      omega
    · exact h9
  obtain ⟨hn24, hnb⟩ := needsOk_at hn
  have hsets : ∀ (ss : List Int), ss.length ≤ 24 → (∀ x ∈ ss, 0 ≤ x ∧ x ≤ ((2 ^ ts.length : Nat) : Int) - 1) → codeS ts ss = 0 ∧ outB ss 0 (lastB ts.length) = false := fun ss hl hx => by
    have ho : outB ss 0 (lastB ts.length) = false := outB_false.2 (fun x hx2 => by rw [hp3]; exact hx x hx2)
    refine ⟨?_, ho⟩
    unfold codeS
    rw [if_pos hb, ho, decide_eq_false (by omega)]; rfl
  rw [e]
  dsimp only
  have ho := hsets (outF ts (2 ^ ts.length) ns ns.length) (by rw [outF_len]; exact hn24) (out_bd hs (by omega) h0)
  have hbh : ∀ (k : Nat) (hk : k < ns.length), ∃ j : Nat, j < 2 ^ ts.length ∧ bestH ts ns[k] (2 ^ ts.length) = (j : Int) ∧ ns[k] ≤ powT ts j := fun k hk => by
    rcases bestH_ok ts ns[k] (2 ^ ts.length) with ⟨_, h9⟩ | h9
    · exfalso
      have h8 := h9 (2 ^ ts.length - 1) (by omega)
      have h7 := hall _ (List.getElem_mem hk)
      omega
    · exact h9
  have hcheap : ∀ (k : Nat) (hk : k < ns.length), chR ts ns[k] = (bestH ts ns[k] (2 ^ ts.length), 0) := fun k hk => by
    obtain ⟨j, _, hj, _⟩ := hbh k hk
    unfold chR
    rw [if_pos hb, if_pos (inB_iff.2 (hnb k hk)), if_neg (by omega)]
  have hel := eachL_len (ts := ts) (ns := ns) (Nat.le_refl ns.length)
  have heg : ∀ (i : Nat) (h1 : i < (eachL ts ns ns.length).length) (h2 : i < ns.length), (eachL ts ns ns.length)[i] = bestH ts ns[i] (2 ^ ts.length) := fun i h1 h2 => by simp [eachL]
  have hee := hsets (eachL ts ns ns.length) (by rw [hel]; exact hn24) (fun x hx => by
    obtain ⟨i, hi, rfl⟩ := List.mem_iff_getElem.1 hx
    have hi2 : i < ns.length := by omega
    rw [heg i hi hi2]
    obtain ⟨j, hj1, hj, _⟩ := hbh i hi2
    omega)
  refine ⟨?_, ?_, fun k hk => ⟨_, hcheap k hk, eachL_succ hk⟩, ⟨costS ts (eachL ts ns ns.length) (eachL ts ns ns.length).length, by unfold costR; rw [if_pos hee.1], ?_⟩⟩
  · unfold meetR
    rw [if_pos hok, ho.2, decide_eq_false (by rw [outF_len]; simp)]
    simp only [Bool.or_self, Bool.false_eq_true, if_false]
    rw [outF_len, out_meets hs h0]
  · unfold costR
    rw [if_pos ho.1, outF_len, cost_out hs h0]
  · rw [cost_all]
    exact rest_min hs (by omega) hle ns _ 0 hall hel (fun i h1 h2 => by
      obtain ⟨j, hj1, hj, hj2⟩ := hbh i h2
      exact ⟨j, by rw [heg i h1 h2, hj], hj1, hj2⟩)
/-- what one blower tells -/
theorem one_tells {ts : List Blower} {ss : List Int} (h : (costR ts ss).2 = 0) : blowersOk ts = true ∧ (costR ts ss).1 = sumN (tT ts ss ss.length) ts.length ∧ ∀ (i : Nat) (hi : i < ts.length), hoursR ts ss (i : Int) = (hoursL (runsU (onB ss (i : Int)) ss.length), 0) ∧ startsR ts ss (i : Int) = (((runsU (onB ss (i : Int)) ss.length).length : Int), 0) ∧ (0 ≤ hoursL (runsU (onB ss (i : Int)) ss.length) ∧ hoursL (runsU (onB ss (i : Int)) ss.length) ≤ 24) ∧ (runsU (onB ss (i : Int)) ss.length).length ≤ 24 := by
  have hc : codeS ts ss = 0 := by
    by_cases hc : codeS ts ss = 0
    · exact hc
    · unfold costR at h; rw [if_neg hc] at h; exact h
  obtain ⟨hb, hl, _⟩ := codeS_ok hc
  refine ⟨hb, by unfold costR; rw [if_pos hc]; exact cost_sum ts ss ss.length (Nat.le_refl _), fun i hi => ?_⟩
  have ho : codeO ts ss (i : Int) = 0 := by unfold codeO; rw [if_pos hc, if_pos (inB_iff.2 ⟨by omega, by omega⟩)]
  have hr : runsR ts ss (i : Int) = runsU (onB ss (i : Int)) ss.length := by unfold runsR; rw [if_pos ho]
  have h1 := hoursL_bd (onB ss (i : Int)) ss.length
  have h2 := (runsU_inv (onB ss (i : Int)) ss.length).2.1
  exact ⟨by unfold hoursR; rw [hr, ho], by unfold startsR; rw [hr, ho], ⟨h1.1, by omega⟩, by omega⟩
end Go.Proofs.Ytjleabgoajoegaa
