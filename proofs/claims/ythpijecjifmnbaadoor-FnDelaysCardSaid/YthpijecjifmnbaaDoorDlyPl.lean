/-
Plain laws of FnDelays: classes hold all trips, shares lie between none and all, the delay at a share holds it, the mean lies between least and greatest, the spread is none where all are alike. No program.
-/
import Derived.Test.YthpijecjifmnbaaDoorDelLD
import Derived.Test.YthpijecjifmnbaaDoorDelI
import Derived.Test.YthpijecjifmnbaaDoorDelE
namespace Go.Proofs.YthpijecjifmnbaaDoor
set_option linter.unusedVariables false

/-! classes -/
theorem sum_set : ∀ (l : List Int) (i : Nat) (v : Int), i < l.length → (l.set i v).sum = l.sum - l.getD i 0 + v
  | x :: l, 0, v, _ => by simp; omega
  | x :: l, i + 1, v, h => by
    have := sum_set l i v (by simpa using h)
    simp only [List.set_cons_succ, List.sum_cons, this, List.getD_cons_succ]; omega
theorem addAt_sum {l : List Int} {i : Nat} (h : i < l.length) : (addAt l i).sum = l.sum + 1 := by
  unfold addAt; rw [sum_set l i _ h]; omega
theorem clsK_sum {ds : List Int} {wd : Int} {n : Nat} (hw : 1 ≤ wd) (hn : 1 ≤ n) (hd : ∀ x ∈ ds, 0 ≤ x ∧ x ≤ 10000) : ∀ k : Nat, k ≤ ds.length → (clsK ds wd n k).sum = (k : Int)
  | 0, _ => by simp [clsK]
  | k + 1, hk => by
    have ih := clsK_sum hw hn hd k (by omega)
    have h1 := (clsK_inv ds wd n k (by omega)).1
    have h2 := (clsIx_ok hw (hd ds[k] (List.getElem_mem (by omega))) hn).2.2.1
    rw [clsK_succ (by omega), addAt_sum (by omega), ih]; omega
theorem classes_tell {ts : List Trip} {wd cl : Int} (h : (classesR ts wd cl).2 = 0) : (classesR ts wd cl).1.sum = (ts.length : Int) ∧ (classesR ts wd cl).1.length ≤ 100 ∧ ∀ x ∈ (classesR ts wd cl).1, 0 ≤ x ∧ x ≤ 10000 := by
  by_cases hok : tripsOk ts = true
  · by_cases hb : inB wd 1 10000 = true ∧ inB cl 1 20 = true
    · have e : classesR ts wd cl = (clsK (lates ts) wd cl.toNat ts.length, 0) := by unfold classesR; rw [if_pos hok, if_pos hb]
      obtain ⟨hl, hall⟩ := tripsOk_at hok
      have h1 := inB_iff.1 hb.1
      have h2 := inB_iff.1 hb.2
      rw [e]
      have hi := clsK_inv (lates ts) wd cl.toNat ts.length (by rw [lates_len]; exact Nat.le_refl _)
      refine ⟨clsK_sum h1.1 (by omega) (lates_bd hall) ts.length (by rw [lates_len]; exact Nat.le_refl _), ?_, fun x hx => ?_⟩
      · show (clsK (lates ts) wd cl.toNat ts.length).length ≤ 100
        rw [hi.1]; omega
      · have := hi.2 x hx; omega
    · exfalso; unfold classesR at h; rw [if_pos hok, if_neg hb] at h; simp at h
  · exfalso; unfold classesR at h; rw [if_neg hok] at h; simp at h
/-! fractions -/
theorem frac_at {a b : Nat} (hb : 1 ≤ b) : ∃ g n d : Nat, 1 ≤ g ∧ 1 ≤ d ∧ a = n * g ∧ b = d * g ∧ fracR a b = ((n : Int), (d : Int)) := by
  have hg := Nat.gcd_pos_of_pos_right a (show 0 < b by omega)
  obtain ⟨n, hn⟩ := Nat.gcd_dvd_left a b
  obtain ⟨d, hd⟩ := Nat.gcd_dvd_right a b
  have hx : fracR a b = (((a / Nat.gcd a b : Nat) : Int), ((b / Nat.gcd a b : Nat) : Int)) := by unfold fracR; simp
  generalize hgg : Nat.gcd a b = g at *
  have e1 : a / g = n := by rw [hn]; exact Nat.mul_div_cancel_left n hg
  have e2 : b / g = d := by rw [hd]; exact Nat.mul_div_cancel_left d hg
  refine ⟨g, n, d, hg, ?_, by rw [Nat.mul_comm]; exact hn, by rw [Nat.mul_comm]; exact hd, by rw [hx, e1, e2]⟩
  rcases Nat.eq_zero_or_pos d with h | h
  · subst h; simp at hd; omega
  · exact h
theorem share_tells {ts : List Trip} {n : Int} (h : (shareR ts n).2.2 = 0) : 0 ≤ (shareR ts n).1 ∧ (shareR ts n).1 ≤ (shareR ts n).2.1 ∧ 1 ≤ (shareR ts n).2.1 ∧ (shareR ts n).2.1 ≤ 100 ∧ ∀ p : Int, p * ts.length ≤ 1000 * cntW (lates ts) n ts.length → p * (shareR ts n).2.1 ≤ 1000 * (shareR ts n).1 := by
  by_cases hc : codeT ts n 0 10000 = 0
  · obtain ⟨hok, _, h1⟩ := codeT_ok hc
    have hl := (tripsOk_at hok).1
    obtain ⟨hc0, hc1⟩ := cntW_bd (lates ts) n ts.length (by rw [lates_len]; exact Nat.le_refl _)
    obtain ⟨c, hcc⟩ := Int.eq_ofNat_of_zero_le hc0
    have hcl : c ≤ ts.length := by omega
    have ec : (cntW (lates ts) n ts.length).toNat = c := by omega
    obtain ⟨g, u, d, hg, hd, e1, e2, e3⟩ := frac_at (a := c) (b := ts.length) h1
    have e : shareR ts n = ((u : Int), (d : Int), 0) := by unfold shareR; rw [if_pos hc, ec, e3]
    rw [e]
    have hud : u ≤ d := by
      rcases Nat.lt_or_ge d u with h9 | h9
      · have := Nat.mul_le_mul_right g (show d + 1 ≤ u from h9)
        rw [Nat.add_mul, ← e2, ← e1] at this; omega
      · exact h9
    have hdl : d ≤ ts.length := by
      have := Nat.mul_le_mul_left d hg
      omega
    refine ⟨by simp, by simpa using hud, by show (1 : Int) ≤ (d : Int); omega, by show (d : Int) ≤ 100; omega, fun p hp => ?_⟩
    show p * (d : Int) ≤ 1000 * (u : Int)
    rw [hcc] at hp
    rcases Int.lt_or_le (1000 * (u : Int)) (p * (d : Int)) with h9 | h9
    · exfalso
      have h8 := Int.mul_lt_mul_of_pos_right h9 (show (0 : Int) < (g : Int) by omega)
      have e4 : p * (d : Int) * (g : Int) = p * (ts.length : Int) := by rw [e2, Int.mul_assoc]; simp
      have e5 : 1000 * (u : Int) * (g : Int) = 1000 * (c : Int) := by rw [e1, Int.mul_assoc]; simp
      omega
    · exact h9
  · exfalso; unfold shareR at h; rw [if_neg hc] at h; exact hc h
theorem das_tells {ts : List Trip} {p : Int} (h : (dasR ts p).2 = 0) : (-9223372036854775808 ≤ (dasR ts p).1 ∧ (dasR ts p).1 ≤ 9223372036854775807) ∧ (1 ≤ p ∧ p ≤ 1000) ∧ ∃ u d : Int, shareR ts (dasR ts p).1 = (u, d, 0) ∧ 1 ≤ d ∧ d ≤ 100 ∧ 0 ≤ u ∧ u ≤ 100 ∧ p * d ≤ 1000 * u := by
  by_cases hok : tripsOk ts = true
  · by_cases hb : inB p 1 1000 = true
    · by_cases hz : ts.length = 0
      · exfalso; unfold dasR at h; rw [if_pos hok, if_pos hb, if_pos hz] at h; simp at h
      · obtain ⟨hl, hall⟩ := tripsOk_at hok
        have hp := inB_iff.1 hb
        obtain ⟨s1, s2, s3, s4, s5, s6⟩ := shareI_at hz hp.1 hp.2
        have hs := srtI_is (lates ts)
        have hsl : (srtI (lates ts)).length = ts.length := by rw [hs.len, lates_len]
        have hi : shareI ts.length p < (srtI (lates ts)).length := by omega
        have e : dasR ts p = ((srtI (lates ts))[shareI ts.length p], 0) := by
          unfold dasR; rw [if_pos hok, if_pos hb, if_neg hz, List.getD_eq_getElem?_getD, List.getElem?_eq_getElem hi]; rfl
        have hmem : (srtI (lates ts))[shareI ts.length p] ∈ lates ts := hs.1.mem_iff.1 (List.getElem_mem hi)
        have hbd := lates_bd hall _ hmem
        have hno := share_no hs.2 hi (m := p * ts.length) s3
        have hcnt := cntW_srt hs (srtI (lates ts))[shareI ts.length p]
        rw [e]
        dsimp only
        generalize (srtI (lates ts))[shareI ts.length p] = D at *
        have hct : codeT ts D 0 10000 = 0 := by unfold codeT; rw [if_pos hok, if_pos (inB_iff.2 hbd), if_neg hz]
        have hsh : (shareR ts D).2.2 = 0 := by unfold shareR; rw [if_pos hct]
        obtain ⟨t1, t2, t3, t4, t5⟩ := share_tells hsh
        refine ⟨by omega, hp, (shareR ts D).1, (shareR ts D).2.1, by rw [← hsh], t3, t4, t1, by omega, t5 p (by rw [hcnt]; exact hno)⟩
    · exfalso; unfold dasR at h; rw [if_pos hok, if_neg hb] at h; simp at h
  · exfalso; unfold dasR at h; rw [if_neg hok] at h; simp at h
/-! mean and spread -/
theorem sum_zero {f : Int → Int} : ∀ l : List Int, (∀ x ∈ l, 0 ≤ f x) → (l.map f).sum = 0 → ∀ x ∈ l, f x = 0
  | [], _, _ => by simp
  | y :: l, h, hz => by
    have h1 := h y (by simp)
    have h2 : 0 ≤ (l.map f).sum := by
      clear hz
      have : ∀ l : List Int, (∀ x ∈ l, 0 ≤ f x) → 0 ≤ (l.map f).sum := fun l => by
        induction l with
        | nil => simp
        | cons z l ih => intro h; have := h z (by simp); have := ih (fun x hx => h x (by simp [hx])); simp; omega
      exact this l (fun x hx => h x (by simp [hx]))
    simp only [List.map_cons, List.sum_cons] at hz
    intro x hx
    rcases List.mem_cons.1 hx with rfl | hx
    · omega
    · exact sum_zero l (fun x hx => h x (by simp [hx])) (by omega) x hx
theorem dev_eq (y : Int) : ∀ xs : List Int, (xs.map fun x => (x - y) * (x - y)).sum = sqs xs - 2 * y * xs.sum + (xs.length : Int) * (y * y)
  | [] => by simp [sqs]
  | x :: xs => by
    have ih := dev_eq y xs
    have h1 : sqs (x :: xs) = x * x + sqs xs := by simp [sqs]
    have h2 : (x :: xs).sum = x + xs.sum := by simp
    have h3 : ((x :: xs).length : Int) = (xs.length : Int) + 1 := by simp
    rw [List.map_cons, List.sum_cons, ih, h1, h2, h3]
    grind
theorem devs_eq (xs : List Int) : ∀ ys : List Int, (ys.map fun y => sqs xs - 2 * y * xs.sum + (xs.length : Int) * (y * y)).sum = (ys.length : Int) * sqs xs - 2 * ys.sum * xs.sum + (xs.length : Int) * sqs ys
  | [] => by simp [sqs]
  | y :: ys => by
    have ih := devs_eq xs ys
    have h1 : sqs (y :: ys) = y * y + sqs ys := by simp [sqs]
    have h2 : (y :: ys).sum = y + ys.sum := by simp
    have h3 : ((y :: ys).length : Int) = (ys.length : Int) + 1 := by simp
    rw [List.map_cons, List.sum_cons, ih, h1, h2, h3]
    grind
theorem sq_zero {a : Int} (h : a * a = 0) : a = 0 := by rcases Int.mul_eq_zero.1 h with h | h <;> exact h
theorem alike_of {xs : List Int} (h : (xs.length : Int) * sqs xs - xs.sum * xs.sum = 0) : ∀ x ∈ xs, ∀ y ∈ xs, x = y := by
  intro x hx y hy
  have h1 := devs_eq xs xs
  have h2 : (xs.map fun y => sqs xs - 2 * y * xs.sum + (xs.length : Int) * (y * y)).sum = 0 := by rw [h1]; grind
  have h3 := sum_zero xs (fun y _ => dev_nonneg y xs) h2 y hy
  rw [← dev_eq] at h3
  have h4 := sum_zero (f := fun x => (x - y) * (x - y)) xs (fun x _ => sq_nonneg _) h3 x hx
  have := sq_zero h4
  omega
theorem spread_same {c : Int} : ∀ xs : List Int, (∀ x ∈ xs, x = c) → sqs xs = (xs.length : Int) * (c * c) ∧ xs.sum = (xs.length : Int) * c
  | [], _ => by simp [sqs]
  | x :: xs, h => by
    obtain ⟨h1, h2⟩ := spread_same xs (fun z hz => h z (by simp [hz]))
    have hx := h x (by simp)
    subst hx
    have h3 : sqs (x :: xs) = x * x + sqs xs := by simp [sqs]
    have h4 : ((x :: xs).length : Int) = (xs.length : Int) + 1 := by simp
    rw [h3, h4, List.sum_cons, h1, h2]
    constructor <;> grind
/-- the least of the first delays, from 10000; the greatest, from 0 -/
def lowK (xs : List Int) (k : Nat) : Int := (xs.take k).foldl min 10000
def topK (xs : List Int) (k : Nat) : Int := (xs.take k).foldl max 0
theorem lowK_succ {xs : List Int} {k : Nat} (hk : k < xs.length) : lowK xs (k + 1) = min (lowK xs k) xs[k] := by
  unfold lowK; rw [List.take_succ_eq_append_getElem hk, List.foldl_append]; rfl
theorem topK_succ {xs : List Int} {k : Nat} (hk : k < xs.length) : topK xs (k + 1) = max (topK xs k) xs[k] := by
  unfold topK; rw [List.take_succ_eq_append_getElem hk, List.foldl_append]; rfl
theorem lowtop {xs : List Int} (h : ∀ x ∈ xs, 0 ≤ x ∧ x ≤ 10000) : ∀ k : Nat, k ≤ xs.length → (0 ≤ lowK xs k ∧ lowK xs k ≤ 10000) ∧ (0 ≤ topK xs k ∧ topK xs k ≤ 10000) ∧ (∀ (j : Nat) (hj : j < xs.length), j < k → lowK xs k ≤ xs[j] ∧ xs[j] ≤ topK xs k) ∧ (0 < k → (∃ x ∈ xs, lowK xs k = x) ∧ ∃ x ∈ xs, topK xs k = x)
  | 0, _ => ⟨by simp [lowK], by simp [topK], fun j _ hj => by omega, fun hj => by omega⟩
  | k + 1, hk => by
    obtain ⟨h1, h2, h3, h4⟩ := lowtop h k (by omega)
    have hx := h xs[k] (List.getElem_mem (by omega))
    rw [lowK_succ (by omega), topK_succ (by omega)]
    refine ⟨by omega, by omega, fun j hj hjk => ?_, fun _ => ⟨?_, ?_⟩⟩
    · by_cases e : j = k
      · subst e; omega
      · have := h3 j hj (by omega); omega
    · by_cases e : lowK xs k ≤ xs[k]
      · by_cases hk0 : k = 0
        · subst hk0
          have e1 : lowK xs 0 = 10000 := by simp [lowK]
          exact ⟨xs[0], List.getElem_mem _, by omega⟩
        · obtain ⟨x, hx1, hx2⟩ := (h4 (by omega)).1
          exact ⟨x, hx1, by omega⟩
      · exact ⟨xs[k], List.getElem_mem _, by omega⟩
    · by_cases e : xs[k] ≤ topK xs k
      · by_cases hk0 : k = 0
        · subst hk0
          have e1 : topK xs 0 = 0 := by simp [topK]
          exact ⟨xs[0], List.getElem_mem _, by omega⟩
        · obtain ⟨x, hx1, hx2⟩ := (h4 (by omega)).2
          exact ⟨x, hx1, by omega⟩
      · exact ⟨xs[k], List.getElem_mem _, by omega⟩
theorem sum_between {lo hi : Int} : ∀ xs : List Int, (∀ x ∈ xs, lo ≤ x ∧ x ≤ hi) → lo * (xs.length : Int) ≤ xs.sum ∧ xs.sum ≤ hi * (xs.length : Int)
  | [], _ => by simp
  | x :: xs, h => by
    have ih := sum_between xs (fun z hz => h z (by simp [hz]))
    have hx := h x (by simp)
    have h4 : ((x :: xs).length : Int) = (xs.length : Int) + 1 := by simp
    rw [h4, List.sum_cons, Int.mul_add, Int.mul_add]
    omega
/-- what mean and spread tell -/
structure MeanK (ts : List Trip) (mn md sn : Int) : Prop where
  len : ts.length ≤ 100
  ok : ∀ (k : Nat) (hk : k < ts.length), Trip.ok ts[k] = true
  bd : 0 ≤ mn ∧ mn ≤ 1000000 ∧ 1 ≤ md ∧ md ≤ 100
  low : lowK (lates ts) ts.length * md ≤ mn
  top : mn ≤ topK (lates ts) ts.length * md
  same : (lowK (lates ts) ts.length = topK (lates ts) ts.length) ↔ sn = 0
theorem mean_tells {ts : List Trip} (h : (meanR ts).2.2 = 0) : MeanK ts (meanR ts).1 (meanR ts).2.1 (spreadR ts).1 := by
  by_cases hc : codeSome ts = 0
  · obtain ⟨hok, h1⟩ := codeSome_ok hc
    obtain ⟨hl, hall⟩ := tripsOk_at hok
    obtain ⟨hS, hQ, _, _, hN0, hN1⟩ := spread_facts hok
    obtain ⟨S, hSS⟩ := Int.eq_ofNat_of_zero_le hS.1
    have hbd := lates_bd hall
    obtain ⟨b1, b2, b3, b4⟩ := lowtop hbd ts.length (by rw [lates_len]; exact Nat.le_refl _)
    have b3' : ∀ x ∈ lates ts, lowK (lates ts) ts.length ≤ x ∧ x ≤ topK (lates ts) ts.length := fun x hx => by
      obtain ⟨j, hj, rfl⟩ := List.mem_iff_getElem.1 hx
      exact b3 j hj (by rw [lates_len] at hj; exact hj)
    obtain ⟨c1, c2⟩ := sum_between (lates ts) b3'
    rw [lates_len] at c1 c2
    obtain ⟨g, u, d, hg, hd, e1, e2, e3⟩ := frac_at (a := S) (b := ts.length) h1
    have eS : (lates ts).sum.toNat = S := by omega
    have e : meanR ts = ((u : Int), (d : Int), 0) := by unfold meanR; rw [if_pos hc, eS, e3]
    have hdl : d ≤ ts.length := by have := Nat.mul_le_mul_left d hg; omega
    have hul : u ≤ S := by have := Nat.mul_le_mul_left u hg; omega
    rw [e]
    have hgI : (0 : Int) < (g : Int) := by omega
    have e1' : (S : Int) = (u : Int) * (g : Int) := by rw [e1]; simp
    have e2' : (ts.length : Int) = (d : Int) * (g : Int) := by rw [e2]; simp
    refine ⟨hl, hall, ⟨by show (0 : Int) ≤ u; omega, by show (u : Int) ≤ 1000000; omega, by show (1 : Int) ≤ d; omega, by show (d : Int) ≤ 100; omega⟩, ?_, ?_, ?_⟩
    · show lowK (lates ts) ts.length * (d : Int) ≤ (u : Int)
      generalize lowK (lates ts) ts.length = lo at *
      rcases Int.lt_or_le (u : Int) (lo * (d : Int)) with h9 | h9
      · exfalso
        have h8 := Int.mul_lt_mul_of_pos_right h9 hgI
        rw [Int.mul_assoc, ← e2', ← e1'] at h8; omega
      · exact h9
    · show (u : Int) ≤ topK (lates ts) ts.length * (d : Int)
      generalize topK (lates ts) ts.length = hi at *
      rcases Int.lt_or_le (hi * (d : Int)) (u : Int) with h9 | h9
      · exfalso
        have h8 := Int.mul_lt_mul_of_pos_right h9 hgI
        rw [Int.mul_assoc, ← e2', ← e1'] at h8; omega
      · exact h9
    · obtain ⟨N, hNN⟩ := Int.eq_ofNat_of_zero_le hN0
      obtain ⟨g2, u2, d2, hg2, hd2, f1, f2, f3⟩ := frac_at (a := N) (b := ts.length * ts.length) (Nat.mul_pos h1 h1)
      have eN : (spreadN ts).toNat = N := by omega
      have f : spreadR ts = ((u2 : Int), (d2 : Int), 0) := by unfold spreadR; rw [if_pos hc, eN, f3]
      rw [f]
      have hz : ((u2 : Int) = 0) ↔ spreadN ts = 0 := by
        rw [hNN, f1]
        constructor
        · intro h9
          have : u2 = 0 := by omega
          subst this; simp
        · intro h9
          have h8 : u2 * g2 = 0 := by omega
          rcases Nat.mul_eq_zero.1 h8 with h7 | h7
          · omega
          · omega
      show _ ↔ (u2 : Int) = 0
      rw [hz]
      constructor
      · intro hlt
        have hall2 : ∀ x ∈ lates ts, x = topK (lates ts) ts.length := fun x hx => by have := b3' x hx; omega
        obtain ⟨q1, q2⟩ := spread_same (lates ts) hall2
        rw [lates_len] at q1 q2
        unfold spreadN
        rw [q1, q2]; grind
      · intro hz
        unfold spreadN at hz
        have hz' : ((lates ts).length : Int) * sqs (lates ts) - (lates ts).sum * (lates ts).sum = 0 := by rw [lates_len]; exact hz
        have hal := alike_of hz'
        obtain ⟨⟨x, hx1, hx2⟩, y, hy1, hy2⟩ := b4 (by omega)
        rw [hx2, hy2]; exact hal x hx1 y hy1
  · exfalso; unfold meanR at h; rw [if_neg hc] at h; exact hc h
theorem das_mean {ts : List Trip} {p : Int} (h : (dasR ts p).2 = 0) : (meanR ts).2.2 = 0 := by
  by_cases hok : tripsOk ts = true
  · by_cases hb : inB p 1 1000 = true
    · by_cases hz : ts.length = 0
      · exfalso; unfold dasR at h; rw [if_pos hok, if_pos hb, if_pos hz] at h; simp at h
      · have hc : codeSome ts = 0 := by unfold codeSome; rw [if_pos hok, if_neg hz]
        unfold meanR; rw [if_pos hc]
    · exfalso; unfold dasR at h; rw [if_pos hok, if_neg hb] at h; simp at h
  · exfalso; unfold dasR at h; rw [if_neg hok] at h; simp at h
theorem spread_tells {ts : List Trip} : 0 ≤ (spreadR ts).1 := by
  by_cases hc : codeSome ts = 0
  · unfold spreadR; rw [if_pos hc]
    unfold fracR
    exact Int.ediv_nonneg (Int.natCast_nonneg _) (Int.natCast_nonneg _)
  · unfold spreadR; rw [if_neg hc]; exact Int.le_refl 0
end Go.Proofs.YthpijecjifmnbaaDoor
