/-
Plain laws of FnStates: states that moves reach, states of the told run, moves keep states valid. No program.
-/
import Derived.Test.YtegabdhmfemgkaaPolQ
import Derived.Test.YtegabdhmfemgkaaPolT
namespace Go.Proofs.Ytegabdhmfemgkaa
open Go.RowKit
set_option linter.unusedVariables false

/-! what is reached is closed under moves -/
theorem stepN_has (s path : List Int) (acc : Rch) (c : Int) : nxS s c ∈ (stepN s path acc c).map Prod.fst := by
  unfold stepN
  split
  · rename_i h; exact (hasS_iff acc _).1 h
  · simp
theorem stepsN_has (s path : List Int) : ∀ (cs : List Int) (acc : Rch) (c : Int), c ∈ cs → nxS s c ∈ (stepsN s path acc cs).map Prod.fst
  | [], _, _, h => by cases h
  | d :: cs, acc, c, h => by
    rcases List.mem_cons.1 h with rfl | h
    · obtain ⟨r, hr⟩ := stepsN_pre s path cs (stepN s path acc c)
      show nxS s c ∈ (stepsN s path (stepN s path acc c) cs).map Prod.fst
      rw [← hr, List.map_append]
      exact List.mem_append_left _ (stepN_has s path acc c)
    · exact stepsN_has s path cs _ c h
theorem bfs_stop2 (mv : List Int → List Int) (z : List Int) {i : Nat} (h : (bfs mv z i).length ≤ i) : ∀ d, bfs mv z (i + d) = bfs mv z i
  | 0 => rfl
  | d + 1 => by
    show roundN mv (bfs mv z (i + d)) (i + d) = _
    rw [bfs_stop2 mv z h d]
    unfold roundN
    rw [dif_neg (by omega)]
theorem bfs_closed {mv : List Int → List Int} {z s : List Int} {M : Nat} (hl : (bfs mv z M).length ≤ M) (hs : s ∈ (bfs mv z M).map Prod.fst) {c : Int} (hc : c ∈ mv s) : nxS s c ∈ (bfs mv z M).map Prod.fst := by
  obtain ⟨q, hq, rfl⟩ := List.mem_map.1 hs
  obtain ⟨i, hi, rfl⟩ := List.mem_iff_getElem.1 hq
  have hiM : i < M := by omega
  obtain ⟨d, hd⟩ : ∃ d, M = i + 1 + d := ⟨M - (i + 1), by omega⟩
  have hi2 : i < (bfs mv z i).length := by
    rcases Nat.lt_or_ge i (bfs mv z i).length with h | h
    · exact h
    · exfalso
      have e : bfs mv z M = bfs mv z i := by
        rw [show M = i + (1 + d) by omega, bfs_stop2 mv z h]
      simp only [e] at hi
      omega
  have hp1 : bfs mv z i <+: bfs mv z M := by
    have := bfs_pre mv z i (1 + d)
    rw [show i + (1 + d) = M by omega] at this
    exact this
  have hp2 : bfs mv z (i + 1) <+: bfs mv z M := by
    have := bfs_pre mv z (i + 1) d
    rw [← hd] at this
    exact this
  have he : (bfs mv z M)[i] = (bfs mv z i)[i] := by
    obtain ⟨r, hr⟩ := hp1
    simp only [← hr]
    exact List.getElem_append_left hi2
  rw [he] at hc ⊢
  obtain ⟨r, hr⟩ := hp2
  rw [← hr, List.map_append]
  refine List.mem_append_left _ ?_
  show nxS _ c ∈ (roundN mv (bfs mv z i) i).map Prod.fst
  unfold roundN
  rw [dif_pos hi2]
  exact stepsN_has _ _ _ _ c hc
theorem bfs_start (mv : List Int → List Int) (z : List Int) (M : Nat) : z ∈ (bfs mv z M).map Prod.fst := by
  obtain ⟨r, hr⟩ := bfs_pre mv z 0 M
  rw [Nat.zero_add] at hr
  have : bfs mv z M = [(z, [])] ++ r := by rw [← hr]; rfl
  rw [this]; simp
section
variable {halls : List Int} {ways : List (List Int)}
/-- reached by moves -/
def Rd (halls : List Int) (ways : List (List Int)) (s : List Int) : Prop := s ∈ (reachT halls ways 4).map Prod.fst
theorem rd_len (ht : travOk halls ways = true) : (reachT halls ways 4).length ≤ 2401 := by
  have h := (bfs_ok (ls := lensW ways) (mv := movesL halls ways 4) mvOk_moves 2401).len (lens5 ht) (lens4 ht)
  rw [lensW_len] at h
  exact h
theorem rd_zero : Rd halls ways (zeroS ways.length) := by
  unfold Rd reachT bfsAll
  exact bfs_start _ _ _
theorem rd_step (ht : travOk halls ways = true) {s : List Int} (h : Rd halls ways s) {c : Int} (hc : c ∈ movesL halls ways 4 s) : Rd halls ways (nxS s c) := by
  have h1 := rd_len ht
  unfold Rd at h ⊢
  unfold reachT bfsAll at h h1 ⊢
  exact bfs_closed h1 h hc
theorem rd_good {s : List Int} (h : Rd halls ways s) : Good (lensW ways) s := by
  obtain ⟨q, hq, rfl⟩ := List.mem_map.1 h
  have h1 := (bfs_ok (ls := lensW ways) (mv := movesL halls ways 4) mvOk_moves 2401).good
  rw [lensW_len] at h1
  exact h1 q hq
theorem rd_run (ht : travOk halls ways = true) : ∀ k, Rd halls ways (runT halls ways k).1
  | 0 => rd_zero
  | k + 1 => by
    have ih := rd_run ht k
    cases hm : safeMT halls ways (runT halls ways k).1 with
    | nil =>
      have e : runT halls ways (k + 1) = runT halls ways k := runK_end (mv := movesL halls ways 4) (dn := doneS ways) hm 1
      rw [e]; exact ih
    | cons c cs =>
      have e : runT halls ways (k + 1) = (nxS (runT halls ways k).1 c, (runT halls ways k).2 ++ [c]) := runK_go hm
      rw [e]
      have hc : c ∈ safeMT halls ways (runT halls ways k).1 := by rw [hm]; simp
      exact rd_step ht ih (List.mem_filter.1 hc).1
/-! without deadlocks all that is reached is safe -/
theorem rd_safe (ht : travOk halls ways = true) (hf : (firstDead halls ways 4).isSome = false) : ∀ (d : Nat) (s : List Int), Rd halls ways s → 24 ≤ s.sum + d → safeT halls ways s = true
  | d, s, hs, hd => by
    have hg := rd_good hs
    unfold safeT
    rw [safe_step mvOk_moves (lens5 ht) (lens4 ht) (doneS ways) hg]
    cases hdn : doneS ways s with
    | true => rfl
    | false =>
      rw [Bool.false_or, List.any_eq_true]
      have hnd : isDead halls ways 4 s = false := by
        cases hx : isDead halls ways 4 s with
        | false => rfl
        | true =>
          exfalso
          obtain ⟨q, hq, rfl⟩ := List.mem_map.1 hs
          have h1 : (firstDead halls ways 4).isSome = true := by
            unfold firstDead
            rw [List.find?_isSome]
            exact ⟨q, hq, hx⟩
          rw [h1] at hf; cases hf
      cases hm : movesL halls ways 4 s with
      | nil => unfold isDead at hnd; rw [hdn, hm] at hnd; simp at hnd
      | cons c cs =>
        have hc : c ∈ movesL halls ways 4 s := by rw [hm]; simp
        have h2 := sum_nx mvOk_moves hg hc
        have h3 := (good_nx mvOk_moves hg hc).sum (lens5 ht) (lens4 ht)
        match d, hd with
        | 0, hd => omega
        | d + 1, hd => exact ⟨c, by simp, rd_safe ht hf d _ (rd_step ht hs hc) (by omega)⟩
/-! moves keep states valid -/
def eqI (x h : Int) : Int := if x = h then 1 else 0
theorem cntF_set (ways : List (List Int)) (s : List Int) (c : Nat) (hc : c < s.length) (x : Int) (h : Nat) : ∀ n, cntF ways (s.set c x) n h = cntF ways s n h + (if c < n then eqI (hallP (ways.getD c []) x) h - eqI (hallK ways s c) h else 0)
  | 0 => by simp [cntF]
  | n + 1 => by
    show cntF ways (s.set c x) n h + eqI (hallK ways (s.set c x) n) h = cntF ways s n h + eqI (hallK ways s n) h + _
    rw [cntF_set ways s c hc x h n, hallK_set ways s c hc]
    by_cases e : n = c
    · subst e
      rw [if_neg (by omega), if_pos rfl, if_pos (by omega)]; omega
    · rw [if_neg e]
      by_cases h2 : c < n
      · rw [if_pos h2, if_pos (by omega)]; omega
      · rw [if_neg h2, if_neg (by omega)]; omega
theorem stOk_at {pl : List Int} (h : stOk halls ways pl = true) {k : Nat} (hk : k < halls.length) : cntF ways pl ways.length k ≤ halls[k] := by
  unfold stOk at h
  rw [List.all_eq_true] at h
  have := h k (List.mem_range.2 hk)
  simpa [List.getD_eq_getElem?_getD, hk] using this
theorem plOk_next (ht : travOk halls ways = true) {s : List Int} (hs : plOk halls ways s = true) {c : Int} (hc : c ∈ movesL halls ways 4 s) : plOk halls ways (nxS s c) = true := by
  have hg := plOk_good hs
  have hg2 := good_nx mvOk_moves hg hc
  obtain ⟨hl2, hb2⟩ := hg2.at_
  obtain ⟨k, hk, rfl, hm⟩ := mem_moves.1 hc
  obtain ⟨hl, hb⟩ := hg.at_
  have hst : stOk halls ways s = true := by
    simp only [plOk, Bool.and_eq_true] at hs
    exact hs.2
  have e : nxS s (k : Int) = s.set k (plc s k + 1) := rfl
  unfold plOk
  rw [decide_eq_true hl2, plFit_yes (fun j hj => inB_iff.2 (hb2 j hj)), Bool.true_and, Bool.true_and, e]
  refine stOk_yes (fun h hh => ?_)
  rw [cntF_set ways s k (by omega), if_pos hk, show ways.getD k [] = ways[k] by simp [List.getD_eq_getElem?_getD, hk]]
  have h1 := stOk_at hst hh
  have h2 : 0 ≤ eqI (hallK ways s k) h := by unfold eqI; split <;> omega
  by_cases h3 : hallP ways[k] (plc s k + 1) = (h : Int)
  · have hle := mvB_le hk hm
    rw [mvB_at hk] at hm
    rw [if_neg (by omega)] at hm
    split at hm
    · cases hm
    · rw [if_neg (by omega)] at hm
      have h4 := of_decide_eq_true hm
      rw [h3, Int.toNat_natCast] at h4
      have h5 : halls.getD h 0 = halls[h] := by simp [List.getD_eq_getElem?_getD, hh]
      rw [h5] at h4
      have h6 : eqI (hallP ways[k] (plc s k + 1)) h = 1 := by unfold eqI; rw [if_pos h3]
      omega
  · have h6 : eqI (hallP ways[k] (plc s k + 1)) h = 0 := by unfold eqI; rw [if_neg h3]
    omega
theorem plOk_zero (ht : travOk halls ways = true) : plOk halls ways (zeroS ways.length) = true := by
  have hg : Good (lensW ways) (zeroS ways.length) := by have := good_zero (lensW ways); rwa [lensW_len] at this
  obtain ⟨hl, hb⟩ := hg.at_
  obtain ⟨_, hbd, _, _⟩ := travOk_at ht
  unfold plOk
  rw [decide_eq_true hl, plFit_yes (fun j hj => inB_iff.2 (hb j hj)), Bool.true_and, Bool.true_and]
  refine stOk_yes (fun h hh => ?_)
  rw [cntF_none ways.length (fun k hk => ?_)]
  · have := hbd _ (List.getElem_mem hh); omega
  · rw [← hallK_at _ hk]
    have : plc (zeroS ways.length) k = 0 := by simp [plc, zeroS, List.getD_eq_getElem?_getD, hk]
    rw [this, hallP_neg (.inl (by omega))]; omega
theorem plOk_run (ht : travOk halls ways = true) : ∀ k, plOk halls ways (runT halls ways k).1 = true
  | 0 => plOk_zero ht
  | k + 1 => by
    have ih := plOk_run ht k
    cases hm : safeMT halls ways (runT halls ways k).1 with
    | nil =>
      have e : runT halls ways (k + 1) = runT halls ways k := runK_end (mv := movesL halls ways 4) (dn := doneS ways) hm 1
      rw [e]; exact ih
    | cons c cs =>
      have e : runT halls ways (k + 1) = (nxS (runT halls ways k).1 c, (runT halls ways k).2 ++ [c]) := runK_go hm
      rw [e]
      have hc : c ∈ safeMT halls ways (runT halls ways k).1 := by rw [hm]; simp
      exact plOk_next ht ih (List.mem_filter.1 hc).1
/-! the told run -/
/-- how many moves there are in all -/
def allW (ways : List (List Int)) (k : Nat) : Int := ((ways.take k).map fun l => (l.length : Int) + 1).sum
theorem allW_succ {k : Nat} (hk : k < ways.length) : allW ways (k + 1) = allW ways k + ((ways[k].length : Int) + 1) := by
  unfold allW; rw [List.take_succ_eq_append_getElem hk, List.map_append, List.sum_append]; simp
theorem allW_bd (ht : travOk halls ways = true) : ∀ k, k ≤ ways.length → 0 ≤ allW ways k ∧ allW ways k ≤ 6 * (k : Int)
  | 0, _ => by simp [allW]
  | k + 1, hk => by
    have ih := allW_bd ht k (by omega)
    rw [allW_succ (by omega)]
    have := lens5 ht (ways[k].length) (List.mem_map.2 ⟨_, List.getElem_mem (by omega), rfl⟩)
    omega
theorem done_sum {s : List Int} (hs : Good (lensW ways) s) (hd : doneS ways s = true) : s.sum = allW ways ways.length := by
  obtain ⟨hl, hb⟩ := hs.at_
  have hd2 := doneS_iff.1 hd
  have e : s = ways.map fun l => (l.length : Int) + 1 := by
    apply List.ext_getElem (by simp [hl])
    intro k h1 h2
    have hk : k < ways.length := by omega
    have h3 := hb k hk; have h4 := hd2 k hk
    have h5 : plc s k = s[k] := by simp [plc, List.getD_eq_getElem?_getD, h1]
    rw [List.getElem_map]
    omega
  unfold allW
  rw [List.take_length, ← e]
/-- what the run tells at one step -/
def StepAt (halls : List Int) (ways : List (List Int)) (i : Nat) : Prop :=
  ∃ (c : Nat) (cs : List Int), c < ways.length ∧ safeMT halls ways (runT halls ways i).1 = (c : Int) :: cs ∧ runT halls ways (i + 1) = (nxS (runT halls ways i).1 c, (runT halls ways i).2 ++ [(c : Int)])
theorem run_upto (ht : travOk halls ways = true) : ∀ m, (∃ K, K ≤ m ∧ (∀ i, i ≤ K → RunT halls ways i) ∧ doneS ways (runT halls ways K).1 = true ∧ ∀ i, i < K → StepAt halls ways i) ∨ ((∀ i, i ≤ m → RunT halls ways i) ∧ (∀ i, i < m → StepAt halls ways i))
  | 0 => .inr ⟨fun i hi => by obtain rfl : i = 0 := by omega
                              exact runT_zero ht, fun i hi => by omega⟩
  | m + 1 => by
    rcases run_upto ht m with ⟨K, h1, h2, h3, h4⟩ | ⟨h1, h2⟩
    · exact .inl ⟨K, by omega, h2, h3, h4⟩
    · cases hd : doneS ways (runT halls ways m).1 with
      | true => exact .inl ⟨m, by omega, h1, hd, h2⟩
      | false =>
        obtain ⟨c, cs, k1, k2, k3, k4⟩ := runT_go ht (h1 m (Nat.le_refl _)) hd
        refine .inr ⟨fun i hi => ?_, fun i hi => ?_⟩
        · by_cases e : i = m + 1
          · subst e; exact k4
          · exact h1 i (by omega)
        · by_cases e : i = m
          · subst e; exact ⟨c, cs, k1, k2, k3⟩
          · exact h2 i (by omega)
theorem nodup_sub_len {α : Type} [DecidableEq α] : ∀ (l m : List α), l.Nodup → (∀ x ∈ l, x ∈ m) → l.length ≤ m.length
  | [], m, _, _ => by simp
  | a :: l, m, hn, hs => by
    rw [List.nodup_cons] at hn
    have ha := hs a (by simp)
    have ih := nodup_sub_len l (m.erase a) hn.2 (fun x hx => by
      have hne : x ≠ a := fun e => hn.1 (e ▸ hx)
      exact (List.mem_erase_of_ne hne).2 (hs x (by simp [hx])))
    rw [List.length_erase_of_mem ha] at ih
    have := List.length_pos_of_mem ha
    simp; omega
/-- the run as a whole -/
structure RunK (halls : List Int) (ways : List (List Int)) (L : List Int) : Prop where
  all : (L.length : Int) = allW ways ways.length
  less : allW ways ways.length < ((reachT halls ways 4).length : Int)
  le : L.length ≤ 24
  step : ∀ i, i < L.length → ∃ (c : Nat) (cs : List Int), c < ways.length ∧ L[i]? = some (c : Int) ∧ safeR halls ways (runT halls ways i).1 = (true, 0) ∧ safeMR halls ways (runT halls ways i).1 = ((c : Int) :: cs, 0) ∧ (runT halls ways (i + 1)).1 = nxS (runT halls ways i).1 c
theorem run_tells (ht : travOk halls ways = true) : runR halls ways = ((runT halls ways 24).2, 0) ∧ RunK halls ways (runT halls ways 24).2 := by
  refine ⟨by unfold runR; rw [if_pos ht], ?_⟩
  obtain ⟨K, h1, h2, h3, h4⟩ : ∃ K, K ≤ 25 ∧ (∀ i, i ≤ K → RunT halls ways i) ∧ doneS ways (runT halls ways K).1 = true ∧ ∀ i, i < K → StepAt halls ways i := by
    rcases run_upto ht 25 with h | ⟨h, _⟩
    · exact h
    · have := (h 25 (Nat.le_refl _)).le (lens5 ht) (lens4 ht); omega
  have hK := (h2 K (Nat.le_refl _)).le (lens5 ht) (lens4 ht)
  have hrk := h2 K (Nat.le_refl _)
  have hE : (runT halls ways 24).2 = (runT halls ways K).2 := (runT_end ht hrk h3).symm
  have hlen : (runT halls ways K).2.length = K := hrk.len
  have hsum : (runT halls ways K).1.sum = (K : Int) := hrk.sum
  have hds := done_sum hrk.good h3
  have hds : (K : Int) = allW ways ways.length := by rw [← hsum]; exact hds
  have hpre : ∀ d i, i + d = K → (runT halls ways i).2 <+: (runT halls ways K).2 := by
    intro d
    induction d with
    | zero => intro i hi; obtain rfl : i = K := by omega
              exact List.prefix_refl _
    | succ d ih =>
      intro i hi
      obtain ⟨c, cs, _, _, k3⟩ := h4 i (by omega)
      have := ih (i + 1) (by omega)
      rw [k3] at this
      exact (List.prefix_append _ _).trans this
  have hless : allW ways ways.length < ((reachT halls ways 4).length : Int) := by
    have hn := nodup_sub_len ((List.range (K + 1)).map fun i => (runT halls ways i).1) ((reachT halls ways 4).map Prod.fst) (by
      show List.Pairwise _ _
      rw [List.pairwise_map]
      refine List.Pairwise.imp_of_mem ?_ (List.nodup_range (n := K + 1))
      intro a b ha hb hne he
      have h5 := (h2 a (by have := List.mem_range.1 ha; omega)).sum
      have h6 := (h2 b (by have := List.mem_range.1 hb; omega)).sum
      have h7 : (runT halls ways a).1.sum = (a : Int) := h5
      have h8 : (runT halls ways b).1.sum = (b : Int) := h6
      rw [he] at h7
      omega) (fun x hx => by
      obtain ⟨i, _, rfl⟩ := List.mem_map.1 hx
      exact rd_run ht i)
    simp at hn
    omega
  rw [hE]
  refine ⟨by rw [hlen]; exact hds, hless, by omega, fun i hi => ?_⟩
  rw [hlen] at hi
  obtain ⟨c, cs, k1, k2, k3⟩ := h4 i hi
  refine ⟨c, cs, k1, ?_, ?_, ?_, by rw [k3]⟩
  · obtain ⟨r, hr⟩ := hpre (K - (i + 1)) (i + 1) (by omega)
    rw [← hr, k3]
    have hli : (runT halls ways i).2.length = i := (h2 i (by omega)).len
    show (((runT halls ways i).2 ++ [(c : Int)]) ++ r)[i]? = some (c : Int)
    rw [List.append_assoc, List.getElem?_append_right (by omega), hli, Nat.sub_self]
    rfl
  · unfold safeR
    rw [if_pos ht, if_pos (plOk_run ht i), show safeT halls ways (runT halls ways i).1 = true from (h2 i (by omega)).safe]
  · unfold safeMR
    rw [if_pos ht, if_pos (plOk_run ht i), k2]
/-- what NextMoves and IsSafe tell of a state that is reached -/
structure At (halls : List Int) (ways : List (List Int)) (s : List Int) : Prop where
  rd : Rd halls ways s
  ok : plOk halls ways s = true
theorem at_zero (ht : travOk halls ways = true) : At halls ways (zeroS ways.length) := ⟨rd_zero, plOk_zero ht⟩
theorem At.len {s : List Int} (h : At halls ways s) : s.length = ways.length := (rd_good h.rd).at_.1
theorem At.bd {s : List Int} (h : At halls ways s) {k : Nat} (hk : k < ways.length) : 0 ≤ plc s k ∧ plc s k ≤ (ways[k].length : Int) + 1 := (rd_good h.rd).at_.2 k hk
theorem At.next (ht : travOk halls ways = true) {s : List Int} (h : At halls ways s) {c : Int} (hc : c ∈ movesL halls ways 4 s) : At halls ways (nxS s c) := ⟨rd_step ht h.rd hc, plOk_next ht h.ok hc⟩
theorem At.moves (ht : travOk halls ways = true) {s : List Int} (h : At halls ways s) : nextR halls ways s = (movesL halls ways 4 s, 0) := by unfold nextR; rw [if_pos ht, if_pos h.ok]
theorem At.safe (ht : travOk halls ways = true) {s : List Int} (h : At halls ways s) : safeR halls ways s = (safeT halls ways s, 0) := by unfold safeR; rw [if_pos ht, if_pos h.ok]
theorem At.free (ht : travOk halls ways = true) {s : List Int} (h : At halls ways s) (hf : (firstDead halls ways 4).isSome = false) : safeT halls ways s = true := by
  have := ((rd_good h.rd).sum (lens5 ht) (lens4 ht)).1
  exact rd_safe ht hf 24 s h.rd (by omega)
theorem moves_rise {most : Int} {s : List Int} : ∀ (k : Nat) (hk : k < (movesL halls ways most s).length), 0 ≤ (movesL halls ways most s)[k] ∧ (movesL halls ways most s)[k] < (ways.length : Int) ∧ ∀ (h0 : 0 < k), (movesL halls ways most s)[k - 1] < (movesL halls ways most s)[k] := by
  have hp : List.Pairwise (fun a b : Int => a < b) (movesL halls ways most s) := by
    unfold movesL movesK
    rw [List.pairwise_map]
    refine List.Pairwise.imp ?_ (List.Pairwise.filter _ (List.pairwise_lt_range (n := ways.length)))
    intro a b hab; omega
  intro k hk
  obtain ⟨j, hj, he, _⟩ := mem_moves.1 (List.getElem_mem hk)
  refine ⟨by omega, by omega, fun h0 => ?_⟩
  exact List.pairwise_iff_getElem.1 hp (k - 1) k (by omega) hk (by omega)
theorem count_pos : 1 ≤ (reachT halls ways 4).length := List.length_pos_of_mem (List.mem_map.1 (rd_zero (halls := halls) (ways := ways))).choose_spec.1
end
end Go.Proofs.Ytegabdhmfemgkaa
