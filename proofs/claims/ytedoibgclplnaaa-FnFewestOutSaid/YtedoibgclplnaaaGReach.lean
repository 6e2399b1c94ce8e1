/-
Guests after a set of them has gone; that valid rooms stay valid. Plain laws, no program.
-/
import Derived.Test.YtedoibgclplnaaaReach
namespace Go.Proofs.Ytedoibgclplnaaa
set_option linter.unusedVariables false

/-- all guests of a set have gone -/
def gn (ts : List Guest) (S : Nat) : List Guest := goneK ts S ts.length
theorem gn_len (ts : List Guest) (S : Nat) : (gn ts S).length = ts.length := goneK_len ts S ts.length
theorem gn_eq (ts : List Guest) (S : Nat) : gn ts S = ts.mapIdx fun i g => if S.testBit i then go1 g else g := by
  unfold gn goneK
  rw [List.take_of_length_le (Nat.le_refl _), List.drop_of_length_le (Nat.le_refl _), List.append_nil]
theorem gn_at {ts : List Guest} {S k : Nat} (hk : k < ts.length) : (gn ts S)[k]'(by rw [gn_len]; exact hk) = if S.testBit k then go1 ts[k] else ts[k] := by
  simp [gn_eq]
theorem gn_zero (ts : List Guest) : gn ts 0 = ts := by
  apply List.ext_getElem (gn_len ts 0)
  intro i h1 h2
  rw [gn_at h2]; simp
def canS (rooms : List Int) (ts : List Guest) (S k : Nat) : Bool := match (gn ts S)[k]? with | some g => canP rooms (gn ts S) g | none => false
theorem canS_at {rooms : List Int} {ts : List Guest} {S k : Nat} (hk : k < (gn ts S).length) : canS rooms ts S k = canP rooms (gn ts S) (gn ts S)[k] := by
  unfold canS; simp [hk]
theorem canS_lt {rooms : List Int} {ts : List Guest} {S k : Nat} (h : canS rooms ts S k = true) : k < ts.length := by
  rcases Nat.lt_or_ge k ts.length with h1 | h1
  · exact h1
  · unfold canS at h; rw [List.getElem?_eq_none (by rw [gn_len]; exact h1)] at h; cases h
theorem canS_bit {rooms : List Int} {ts : List Guest} {S k : Nat} (h : canS rooms ts S k = true) : S.testBit k = false := by
  have hk := canS_lt h
  rw [canS_at (by rw [gn_len]; exact hk), gn_at hk] at h
  cases hb : S.testBit k with
  | false => rfl
  | true => rw [hb] at h; simp [canP, restB, go1] at h
theorem gn_set {ts : List Guest} {S k : Nat} (hk : k < ts.length) (hb : S.testBit k = false) : (gn ts S).set k (go1 ((gn ts S)[k]'(by rw [gn_len]; exact hk))) = gn ts (S ||| 2 ^ k) := by
  apply List.ext_getElem (by simp [gn_len])
  intro i h1 h2
  have hi : i < ts.length := by rw [gn_len] at h2; exact h2
  rw [List.getElem_set, gn_at hi, gn_at hi, gn_at hk, hb, testBit_or_pow]
  by_cases e : k = i
  · subst e; simp
  · simp [e]

def cntH (ts : List Guest) (j : Nat) : Nat := ts.countP fun g => g.here == (j : Int)
theorem free_cnt (j : Nat) : ∀ (ts : List Guest) (l : List Int), j < l.length → (ts.foldl decR l).getD j 0 = l.getD j 0 - (cntH ts j : Int)
  | [], l, _ => by simp [cntH]
  | g :: ts, l, hj => by
    rw [List.foldl_cons, free_cnt j ts (decR l g) (by rw [decR_len]; exact hj)]
    have hc : cntH (g :: ts) j = cntH ts j + (if g.here == (j : Int) then 1 else 0) := by unfold cntH; rw [List.countP_cons]
    rw [hc]
    unfold decR
    by_cases h0 : 0 ≤ g.here
    · rw [if_pos h0]
      by_cases e : g.here = (j : Int)
      · rw [e]; simp [List.getD_eq_getElem?_getD, hj]; omega
      · have e2 : g.here.toNat ≠ j := by omega
        simp [List.getD_eq_getElem?_getD, e2, e]
    · rw [if_neg h0]
      have e : g.here ≠ (j : Int) := by omega
      simp [e]
theorem nonneg_iff {rooms : List Int} {ts : List Guest} : nonnegB (freeK rooms ts ts.length) = true ↔ ∀ j, j < rooms.length → (cntH ts j : Int) ≤ rooms.getD j 0 := by
  have hl : ∀ (ts : List Guest) (l : List Int), (ts.foldl decR l).length = l.length := by
    intro ts
    induction ts with
    | nil => intro l; rfl
    | cons a t ih => intro l; rw [List.foldl_cons, ih, decR_len]
  unfold freeK
  rw [List.take_of_length_le (Nat.le_refl _), nonnegB_iff]
  constructor
  · intro h j hj
    have h1 := free_cnt j ts rooms hj
    have h2 := h ((ts.foldl decR rooms).getD j 0) (by
      rw [List.getD_eq_getElem?_getD, List.getElem?_eq_getElem (by rw [hl]; exact hj)]; exact List.getElem_mem _)
    omega
  · intro h x hx
    obtain ⟨j, hj, rfl⟩ := List.mem_iff_getElem.1 hx
    rw [hl] at hj
    have h1 := free_cnt j ts rooms hj
    rw [List.getD_eq_getElem?_getD, List.getElem?_eq_getElem (by rw [hl]; exact hj)] at h1
    have := h j hj
    simp only [Option.getD_some] at h1
    omega
theorem cntH_set {ts : List Guest} {k j : Nat} {g : Guest} (hk : k < ts.length) : cntH (ts.set k g) j ≤ cntH ts j + (if g.here == (j : Int) then 1 else 0) := by
  unfold cntH; rw [List.countP_set (h := hk)]; omega
theorem roomsOk_mk {rooms : List Int} {ts ts' : List Guest} (h : roomsOk rooms ts = true) (hl : ts'.length = ts.length) (hf : ∀ (k : Nat) (hk : k < ts'.length), Guest.fits (lastR rooms) ts'[k] = true)
    (hc : ∀ j, j < rooms.length → (cntH ts' j : Int) ≤ rooms.getD j 0) : roomsOk rooms ts' = true := by
  simp only [roomsOk, Bool.and_eq_true, Bool.not_eq_true', decide_eq_true_eq, List.all_eq_true] at h ⊢
  obtain ⟨⟨⟨⟨h1, h2⟩, h3⟩, h4⟩, h5⟩ := h
  exact ⟨⟨⟨⟨h1, h2⟩, by omega⟩, fun x hx => by obtain ⟨i, hi, rfl⟩ := List.mem_iff_getElem.1 hx; exact hf i hi⟩, nonneg_iff.2 hc⟩
theorem fits_go1 {last : Int} {g : Guest} (h : Guest.fits last g = true) : Guest.fits last (go1 g) = true := by
  simp only [Guest.fits, Bool.and_eq_true] at h ⊢; exact ⟨h.2, h.2⟩
theorem roomsOk_go {rooms : List Int} {ts : List Guest} {k : Nat} (h : roomsOk rooms ts = true) (hk : k < ts.length) (hcan : canP rooms ts ts[k] = true) : roomsOk rooms (ts.set k (go1 ts[k])) = true := by
  obtain ⟨h1, h2, h3, h4, h5⟩ := roomsOk_at h
  rw [nonneg_iff] at h5
  refine roomsOk_mk h (by simp) (fun i hi => ?_) (fun j hj => ?_)
  · rw [List.getElem_set]; split
    · exact fits_go1 (h4 k hk)
    · exact h4 i (by simpa using hi)
  · have h6 := cntH_set (j := j) (g := go1 ts[k]) hk
    have h7 := h5 j hj
    by_cases e : ts[k].wants = (j : Int)
    · have hfr := free_cnt j ts rooms hj
      simp only [canP, Bool.and_eq_true, Bool.or_eq_true, decide_eq_true_eq] at hcan
      rcases hcan.2 with hw | hw
      · omega
      · rw [e] at hw
        unfold freeK at hw
        rw [List.take_of_length_le (Nat.le_refl _), Int.toNat_natCast, hfr] at hw
        have : (go1 ts[k]).here = (j : Int) := e
        simp only [this, beq_self_eq_true, if_true] at h6
        omega
    · have : ((go1 ts[k]).here == (j : Int)) = false := by simp [go1, e]
      rw [this] at h6; simp at h6
      omega
theorem gn_ok {rooms : List Int} {ts : List Guest} (h : roomsOk rooms ts = true) {S : Nat} (hr : Rch ts.length (canS rooms ts) 0 S) : roomsOk rooms (gn ts S) = true := by
  induction hr with
  | zero => rw [gn_zero]; exact h
  | step hr hk hcan ih =>
    have hb := canS_bit hcan
    rw [← gn_set hk hb]
    exact roomsOk_go ih (by rw [gn_len]; exact hk) (by rw [← canS_at]; exact hcan)
/-- all rest -/
def dnS (ts : List Guest) (S : Nat) : Bool := (gn ts S).all restB
def movL (ts : List Guest) (k : Nat) : Nat := ((List.range k).filter fun i => match ts[i]? with | some g => !restB g | none => false).foldl (fun s i => s ||| 2 ^ i) 0
theorem foldl_or_bit (l : List Nat) (s j : Nat) : (l.foldl (fun s i => s ||| 2 ^ i) s).testBit j = (s.testBit j || decide (j ∈ l)) := by
  induction l generalizing s with
  | nil => simp
  | cons a l ih =>
    rw [List.foldl_cons, ih, testBit_or_pow, Bool.or_assoc]
    congr 1
    rw [Bool.eq_iff_iff, Bool.or_eq_true, decide_eq_true_iff, decide_eq_true_iff, decide_eq_true_iff, List.mem_cons]
    constructor
    · rintro (h | h)
      · exact .inl h.symm
      · exact .inr h
    · rintro (h | h)
      · exact .inl h.symm
      · exact .inr h
theorem mov_bit {ts : List Guest} {k j : Nat} (hk : k ≤ ts.length) : (movL ts k).testBit j = (decide (j < k) && match ts[j]? with | some g => !restB g | none => false) := by
  unfold movL; rw [foldl_or_bit]
  rw [Bool.eq_iff_iff]; simp
theorem mov_yes {ts : List Guest} {k : Nat} (hk : k < ts.length) (h : restB ts[k] = false) : movL ts (k + 1) = movL ts k ||| 2 ^ k := by
  simp [movL, List.range_succ, List.filter_append, hk, h]
theorem mov_no {ts : List Guest} {k : Nat} (hk : k < ts.length) (h : restB ts[k] = true) : movL ts (k + 1) = movL ts k := by
  simp [movL, List.range_succ, List.filter_append, hk, h]
theorem mov_lt {ts : List Guest} (h8 : ts.length ≤ 8) {k : Nat} (hk : k ≤ ts.length) : movL ts k < 2 ^ ts.length := by
  apply Nat.lt_pow_two_of_testBit
  intro i hi
  rw [mov_bit hk, decide_eq_false (by omega)]; rfl
theorem rch_sub {rooms : List Int} {ts : List Guest} {S : Nat} (hr : Rch ts.length (canS rooms ts) 0 S) : ∀ j, S.testBit j = true → (movL ts ts.length).testBit j = true := by
  induction hr with
  | zero => intro j h; simp at h
  | @step S k hr hk hcan ih =>
    intro j hj
    rw [testBit_or_pow, Bool.or_eq_true] at hj
    rcases hj with hj | hj
    · exact ih j hj
    · have hj : k = j := by simpa using hj
      subst hj
      have hb := canS_bit hcan
      rw [canS_at (by rw [gn_len]; exact hk), gn_at hk, hb] at hcan
      rw [mov_bit (Nat.le_refl _)]
      simp [canP] at hcan
      simp [hk, hcan.1]
/-- a set of guests that has all that do not rest -/
theorem dnS_iff {ts : List Guest} {S : Nat} : dnS ts S = true ↔ ∀ j, (movL ts ts.length).testBit j = true → S.testBit j = true := by
  unfold dnS
  rw [List.all_eq_true]
  constructor
  · intro h j hj
    rw [mov_bit (Nat.le_refl _), Bool.and_eq_true, decide_eq_true_eq] at hj
    obtain ⟨hj1, hj2⟩ := hj
    have h1 := h _ (List.getElem_mem (by rw [gn_len]; exact hj1))
    rw [gn_at hj1] at h1
    cases hb : S.testBit j with
    | true => rfl
    | false => rw [hb] at h1; simp [hj1] at hj2; simp [hj2] at h1
  · intro h x hx
    obtain ⟨i, hi, rfl⟩ := List.mem_iff_getElem.1 hx
    have hi' : i < ts.length := by rw [gn_len] at hi; exact hi
    rw [gn_at hi']
    have h1 := h i
    rw [mov_bit (Nat.le_refl _)] at h1
    cases hr : restB ts[i] with
    | true => split; simp [restB, go1]; exact hr
    | false =>
      have := h1 (by simp [hi', hr])
      rw [this]; simp [restB, go1]
theorem dn_eq {rooms : List Int} {ts : List Guest} {S : Nat} (hr : Rch ts.length (canS rooms ts) 0 S) : dnS ts S = true ↔ S = movL ts ts.length := by
  rw [dnS_iff]
  constructor
  · intro h
    apply Nat.eq_of_testBit_eq
    intro i
    rw [Bool.eq_iff_iff]
    exact ⟨rch_sub hr i, h i⟩
  · rintro rfl j hj; exact hj
/-- an order of all is there just when all that do not rest are met -/
theorem order_iff {rooms : List Int} {ts : List Guest} : (fos ts.length (canS rooms ts) (dnS ts) 0).isSome = true ↔ Rch ts.length (canS rooms ts) 0 (movL ts ts.length) := by
  rw [fos_iff (fun _ _ h => canS_bit h) (2 ^ ts.length) 0 (Nat.two_pow_pos _) (by omega)]
  constructor
  · rintro ⟨T, hT, hd⟩
    rw [(dn_eq hT).1 hd] at hT; exact hT
  · intro h; exact ⟨_, h, (dn_eq h).2 rfl⟩
end Go.Proofs.Ytedoibgclplnaaa
