/-
The tables of the program's BestDay: two rows of rows that the call itself makes, one row of each in the making. Plain laws of memory; conditions: what the structures say.
-/
import Derived.Test.YtjleabgoajoegaaBestA
import Derived.Test.YtjleabgoajoegaaStepI
import Derived.Test.YtjleabgoajoegaaGrs
namespace Go.Proofs.Ytjleabgoajoegaa
open Go.RowKit
set_option linter.unusedVariables false
set_option linter.unusedSimpArgs false

theorem sep_horB {w : World} {lo sz n : Nat} {e : TypeId} {u v v' : Value} {ds : List Value} (h : Ow w lo e sz u n ds) (hs : Sep u v) (hor : v'.ownBlock = v.ownBlock ∨ ∀ g, v'.ownBlock = some g → w.heap.size ≤ g) : Sep u v' := by
  rcases hs with hs | hs
  · exact .inl hs
  · rcases hor with hor | hor
    · exact .inr (by rw [hor]; exact hs)
    · cases hu : u.ownBlock with
      | none => exact .inl hu
      | some j =>
        refine .inr fun hq => ?_
        rw [hu] at hq
        have h1 := hor j hq.symm
        have h2 := (h.lt j hu).2
        omega
theorem sep_symB {u v : Value} (h : Sep u v) : Sep v u := by
  rcases h with h | h
  · cases hv : v.ownBlock with
    | none => exact .inl hv
    | some j => exact .inr (by rw [h, hv]; simp)
  · exact .inr (Ne.symm h)
/-- numbers, three to a blower -/
theorem powS_last {ts : List Blower} (hok : blowersOk ts = true) (s : Int) : ∀ k : Nat, k ≤ ts.length → powS ts s k ≤ powS ts (lastB ts.length) k
  | 0, _ => Int.le_refl _
  | k + 1, hk => by
    have ih := powS_last hok s k (by omega)
    have hp := ((blowersOk_at hok).2 k (by omega)).1.1
    have hl : hasB (lastB ts.length) (k : Int) = true := by
      unfold hasB lastB
      have h1 : 1 ≤ 2 ^ ts.length := Nat.one_le_two_pow
      rw [show (((2 ^ ts.length : Nat) : Int) - 1).toNat = 2 ^ ts.length - 1 by omega, Int.toNat_natCast, Nat.testBit_two_pow_sub_one]
      exact decide_eq_true (by omega)
    rw [powS_yes (by omega) hl]
    cases h : hasB s (k : Int) with
    | true => rw [powS_yes (by omega) h]; omega
    | false => rw [powS_no h]; omega
theorem powT_last {ts : List Blower} (hok : blowersOk ts = true) (s : Int) : powT ts s ≤ powT ts (lastB ts.length) := powS_last hok s _ (Nat.le_refl _)

/-- the blocks that an hour's work may change -/
def HrR (gC gN H0 : Nat) : Nat → Prop := fun k => k = gC ∨ k = gN ∨ H0 ≤ k
/-- in the midst of an hour: both tables, and a row of each in the making -/
structure BD (w3 : World) (lo gC gN m : Nat) (us vs : List Value) (A2 : Option Addr) (n2 c2 : Nat) (xs : List Int) (A3 : Option Addr) (n3 c3 : Nat) (ys : List Int) (W : World) : Prop where
  tc : Ow W lo 22 1 (.slice (some ⟨gC, 0, none⟩) m m) m us
  tn : Ow W lo 22 1 (.slice (some ⟨gN, 0, none⟩) m m) m vs
  ne : gC ≠ gN
  rc : Ow W w3.heap.size 2 1 (.slice A2 n2 c2) n2 (xs.map (Value.int .i64))
  rn : Ow W w3.heap.size 2 1 (.slice A3 n3 c3) n3 (ys.map (Value.int .i64))
  sep : Sep (.slice A2 n2 c2) (.slice A3 n3 c3)
  gr : GrS (HrR gC gN w3.heap.size) w3 W
section
variable {w3 W W' : World} {lo gC gN m n2 c2 n3 c3 : Nat} {us vs : List Value} {A2 A3 : Option Addr} {xs ys : List Int}
theorem BD.ex (h : BD w3 lo gC gN m us vs A2 n2 c2 xs A3 n3 c3 ys W) (hb : Below W.heap.size W W') : BD w3 lo gC gN m us vs A2 n2 c2 xs A3 n3 c3 ys W' :=
  ⟨h.tc.ex hb, h.tn.ex hb, h.ne, h.rc.ex hb, h.rn.ex hb, h.sep, h.gr.trans (GrS.ofBelow hb)⟩
theorem BD.appC (h : BD w3 lo gC gN m us vs A2 n2 c2 xs A3 n3 c3 ys W) {g' c' : Nat} {u : Int} (ho : Ow W' w3.heap.size 2 1 (.slice (some ⟨g', 0, none⟩) (n2 + 1) c') (n2 + 1) (xs.map (Value.int .i64) ++ [.int .i64 u])) (hg : W.grownBy W' (Value.slice A2 n2 c2).ownBlock) (hor : (Value.slice A2 n2 c2).ownBlock = some g' ∨ g' = W.heap.size) :
    BD w3 lo gC gN m us vs (some ⟨g', 0, none⟩) (n2 + 1) c' (xs ++ [u]) A3 n3 c3 ys W' := by
  refine ⟨Ow.keptS h.tc hg (Ow.sep_type h.tc h.rc (by decide)), Ow.keptS h.tn hg (Ow.sep_type h.tn h.rc (by decide)), h.ne, by rw [List.map_append]; exact ho, Ow.keptS h.rn hg (sep_symB h.sep), ?_, ?_⟩
  · refine sep_symB (sep_horB h.rn (sep_symB h.sep) ?_)
    rcases hor with h1 | h1
    · exact .inl h1.symm
    · refine .inr fun g hg => ?_
      simp [Value.ownBlock] at hg; omega
  · exact h.gr.trans (GrS.ofGrown hg (fun k hk => .inr (.inr (h.rc.lt k hk).1)))
theorem BD.appN (h : BD w3 lo gC gN m us vs A2 n2 c2 xs A3 n3 c3 ys W) {g' c' : Nat} {u : Int} (ho : Ow W' w3.heap.size 2 1 (.slice (some ⟨g', 0, none⟩) (n3 + 1) c') (n3 + 1) (ys.map (Value.int .i64) ++ [.int .i64 u])) (hg : W.grownBy W' (Value.slice A3 n3 c3).ownBlock) (hor : (Value.slice A3 n3 c3).ownBlock = some g' ∨ g' = W.heap.size) :
    BD w3 lo gC gN m us vs A2 n2 c2 xs (some ⟨g', 0, none⟩) (n3 + 1) c' (ys ++ [u]) W' := by
  refine ⟨Ow.keptS h.tc hg (Ow.sep_type h.tc h.rn (by decide)), Ow.keptS h.tn hg (Ow.sep_type h.tn h.rn (by decide)), h.ne, Ow.keptS h.rc hg h.sep, by rw [List.map_append]; exact ho, ?_, ?_⟩
  · refine sep_horB h.rc h.sep ?_
    rcases hor with h1 | h1
    · exact .inl h1.symm
    · refine .inr fun g hg => ?_
      simp [Value.ownBlock] at hg; omega
  · exact h.gr.trans (GrS.ofGrown hg (fun k hk => .inr (.inr (h.rn.lt k hk).1)))
theorem BD.stC (h : BD w3 lo gC gN m us vs A2 n2 c2 xs A3 n3 c3 ys W) (q : Nat) (u : Value) : BD w3 lo gC gN m (us.set q u) vs A2 n2 c2 xs A3 n3 c3 ys (W.setCell ⟨gC, q, none⟩ u) := by
  have hg := Ow.grow (k := q) h.tc u
  exact ⟨Ow.set h.tc q u, Ow.kept h.tn hg (.inr (by simp [Value.ownBlock]; exact Ne.symm h.ne)), h.ne, Ow.keptS (u := .slice (some ⟨gC, 0, none⟩) m m) h.rc hg (sep_symB (Ow.sep_type h.tc h.rc (by decide))), Ow.keptS (u := .slice (some ⟨gC, 0, none⟩) m m) h.rn hg (sep_symB (Ow.sep_type h.tc h.rn (by decide))), h.sep, h.gr.trans (GrS.set (.inl rfl) u)⟩
theorem BD.stN (h : BD w3 lo gC gN m us vs A2 n2 c2 xs A3 n3 c3 ys W) (q : Nat) (u : Value) : BD w3 lo gC gN m us (vs.set q u) A2 n2 c2 xs A3 n3 c3 ys (W.setCell ⟨gN, q, none⟩ u) := by
  have hg := Ow.grow (k := q) h.tn u
  exact ⟨Ow.kept h.tc hg (.inr (by simp [Value.ownBlock]; exact h.ne)), Ow.set h.tn q u, h.ne, Ow.keptS (u := .slice (some ⟨gN, 0, none⟩) m m) h.rc hg (sep_symB (Ow.sep_type h.tn h.rc (by decide))), Ow.keptS (u := .slice (some ⟨gN, 0, none⟩) m m) h.rn hg (sep_symB (Ow.sep_type h.tn h.rn (by decide))), h.sep, h.gr.trans (GrS.set (.inr (.inl rfl)) u)⟩
theorem BD.cellC (h : BD w3 lo gC gN m us vs A2 n2 c2 xs A3 n3 c3 ys W) {q : Nat} (hq : q < us.length) : W.cell? ⟨gC, q, none⟩ = some us[q] := Ow.cell h.tc hq
theorem BD.cellN (h : BD w3 lo gC gN m us vs A2 n2 c2 xs A3 n3 c3 ys W) {q : Nat} (hq : q < vs.length) : W.cell? ⟨gN, q, none⟩ = some vs[q] := Ow.cell h.tn hq
theorem BD.freeC (h : BD w3 lo gC gN m us vs A2 n2 c2 xs A3 n3 c3 ys W) (q : Nat) : W.frozen? ⟨gC, q, none⟩ = false := Ow.free h.tc q
theorem BD.freeN (h : BD w3 lo gC gN m us vs A2 n2 c2 xs A3 n3 c3 ys W) (q : Nat) : W.frozen? ⟨gN, q, none⟩ = false := Ow.free h.tn q
end
/-- between hours: k hours are left -/
structure HD (lo gC gN : Nat) (ts : List Blower) (N : Nat) (ns : List Int) (k : Nat) (us vs : List Value) (W : World) : Prop where
  tc : Ow W lo 22 1 (.slice (some ⟨gC, 0, none⟩) (ns.length + 1) (ns.length + 1)) (ns.length + 1) us
  tn : Ow W lo 22 1 (.slice (some ⟨gN, 0, none⟩) (ns.length + 1) (ns.length + 1)) (ns.length + 1) vs
  ne : gC ≠ gN
  rc : ∀ i (h : i < us.length), k ≤ i → OwI W lo us[i] (rowF ts N (ns.drop i) N)
  rn : ∀ i (h : i < vs.length), k ≤ i → i < ns.length → OwI W lo vs[i] (rowN ts N (ns.getD i 0) (ns.drop (i + 1)) N)
  nc : ∀ i (h : i < us.length), i < k → us[i] = .slice none 0 0
  nn : ∀ i (h : i < vs.length), i < k → vs[i] = .slice none 0 0
section
variable {lo gC gN N k q : Nat} {ts : List Blower} {ns : List Int} {us vs vs' : List Value} {W w3 : World} {n2 c2 n3 c3 : Nat} {A2 A3 : Option Addr} {xs ys : List Int} {u : Value}
theorem HD.lu (h : HD lo gC gN ts N ns k us vs W) : us.length = ns.length + 1 := by have := h.tc.len; omega
theorem HD.lv (h : HD lo gC gN ts N ns k us vs W) : vs.length = ns.length + 1 := by have := h.tn.len; omega
/-- the tables are made, the row behind the last hour is laid -/
theorem HD.start {w5 : World} {lo' : Nat} {v : Value} (htc : Ow w5 lo 22 1 (.slice (some ⟨gC, 0, none⟩) (ns.length + 1) (ns.length + 1)) (ns.length + 1) (List.replicate (ns.length + 1) (.slice none 0 0))) (htn : Ow w5 lo 22 1 (.slice (some ⟨gN, 0, none⟩) (ns.length + 1) (ns.length + 1)) (ns.length + 1) (List.replicate (ns.length + 1) (.slice none 0 0))) (hne : gC ≠ gN) (hr : Ow w5 lo' 2 1 v N (List.replicate N (.int .i64 0))) (hlo : lo ≤ lo') :
    HD lo gC gN ts N ns ns.length ((List.replicate (ns.length + 1) (.slice none 0 0)).set ns.length v) (List.replicate (ns.length + 1) (.slice none 0 0)) (w5.setCell ⟨gC, ns.length, none⟩ v) := by
  have hg := Ow.grow (k := ns.length) htc v
  refine ⟨Ow.set htc _ v, Ow.kept htn hg (.inr (by simp [Value.ownBlock]; exact Ne.symm hne)), hne, fun i h1 h2 => ?_, fun i h1 h2 h3 => by omega, fun i h1 h2 => ?_, fun i h1 h2 => by simp⟩
  · have hi : i < ns.length + 1 := by simpa using h1
    obtain rfl : i = ns.length := by omega
    rw [List.getElem_set_self]
    have h9 := Ow.mono (Ow.keptS (u := .slice (some ⟨gC, 0, none⟩) (ns.length + 1) (ns.length + 1)) hr hg (sep_symB (Ow.sep_type htc hr (by decide)))) hlo
    have e : rowF ts N (ns.drop ns.length) N = List.replicate N 0 := by
      rw [List.drop_length]
      apply List.ext_getElem
      · simp [rowF_len]
      · intro i h1 h2; rw [rowF_get]; simp [restF]
    rw [e]
    unfold OwI
    rw [List.length_replicate, List.map_replicate]
    exact h9
  · rw [List.getElem_set_ne (by omega)]; simp
/-- a cell of the costs' table that an hour does not touch -/
theorem BD.other (hb : BD w3 lo gC gN (ns.length + 1) (us.set q u) vs' A2 n2 c2 xs A3 n3 c3 ys W) (h : HD lo gC gN ts N ns k us vs w3) {i : Nat} {x : Value} (hi : i ≤ ns.length) (hq : q ≠ i) (hx : w3.cell? ⟨gC, i, none⟩ = some x) : W.cell? ⟨gC, i, none⟩ = some x := by
  have hlu := h.lu
  have h1 := Ow.cell h.tc (k := i) (by omega)
  have h2 := hb.cellC (q := i) (by simp; omega)
  rw [List.getElem_set_ne hq] at h2
  rw [h2, ← h1, hx]
/-- an hour begins -/
theorem HD.begin (h : HD lo gC gN ts N ns (q + 1) us vs w3) (hq : q < ns.length) : BD w3 lo gC gN (ns.length + 1) (us.set q (.slice none 0 0)) (vs.set q (.slice none 0 0)) none 0 0 [] none 0 0 [] w3 := by
  have hlu := h.lu; have hlv := h.lv
  have e1 : us.set q (.slice none 0 0) = us := by
    apply List.ext_getElem (by simp)
    intro i h1 h2
    rw [List.getElem_set]; split
    · rename_i e; subst e; exact (h.nc q h2 (by omega)).symm
    · rfl
  have e2 : vs.set q (.slice none 0 0) = vs := by
    apply List.ext_getElem (by simp)
    intro i h1 h2
    rw [List.getElem_set]; split
    · rename_i e; subst e; exact (h.nn q h2 (by omega)).symm
    · rfl
  rw [e1, e2]
  exact ⟨h.tc, h.tn, h.ne, ⟨World.ownsRow_nil _ _ _ _, by simp⟩, ⟨World.ownsRow_nil _ _ _ _, by simp⟩, .inl rfl, GrS.refl _ _⟩
/-- rows that were there stay along an hour -/
theorem HD.row (h : HD lo gC gN ts N ns k us vs w3) {v : Value} {xs : List Int} (hv : OwI w3 lo v xs) (hg : GrS (HrR gC gN w3.heap.size) w3 W) : OwI W lo v xs := by
  refine Ow.off hv hg (fun g hg2 hr => ?_)
  rcases hr with rfl | rfl | hr
  · rcases Ow.sep_type (v := v) (u := .slice (some ⟨g, 0, none⟩) (ns.length + 1) (ns.length + 1)) hv h.tc (by decide) with h1 | h1
    · rw [h1] at hg2; cases hg2
    · exact h1 (by rw [hg2]; rfl)
  · rcases Ow.sep_type (v := v) (u := .slice (some ⟨g, 0, none⟩) (ns.length + 1) (ns.length + 1)) hv h.tn (by decide) with h1 | h1
    · rw [h1] at hg2; cases hg2
    · exact h1 (by rw [hg2]; rfl)
  · have := (hv.lt g hg2).2; omega
/-- an hour is done -/
theorem HD.next (h : HD lo gC gN ts N ns (q + 1) us vs w3) (hq : q < ns.length) (hlo : lo ≤ w3.heap.size) {A2 A3 : Option Addr} {c2 c3 : Nat} (hb : BD w3 lo gC gN (ns.length + 1) (us.set q (.slice A2 N c2)) (vs.set q (.slice A3 N c3)) A2 N c2 (rowF ts N (ns.drop q) N) A3 N c3 (rowN ts N (ns.getD q 0) (ns.drop (q + 1)) N) W) :
    HD lo gC gN ts N ns q (us.set q (.slice A2 N c2)) (vs.set q (.slice A3 N c3)) W := by
  have hlu := h.lu; have hlv := h.lv
  refine ⟨hb.tc, hb.tn, hb.ne, fun i h1 h2 => ?_, fun i h1 h2 h3 => ?_, fun i h1 h2 => ?_, fun i h1 h2 => ?_⟩
  · simp only [List.getElem_set]; split
    · rename_i e; subst e
      have h9 := Ow.mono hb.rc hlo
      unfold OwI; rw [rowF_len]; exact h9
    · exact h.row (h.rc i (by simpa using h1) (by omega)) hb.gr
  · simp only [List.getElem_set]; split
    · rename_i e; subst e
      have h9 := Ow.mono hb.rn hlo
      unfold OwI; rw [rowN_len]; exact h9
    · exact h.row (h.rn i (by simpa using h1) (by omega) h3) hb.gr
  · simp only [List.getElem_set]; rw [if_neg (by omega)]; exact h.nc i (by simpa using h1) (by omega)
  · simp only [List.getElem_set]; rw [if_neg (by omega)]; exact h.nn i (by simpa using h1) (by omega)
/-- a cell of the costs' table -/
theorem HD.cost (h : HD lo gC gN ts N ns k us vs w3) {i : Nat} (hi : i ≤ ns.length) (hk : k ≤ i) : ∃ A c, w3.cell? ⟨gC, i, none⟩ = some (.slice A N c) ∧ gC < w3.heap.size ∧ ∀ s, s < N → ∃ b, A = some ⟨b, 0, none⟩ ∧ b < w3.heap.size ∧ b ≠ gC ∧ b ≠ gN ∧ w3.cell? ⟨b, s, none⟩ = some (.int .i64 (restF ts N (ns.drop i) s)) := by
  have hlu := h.lu
  have hr := h.rc i (by omega) hk
  have hc := Ow.cell h.tc (k := i) (by omega)
  have hgl := (h.tc.lt gC rfl).2
  rcases Ow.form hr with ⟨h1, h2, _⟩ | ⟨g, c, h1, hlo, hlt, _⟩
  · rw [rowF_len] at h2
    refine ⟨none, 0, by rw [hc, h1, h2], hgl, fun s hs => by omega⟩
  · rw [rowF_len] at h1
    refine ⟨some ⟨g, 0, none⟩, c, by rw [hc, h1], hgl, fun s hs => ⟨g, rfl, hlt, ?_, ?_, ?_⟩⟩
    · intro e; subst e
      rcases Ow.sep_type (v := us[i]'(by omega)) (u := .slice (some ⟨g, 0, none⟩) (ns.length + 1) (ns.length + 1)) hr h.tc (by decide) with h9 | h9
      · rw [h1] at h9; cases h9
      · exact h9 (by rw [h1]; rfl)
    · intro e; subst e
      rcases Ow.sep_type (v := us[i]'(by omega)) (u := .slice (some ⟨g, 0, none⟩) (ns.length + 1) (ns.length + 1)) hr h.tn (by decide) with h9 | h9
      · rw [h1] at h9; cases h9
      · exact h9 (by rw [h1]; rfl)
    · rw [h1] at hr
      have h8 : OwI w3 lo (.slice (some ⟨g, 0, none⟩) (rowF ts N (ns.drop i) N).length c) (rowF ts N (ns.drop i) N) := by rw [rowF_len]; exact hr
      have h9 := OwI.cell h8 (k := s) (by rw [rowF_len]; exact hs)
      rw [rowF_get] at h9
      exact h9
/-- a cell of the table of sets -/
theorem HD.set (h : HD lo gC gN ts N ns k us vs w3) {i : Nat} (hi : i < ns.length) (hk : k ≤ i) : ∃ A c, w3.cell? ⟨gN, i, none⟩ = some (.slice A N c) ∧ gN < w3.heap.size ∧ ∀ s : Nat, s < N → ∃ b, A = some ⟨b, 0, none⟩ ∧ b < w3.heap.size ∧ w3.cell? ⟨b, s, none⟩ = some (.int .i64 (bstep ts (ns.getD i 0) (restF ts N (ns.drop (i + 1))) (s : Int) N).1) := by
  have hlv := h.lv
  have hr := h.rn i (by omega) hk hi
  have hc := Ow.cell h.tn (k := i) (by omega)
  have hgl := (h.tn.lt gN rfl).2
  rcases Ow.form hr with ⟨h1, h2, _⟩ | ⟨g, c, h1, hlo, hlt, _⟩
  · rw [rowN_len] at h2
    refine ⟨none, 0, by rw [hc, h1, h2], hgl, fun s hs => by omega⟩
  · rw [rowN_len] at h1
    refine ⟨some ⟨g, 0, none⟩, c, by rw [hc, h1], hgl, fun s hs => ⟨g, rfl, hlt, ?_⟩⟩
    rw [h1] at hr
    have h8 : OwI w3 lo (.slice (some ⟨g, 0, none⟩) (rowN ts N (ns.getD i 0) (ns.drop (i + 1)) N).length c) (rowN ts N (ns.getD i 0) (ns.drop (i + 1)) N) := by rw [rowN_len]; exact hr
    have h9 := OwI.cell h8 (k := s) (by rw [rowN_len]; exact hs)
    rw [rowN_get] at h9
    exact h9
end
end Go.Proofs.Ytjleabgoajoegaa
