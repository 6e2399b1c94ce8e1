/-
Tables of bools: slices of slices of bool that read as a table, rows of the call's own; mayTable. Condition: the slices read as lists, valid readings.
-/
import Derived.Test.YtlgeddbgbcineaaTrkK
import Derived.Test.YtlgeddbgbcineaaBools
import Derived.Test.YtlgeddbgbcineaaIntN
import Derived.Test.YtlgeddbgbcineaaSrc
namespace Go.Proofs.Ytlgeddbgbcineaa
open Go.RowKit
set_option linter.unusedVariables false

/-- slices of slices of bool -/
def SlBB (w : World) (v : Value) (M : List (List Bool)) : Prop :=
  ∃ us : List Value, Sl w 1 v M.length us ∧ ∀ (i : Nat) (h : i < us.length) (h' : i < M.length), Sl w 1 us[i] M[i].length (M[i].map Value.bool)
section
variable {w w' : World} {v : Value} {M : List (List Bool)}
theorem SlBB.ex (h : SlBB w v M) (hb : Below w.heap.size w w') : SlBB w' v M := by
  obtain ⟨us, h1, h2⟩ := h
  exact ⟨us, h1.ex hb, fun i h h' => (h2 i h h').ex hb⟩
theorem SlBB.op (h : SlBB w v M) : ∃ A c, v = .slice A M.length c ∧ M.length ≤ 17592186044416 ∧
    ∀ (k : Nat) (hk : k < M.length), ∃ b o A' c', A = some ⟨b, o, none⟩ ∧ b < w.heap.size ∧ w.cell? ⟨b, o + k, none⟩ = some (.slice A' M[k].length c') ∧ M[k].length ≤ 17592186044416 ∧ Sl w 1 (.slice A' M[k].length c') M[k].length (M[k].map Value.bool) ∧
      (0 < M[k].length → ∃ b' o', A' = some ⟨b', o', none⟩ ∧ b' < w.heap.size ∧ ∀ (j : Nat) (hj : j < M[k].length), w.cell? ⟨b', o' + j, none⟩ = some (.bool M[k][j])) := by
  obtain ⟨us, ⟨A, c, hv, hl, hn, hc⟩, h2⟩ := h
  refine ⟨A, c, hv, hn, fun k hk => ?_⟩
  have hku : k < us.length := by omega
  obtain ⟨b, o, hA, hb, hcell⟩ := hc.at_ hku
  have h3 := h2 k hku hk
  have h4 := h3
  obtain ⟨A', c', hv', hl', hn', hc'⟩ := h3
  refine ⟨b, o, A', c', hA, hb, ?_, hn', ?_, ?_⟩
  · rw [hcell k hku, hv']
  · rw [← hv']; exact h4
  · intro h0
    obtain ⟨b', o', hA', hb', hcell'⟩ := hc' (by simpa using h0)
    exact ⟨b', o', hA', hb', fun j hj => by have := hcell' j (by simpa using hj); simpa using this⟩
end
theorem infoRB : (Try.prog.info? 84).map (fun i => (i.zero, i.size, i.bytes)) = some (some (.slice none 0 0), 1, 24) := by kernel_rfl
/-- tables whose rows the call itself made -/
structure OwTab (w : World) (lo : Nat) (v : Value) (n : Nat) (us : List Value) (M : List (List Bool)) : Prop where
  outer : Ow w lo 84 1 v n us
  ul : us.length = M.length
  row : ∀ (i : Nat) (h : i < us.length) (h' : i < M.length), OwB w lo us[i] M[i]
section
variable {w w' : World} {lo n g : Nat} {v : Value} {us : List Value} {M : List (List Bool)}
theorem OwB.sl {u : Value} {xs : List Bool} (h : OwB w lo u xs) : Sl w 1 u xs.length (xs.map Value.bool) := Ow.sl h
theorem OwB.keptS {u v : Value} {xs : List Bool} (h : OwB w lo v xs) (hg : w.grownBy w' u.ownBlock) (hs : Sep v u) : OwB w' lo v xs := Ow.keptS h hg hs
theorem OwTab.ex (h : OwTab w lo v n us M) (hb : Below w.heap.size w w') : OwTab w' lo v n us M := ⟨h.outer.ex hb, h.ul, fun i h1 h2 => (h.row i h1 h2).ex hb⟩
theorem OwTab.len (h : OwTab w lo v n us M) : M.length = n := by have h1 := h.outer.len; have h2 := h.ul; omega
theorem OwTab.sl (h : OwTab w lo v n us M) : SlBB w v M := ⟨us, by rw [h.len]; exact h.outer.sl, fun i h1 h2 => (h.row i h1 h2).sl⟩
theorem OwTab.snoc (h : OwTab w lo v n us M) {v' u : Value} {x : List Bool} {lo' : Nat} (hlo : lo ≤ lo') (hu : OwB w lo' u x) (ho : Ow w' lo 84 1 v' (n + 1) (us ++ [u])) (hg : w.grownBy w' v.ownBlock) : OwTab w' lo v' (n + 1) (us ++ [u]) (M ++ [x]) := by
  refine ⟨ho, by simp [h.ul], fun i h1 h2 => ?_⟩
  by_cases e : i < us.length
  · rw [List.getElem_append_left e, List.getElem_append_left (by rw [← h.ul]; exact e)]
    have h3 := h.row i e (by rw [← h.ul]; exact e)
    exact OwB.keptS h3 hg (Ow.sep_type h3 h.outer (by decide))
  · have hi : i = us.length := by simp at h1; omega
    subst hi
    have e1 : (us ++ [u])[us.length]'h1 = u := by simp
    have e2 : (M ++ [x])[us.length]'h2 = x := by simp [h.ul]
    rw [e1, e2]
    exact OwB.keptS (hu.mono hlo) hg (Ow.sep_type hu h.outer (by decide))
theorem owTab_nil (w : World) (lo : Nat) (hlo : lo ≤ w.heap.size) : OwTab (w.alloc (.cells #[] 84)) lo (.slice (some ⟨w.heap.size, 0, none⟩) 0 0) 0 [] [] :=
  ⟨ow_empty w lo 84 1 hlo, rfl, fun i h _ => absurd h (by simp)⟩
end
theorem owB_empty (w : World) (lo : Nat) (hlo : lo ≤ w.heap.size) : OwB (w.alloc (.cells #[] 4)) lo (.slice (some ⟨w.heap.size, 0, none⟩) 0 0) [] := ow_empty w lo 4 1 hlo
/-- append of one bool -/
theorem wpList_appB (wr : World) {ops : Array Oper} {rest : List Oper} {o : Oper} {a : Act} {Q : Exit → Act → World → Prop} (hgd : o.guard = none) (s x : Operand)
    (ho : o.op = .call { callee := .builtin .append, args := #[s, x], argTypes := #[84, 84] })
    (lo B : Nat) (w0 : World) (A : Option Addr) (n c : Nat) (xs : List Bool) (u : Bool) (e' : TypeId) (cx : Nat) (hs : a.eval s = .slice A n c) (hown : OwB wr lo (.slice A n c) xs) (hlen : xs.length = n)
    (hx : a.eval x = .slice (some ⟨wr.heap.size, 0, none⟩) 1 cx) (hb : Below B w0 wr) (hB : B ≤ lo) (hlo : lo ≤ wr.heap.size) (hn : n + 1 ≤ 17592186044416)
    (h : ∀ A3 c3 w3, OwB w3 lo (.slice A3 (n + 1) c3) (xs ++ [u]) → Below B w0 w3 → wpList Try.prog ops Q rest (a.put o.dst (.slice A3 (n + 1) c3)) w3) :
    wpList Try.prog ops Q (o :: rest) a (wr.alloc (.cells #[.bool u] e')) := by
  subst hlen
  refine wpList_app wr hgd s x 84 ho lo 4 (.bool false) 1 1 Try.underlying84 infoB rfl (by omega) (.slice A xs.length c) xs.length _ hs hown #[.bool u] e' cx hx rfl ?_ hn (by omega) hlo ?_
  · intro v hv; simp at hv; subst hv; rfl
  · intro A3 c3 w3 hown3 hg3 hsz3 _
    refine h A3 c3 w3 ?_ (below_own hb hown hg3 (Nat.le_trans hB hlo) hB)
    unfold OwB
    simpa using hown3
/-- the table of a graph -/
def rowT (E : Nat → Nat → Bool) (n i : Nat) : List Bool := (List.range n).map (E i)
def tabT (E : Nat → Nat → Bool) (n m : Nat) : List (List Bool) := (List.range m).map (rowT E n)
theorem rowT_len (E : Nat → Nat → Bool) (n i : Nat) : (rowT E n i).length = n := by simp [rowT]
theorem tabT_len (E : Nat → Nat → Bool) (n m : Nat) : (tabT E n m).length = m := by simp [tabT]
theorem rowT_at (E : Nat → Nat → Bool) (n i b : Nat) (h : b < (rowT E n i).length) : (rowT E n i)[b] = E i b := by simp [rowT]
theorem tabT_at (E : Nat → Nat → Bool) (n m i : Nat) (h : i < (tabT E n m).length) : (tabT E n m)[i] = rowT E n i := by simp [tabT]
theorem rowT_succ (E : Nat → Nat → Bool) (n i : Nat) : rowT E (n + 1) i = rowT E n i ++ [E i n] := by simp [rowT, List.range_succ]
theorem tabT_succ (E : Nat → Nat → Bool) (n m : Nat) : tabT E n (m + 1) = tabT E n m ++ [rowT E n m] := by simp [tabT, List.range_succ]
theorem tabT_cong {E E' : Nat → Nat → Bool} {n : Nat} (h : ∀ i b, i < n → b < n → E i b = E' i b) : tabT E n n = tabT E' n n := by
  apply List.ext_getElem (by simp [tabT])
  intro i h1 h2
  rw [tabT_at, tabT_at]
  apply List.ext_getElem (by simp [rowT])
  intro b h3 h4
  rw [rowT_at, rowT_at]
  exact h i b (by simpa [tabT] using h1) (by simpa [rowT] using h3)
/-- a slice that reads as the table of a graph -/
def SlTab (w : World) (v : Value) (E : Nat → Nat → Bool) (n : Nat) : Prop := SlBB w v (tabT E n n)
theorem SlTab.ex {w w' : World} {v : Value} {E : Nat → Nat → Bool} {n : Nat} (h : SlTab w v E n) (hb : Below w.heap.size w w') : SlTab w' v E n := SlBB.ex h hb
theorem SlTab.cong {w : World} {v : Value} {E E' : Nat → Nat → Bool} {n : Nat} (h : SlTab w v E n) (he : ∀ i b, i < n → b < n → E i b = E' i b) : SlTab w v E' n := by
  unfold SlTab at *; rw [← tabT_cong he]; exact h
theorem SlTab.op {w : World} {v : Value} {E : Nat → Nat → Bool} {n : Nat} (h : SlTab w v E n) : ∃ A c, v = .slice A n c ∧
    ∀ i, i < n → ∃ b o b' o' c', A = some ⟨b, o, none⟩ ∧ b < w.heap.size ∧ b' < w.heap.size ∧ w.cell? ⟨b, o + i, none⟩ = some (.slice (some ⟨b', o', none⟩) n c') ∧ Sl w 1 (.slice (some ⟨b', o', none⟩) n c') n ((rowT E n i).map Value.bool) ∧ ∀ j, j < n → w.cell? ⟨b', o' + j, none⟩ = some (.bool (E i j)) := by
  obtain ⟨A, c, hv, _, hc⟩ := SlBB.op h
  rw [tabT_len] at hv
  refine ⟨A, c, hv, fun i hi => ?_⟩
  obtain ⟨b, o, A', c', h1, h2, h3, h4, h5, h6⟩ := hc i (by rw [tabT_len]; exact hi)
  have hl : ((tabT E n n)[i]'(by rw [tabT_len]; exact hi)).length = n := by rw [tabT_at, rowT_len]
  obtain ⟨b', o', h7, h8, h9⟩ := h6 (by rw [hl]; omega)
  subst h7
  refine ⟨b, o, b', o', c', h1, h2, h8, by rw [h3, hl], ?_, fun j hj => ?_⟩
  · rw [hl, tabT_at] at h5; exact h5
  · have := h9 j (by rw [hl]; exact hj)
    rw [this]
    congr 2
    simp [tabT, rowT]

set_option maxHeartbeats 4000000 in
theorem mayTable_any (v u : Value) (gs : List (List Int)) (ts : List Reading) (w : World) (hv : SlII w v gs) (hu : SlReading w u ts) (hok : readsOk gs ts = true) :
    Calls Try.prog 71 #[v, u] w fun e w' => ∃ A c us, e = .returned (.slice A ts.length c) ∧ OwTab w' w.heap.size (.slice A ts.length c) ts.length us (tabT (edG gs ts) ts.length ts.length) ∧ Below w.heap.size w w' := by
  have HV := Lib.hid hv
  obtain ⟨B, d, rfl, hlb, hrd⟩ := hu.op
  obtain ⟨hg0, hl14, hfit⟩ := readsOk_ok hok
  have HG0 := Lib.hid hg0; have HFIT := Lib.hid hfit; have HRD := Lib.hid hrd
  have HO0 := Lib.hid (owTab_nil w w.heap.size (Nat.le_refl _))
  have HB0 := Lib.hid (below_alloc w (.cells #[] 84))
  clear hv hu hg0 hfit hrd hok
  go_enter Try.func71, Try.ntmps71
  go_wp2
  go_loopw [5, 7, 8, 10, 14] (fun v5 _ _ _ v14 wr => ∃ (k c : Nat) (A : Option Addr) (us : List Value), v5 = .slice A k c ∧ v14 = .int .i64 k ∧ k ≤ ts.length ∧ Hid (OwTab wr w.heap.size (.slice A k c) k us (tabT (edG gs ts) ts.length k)) ∧ Hid (Below w.heap.size w wr)) (fun _ _ _ _ v14 _ => ts.length - (intOf v14).toNat)
  case atStart => exact ⟨0, 0, _, [], rfl, rfl, by omega, HO0, HB0⟩
  case round =>
    clear HO0 HB0
    obtain ⟨k, c, A, us, rfl, rfl, hk, HO, HB⟩ := hrel
    obtain ⟨w4, hw4⟩ : ∃ x : World, x = wr := ⟨wr, rfl⟩
    subst hw4
    by_cases hlt : k < ts.length
    · have hlti : (k : Int) < (ts.length : Int) := by omega
      obtain ⟨b1, o1, rfl, hb1, hc0, hc1⟩ := HRD.out k hlt
      have hx0 := (HB.out.cell (p := ⟨b1, o1 + k * 2, none⟩) hb1).trans hc0
      have hx1 := (HB.out.cell (p := ⟨b1, o1 + k * 2 + 1, none⟩) hb1).trans hc1
      have HF1 : Hid (Reading.fits (gs.length : Int) ⟨ts[k].sensor, ts[k].tick⟩ = true) := Lib.hid (HFIT.out _ (List.getElem_mem hlt))
      have HE : Hid (∀ (j : Nat) (hj : j < ts.length), edG gs ts k j = mayP gs ⟨ts[k].sensor, ts[k].tick⟩ ⟨ts[j].sensor, ts[j].tick⟩) := Lib.hid (fun j hj => edG_at hlt hj)
      clear hc0 hc1
      generalize ts[k].sensor = x0 at hx0 HF1 HE
      generalize ts[k].tick = x1 at hx1 HF1 HE
      have HBX := Lib.hid (Box2.new w4 (.int .i64 x0) (.int .i64 x1) 35)
      have HR0 := Lib.hid (owB_empty (w4.alloc (.cells #[.int .i64 x0, .int .i64 x1] 35)) (w4.alloc (.cells #[.int .i64 x0, .int .i64 x1] 35)).heap.size (Nat.le_refl _))
      have HBI := Lib.hid (below_alloc (w4.alloc (.cells #[.int .i64 x0, .int .i64 x1] 35)) (.cells #[] 4))
      go_wp2
      go_loopw [8, 10, 21] (fun v8 _ v21 wr => ∃ (j c2 : Nat) (A2 : Option Addr), v8 = .slice A2 j c2 ∧ v21 = .int .i64 j ∧ j ≤ ts.length ∧ Hid (OwB wr (w4.alloc (.cells #[.int .i64 x0, .int .i64 x1] 35)).heap.size (.slice A2 j c2) (rowT (edG gs ts) j k)) ∧ Hid (Below (w4.alloc (.cells #[.int .i64 x0, .int .i64 x1] 35)).heap.size (w4.alloc (.cells #[.int .i64 x0, .int .i64 x1] 35)) wr)) (fun _ _ v21 _ => ts.length - (intOf v21).toNat)
      case atStart => exact ⟨0, 0, _, rfl, rfl, by omega, Lib.hid (by have h := HR0.out; simpa [rowT] using h), HBI⟩
      case round =>
        clear HR0 HBI
        obtain ⟨j, c2, A2, rfl, rfl, hj, HR, HBI⟩ := hrel
        have HBW := Lib.hid (below_next HB.out HB.out.size ((below_alloc w4 (.cells #[.int .i64 x0, .int .i64 x1] 35)).trans (HBI.out.mono (by simp))))
        obtain ⟨w5, hw5⟩ : ∃ x : World, x = wr := ⟨wr, rfl⟩
        subst hw5
        by_cases hltj : j < ts.length
        · have hltji : (j : Int) < (ts.length : Int) := by omega
          obtain ⟨b2, o2, hA2, hb2, hd0, hd1⟩ := HRD.out j hltj
          injection hA2 with hA2
          injection hA2 with h8 h9 _
          subst h8 h9
          have hy0 := (HBW.out.cell (p := ⟨b1, o1 + j * 2, none⟩) hb2).trans hd0
          have hy1 := (HBW.out.cell (p := ⟨b1, o1 + j * 2 + 1, none⟩) hb2).trans hd1
          have HF2 : Hid (Reading.fits (gs.length : Int) ⟨ts[j].sensor, ts[j].tick⟩ = true) := Lib.hid (HFIT.out _ (List.getElem_mem hltj))
          have HEJ := Lib.hid (HE.out j hltj)
          clear hd0 hd1
          generalize ts[j].sensor = y0 at hy0 HF2 HEJ
          generalize ts[j].tick = y1 at hy1 HF2 HEJ
          have HBY := Lib.hid (Box2.new w5 (.int .i64 y0) (.int .i64 y1) 35)
          have hbn := below_alloc w5 (.cells #[.int .i64 y0, .int .i64 y1] 35)
          have HBX2 := Lib.hid ((HBX.out.ex HBI.out).ex hbn)
          have HV2 := Lib.hid ((HV.out.ex HBW.out).ex hbn)
          have hq0 := HBX2.out.c0; have hq1 := HBX2.out.c1; have hq2 := HBY.out.c0; have hq3 := HBY.out.c1
          have HR1 := Lib.hid (HR.out.ex hbn); have HBI1 := Lib.hid (below_next HBI.out HBI.out.size hbn)
          clear hbn
          go_wp2_with fail
          refine (mayFollow_any _ gs x0 x1 y0 y1 _ HV2.out HG0.out HF1.out HF2.out).mono ?_
          rintro e w6 ⟨rfl, hb6⟩
          have HR2 := Lib.hid (HR1.out.ex hb6); have HBI2 := Lib.hid (below_next HBI1.out HBI1.out.size hb6)
          have hm6 := hb6.size
          clear hb6 hq0 hq1 hq2 hq3
          rw [← HEJ.out]
          go_wp2_with (first | (at_builtin; refine wpList_appB w6 rfl (.tmp 25) (.tmp 30) rfl _ _ _ A2 j c2 _ _ 4 1 rfl HR2.out (rowT_len ..) rfl HBI2.out (Nat.le_refl _) HBI2.out.size (by omega) ?_; intro A3 c3 w7 ho7 hb7; have HO7 := Lib.hid ho7; have HB7 := Lib.hid hb7; clear ho7 hb7) | fail)
          go_roundw
          case rel => exact ⟨j + 1, c3, A3, rfl, by go_num, by omega, by rw [rowT_succ]; exact HO7, HB7⟩
          case measure => simp [intOf]; omega
        · obtain rfl : j = ts.length := by omega
          have HO5 := Lib.hid (HO.out.ex ((below_alloc w4 (.cells #[.int .i64 x0, .int .i64 x1] 35)).trans (HBI.out.mono (by simp))))
          have HLO : Hid (w.heap.size ≤ (w4.alloc (.cells #[.int .i64 x0, .int .i64 x1] 35)).heap.size) := Lib.hid (by have := HB.out.size; simp; omega)
          have hm5 := HBW.out.size
          clear hx0 hx1
          go_wp2_with (first | (at_builtin; refine wpList_app w5 rfl (.tmp 33) (.tmp 35) 82 rfl w.heap.size 84 (.slice none 0 0) 1 24 Try.underlying82 infoRB rfl (by omega) (.slice A k c) k us rfl HO5.out.outer #[.slice A2 ts.length c2] 84 1 rfl rfl (by intro v hv; simp at hv; subst hv; rfl) (by omega) (by omega) hm5 ?_; intro A6 c6 w6 ho6 hg6 hsz6 hor6; have HO6 := Lib.hid (HO5.out.snoc HLO.out HR.out ho6 hg6); have HB6 := Lib.hid (below_own HBW.out HO5.out.outer hg6 hm5 (Nat.le_refl _)); clear ho6 hg6 hsz6 hor6) | fail)
          go_roundw
          case rel => exact ⟨k + 1, c6, A6, _, rfl, by go_num, by omega, by rw [tabT_succ]; exact HO6, HB6⟩
          case measure => simp [intOf]; omega
    · obtain rfl : k = ts.length := by omega
      go_wp2
      go_ret
      exact ⟨A, c, us, rfl, HO.out, HB.out⟩
end Go.Proofs.Ytlgeddbgbcineaa
