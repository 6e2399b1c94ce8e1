/-
The reference's draws of rooms and guests, each by its contract: what is drawn is valid. Condition: a source.
-/
import Derived.Test.YtedoibgclplnaaaDr
import Derived.Test.YtedoibgclplnaaaRoomC
import Derived.Deep.RegionHeld3
namespace Go.Proofs.Ytedoibgclplnaaa
open Go.RowKit
set_option linter.unusedVariables false
set_option linter.unusedSimpArgs false

/-- append of a whole slice to a row of the call's own, at a step of a region that draws its order -/
theorem step_cat {P : Program} (w9 w : World) {ops : Array Oper} {o : Oper} {a : Act} {K : Act → World → Prop} {Q : Exit → Act → World → Prop} {E : Prop} (hgd : o.guard = none) (s x : Operand) (t : TypeId)
    (ho : o.op = .call { callee := .builtin .append, args := #[s, x], argTypes := #[t, t] })
    (lo : Nat) (e : TypeId) (z : Value) (sz bytes : Nat) (ht : P.underlying t = some (.slice e)) (hinfo : (P.info? e).map (fun i => (i.zero, i.size, i.bytes)) = some (some z, sz, bytes))
    (hzs : z.cells.size = sz) (hsz : 0 < sz) (v : Value) (n : Nat) (cs : List Value) (hs : a.eval s = v) (hown : Ow w lo e sz v n cs)
    (vx : Value) (m : Nat) (ds : List Value) (hx : a.eval x = vx) (hr : Sl w sz vx m ds) (h1 : ∀ u ∈ ds, u.oneCell' = true)
    (hn : n + m ≤ 17592186044416) (hbytes : (n + m) * bytes ≤ 140737488355328) (hlo : lo ≤ w.heap.size) (hb9 : Below lo w9 w)
    (h : ∀ A c w', Ow w' lo e sz (.slice A (n + m) c) (n + m) (cs ++ ds) → w.grownBy w' v.ownBlock → Below lo w9 w' → K (a.put o.dst (.slice A (n + m) c)) w') :
    if Region.wanted o (yielded ops a.tmps) = true then Oper.wp P o a w K Q else E := by
  have hw : Region.wanted o (yielded ops a.tmps) = true := by simp [Region.wanted, hgd]
  rw [if_pos hw]
  obtain ⟨i, hi, hz, hsize, hb⟩ := info_parts hinfo
  obtain ⟨A, c, rfl, hl, hm, hc⟩ := hr
  have hrun : ∃ v' w', (Builtin.append_ #[t, t] o.type #[v, .slice A m c]).run P w = .ok v' w' ∧ w'.ownsRow lo e sz v' (n + m) (cs ++ ds) ∧ w.grownBy w' v.ownBlock := by
    cases A with
    | some ad =>
      obtain ⟨v', w', h1', h2, h3, _⟩ := run_append_own (P := P) (w := w) lo t o.type e i z sz bytes ht hi hz hsize hb hzs hsz v n cs hown.own ad m c ds hl (fun j u hj => by
        have hjl := (List.getElem?_eq_some_iff.1 hj).1
        obtain ⟨b', o', hA, hlt, hcell⟩ := hc (by omega)
        injection hA with hA
        subst hA
        have ha : (⟨b', o', none⟩ : Addr).add j = ⟨b', o' + j, none⟩ := by
          unfold Addr.add; split
          · rename_i h; subst h; rfl
          · rfl
        rw [ha, hcell j hjl, ← hj, List.getElem?_eq_getElem hjl]) h1 (by unfold maxLen; omega) hbytes hlo
      exact ⟨v', w', h1', h2, h3⟩
    | none =>
      have hds : ds = [] := by
        rcases Nat.eq_zero_or_pos ds.length with h0 | h0
        · exact List.eq_nil_of_length_eq_zero h0
        · obtain ⟨_, _, hA, _⟩ := hc h0; cases hA
      have hm0 : m = 0 := by
        rw [hds, List.length_nil] at hl
        exact (Nat.mul_eq_zero.1 hl.symm).resolve_right (by omega)
      subst hm0 hds
      exact ⟨v, w, append_none_any w lo t o.type e i sz ht hi v n cs hown.own c, by simpa using hown.own, ⟨rfl, rfl, rfl, Nat.le_refl _, fun _ _ _ => rfl⟩⟩
  obtain ⟨v', w', hrun, h2, h3⟩ := hrun
  have hform : ∃ A c, v' = .slice A (n + m) c := by
    rcases h2.2 with ⟨rfl, h0⟩ | ⟨g, cap, cur, rfl, _⟩
    · exact ⟨none, 0, by rw [h0]⟩
    · exact ⟨_, _, rfl⟩
  obtain ⟨A', c', rfl⟩ := hform
  unfold Oper.wp execOp
  simp only [ho, resolve, invoke, builtin, Sem.run_bind, Sem.run_pure, Result.andThen_ok, List.map_toArray, List.map_cons, List.map_nil, hs, hx, hrun]
  exact h A' c' w' ⟨h2, hn⟩ h3 (below_own hb9 hown h3 hlo (Nat.le_refl _))
theorem step_cat0 {P : Program} (w9 w : World) {ops : Array Oper} {o : Oper} {a : Act} {K : Act → World → Prop} {Q : Exit → Act → World → Prop} {E : Prop} (hgd : o.guard = none) (s x : Operand) (t : TypeId)
    (ho : o.op = .call { callee := .builtin .append, args := #[s, x], argTypes := #[t, t] })
    (lo : Nat) (e : TypeId) (z : Value) (sz bytes : Nat) (ht : P.underlying t = some (.slice e)) (hinfo : (P.info? e).map (fun i => (i.zero, i.size, i.bytes)) = some (some z, sz, bytes))
    (hzs : z.cells.size = sz) (hsz : 0 < sz) (v : Value) (hs : a.eval s = v) (hown : Ow w lo e sz v 0 [])
    (vx : Value) (m : Nat) (ds : List Value) (hx : a.eval x = vx) (hr : Sl w sz vx m ds) (h1 : ∀ u ∈ ds, u.oneCell' = true)
    (hn : m ≤ 17592186044416) (hbytes : m * bytes ≤ 140737488355328) (hlo : lo ≤ w.heap.size) (hb9 : Below lo w9 w)
    (h : ∀ A c w', Ow w' lo e sz (.slice A m c) m ds → w.grownBy w' v.ownBlock → Below lo w9 w' → K (a.put o.dst (.slice A m c)) w') :
    if Region.wanted o (yielded ops a.tmps) = true then Oper.wp P o a w K Q else E :=
  step_cat w9 w hgd s x t ho lo e z sz bytes ht hinfo hzs hsz v 0 [] hs hown vx m ds hx hr h1 (by omega) (by rw [Nat.zero_add]; exact hbytes) hlo hb9 (fun A c w' h1 h2 h3 => by
    rw [Nat.zero_add] at h1 ⊢
    exact h A c w' h1 h2 h3)
theorem guest_one {ts : List Guest} : ∀ u ∈ ts.flatMap Guest.vals, u.oneCell' = true := by
  intro u hu
  obtain ⟨t, _, ht⟩ := List.mem_flatMap.1 hu
  simp [Guest.vals] at ht
  rcases ht with rfl | rfl <;> rfl
theorem sep_hor1 {w : World} {lo sz n : Nat} {e : TypeId} {u v v' : Value} {ds : List Value} (h : Ow w lo e sz u n ds) (hs : Sep u v) (hor : v'.ownBlock = v.ownBlock ∨ ∀ g, v'.ownBlock = some g → w.heap.size ≤ g) : Sep u v' := by
  rcases hs with hs | hs
  · exact .inl hs
  · rcases hor with hor | hor
    · exact .inr (by rw [hor]; exact hs)
    · cases hu : u.ownBlock with
      | none => exact .inl hu
      | some j =>
        refine .inr fun hq => ?_
        rw [hu] at hq
        have h1 := hor j hq.symm
        have h2 := (h.lt j hu).2
        omega

theorem drawRooms_any (g hi m : Nat) (w : World) (h : Src w g hi m) (hm : m ≤ 1000000) :
    Calls Try.prog 45 #[.pointer (some ⟨g, 0, none⟩)] w (ChoI (fun xs => 1 ≤ xs.length ∧ xs.length ≤ 4 ∧ ∀ x ∈ xs, 1 ≤ x ∧ x ≤ 2) g hi (m + 10) w) := by
  have hgw : g < w.heap.size := Nat.lt_of_lt_of_le h.gh h.hw
  have hhw := h.hw
  have hb0 := below_alloc w (.cells #[] 2)
  have HS0 := Lib.hid (h.ex hb0)
  have HO0 := Lib.hid (owI_empty w w.heap.size (Nat.le_refl _))
  have HG0 : Hid (Gr1 g w _) := Lib.hid (GrS.ofBelow (R := fun k => k = g) hb0)
  clear h hb0
  go_enter Try.func45, Try.ntmps45
  go_wp2_with fail
  refine (pick_pos g hi m 4 _ HS0.out (by omega) (by omega)).mono ?_
  rintro e w1 ⟨x, ⟨hx0, hx1⟩, rfl, hs1, hg1⟩
  obtain ⟨n, rfl⟩ := Int.eq_ofNat_of_zero_le hx0
  have HS1 := Lib.hid hs1; have HG1 := Lib.hid (HG0.out.trans hg1); have HO1 : Hid (OwI w1 w.heap.size (.slice (some ⟨w.heap.size, 0, none⟩) 0 0) []) := Lib.hid (Ow.gr1 HO0.out hg1 hgw)
  clear hs1 hg1 hx0
  go_wp2
  go_loopw [3, 4] (fun v3 v4 wr => ∃ (k ln c : Nat) (A : Option Addr) (xs : List Int), v3 = .slice A ln c ∧ v4 = .int .i64 k ∧ k + ln ≤ 4 ∧ 1 ≤ k + ln ∧ Hid (xs.length = ln) ∧ Hid (∀ x ∈ xs, 1 ≤ x ∧ x ≤ 2) ∧ Hid (OwI wr w.heap.size (.slice A ln c) xs) ∧ Hid (Src wr g hi (m + 2 + 2 * ln)) ∧ Hid (Gr1 g w wr)) (fun _ v4 _ => (intOf v4).toNat)
  case atStart => exact ⟨1 + n, 0, 0, _, [], rfl, by go_num, by omega, by omega, Lib.hid rfl, Lib.hid (by simp), HO1, HS1, HG1⟩
  case round =>
    obtain ⟨k, ln, c, A, xs, rfl, rfl, hk, hk1, HXL, HP, HO, HS, HG⟩ := hrel
    by_cases h0 : 0 < k
    · have hki : (0 : Int) < (k : Int) := by omega
      go_wp2_with fail
      refine (pick_pos g hi _ 2 _ HS.out (by omega) (by omega)).mono ?_
      rintro e w2 ⟨b, ⟨hb0, hb1⟩, rfl, hs2, hg2⟩
      have HS2 := Lib.hid hs2; have HG2 := Lib.hid (HG.out.trans hg2); have HO2 : Hid (OwI w2 w.heap.size (.slice A ln c) xs) := Lib.hid (Ow.gr1 HO.out hg2 hgw)
      have HSZ := Lib.hid (HG.out.trans hg2).size
      clear hs2 hg2
      go_wp2_with (first | (at_builtin; refine wpList_appI w2 rfl (.tmp 13) (.tmp 17) rfl w.heap.size w.heap.size w2 A ln c _ _ _ _ rfl HO2.out HXL.out rfl (Below.refl _ _) (Nat.le_refl _) HSZ.out (by omega) ?_; intro A3 c3 w3 hown3 hg3 hsz3 hb3; have HO3 := Lib.hid hown3; have HS3 := Lib.hid (HS2.out.bl hb3 hhw); have HG3 := Lib.hid (HG2.out.bl hb3 (Nat.le_refl _)); clear hown3 hg3 hsz3 hb3) | fail)
      go_roundw
      case rel => exact ⟨k - 1, ln + 1, c3, A3, _, rfl, dec_num h0, by omega, by omega, Lib.hid (by simp [HXL.out]), Lib.hid (mem_snoc HP.out (by omega)), HO3, Lib.hid (HS3.out.mono (by omega)), HG3⟩
      case measure => simp [intOf]; omega
    · obtain rfl : k = 0 := by omega
      go_wp2
      go_ret
      have hl := HXL.out
      subst hl
      exact ⟨A, c, xs, ⟨by omega, by omega, HP.out⟩, rfl, HO.out, HS.out.mono (by omega), HG.out⟩
end Go.Proofs.Ytedoibgclplnaaa
