/-
l12SafeMoves, IsSafe and SafeMoves of the reference. Condition: the slices read as lists.
-/
import Derived.Test.YtegabdhmfemgkaaPolR
namespace Go.Proofs.Ytegabdhmfemgkaa
open Go.RowKit
set_option linter.unusedVariables false

theorem infoU8 : (Try.prog.info? 5).map (fun i => (i.zero, i.size, i.bytes)) = some (some (.int .u8 0), 1, 1) := by kernel_rfl
theorem knOk_zero (halls : List Int) (ways : List (List Int)) (d : Int) : KnOk halls ways d (List.replicate 2401 (0 : Int)) :=
  ⟨List.length_replicate, fun t _ _ => .inl (by
    unfold kAt
    simp only [List.getD_eq_getElem?_getD, List.getElem?_replicate]
    split <;> rfl)⟩
theorem Ow.exB {w w' : World} {lo sz n B : Nat} {e : TypeId} {v : Value} {cs : List Value} (h : Ow w lo e sz v n cs) (hb : Below B w w') (hs : B ≤ w.heap.size) (hlt : ∀ k, v.ownBlock = some k → k < B) : Ow w' lo e sz v n cs :=
  h.off (GrS.ofBelowB hb hs) (fun g hg hr => by have := hlt g hg; omega)

set_option maxRecDepth 100000 in
set_option maxHeartbeats 4000000 in
theorem l12SafeMoves_any (v u : Value) (halls : List Int) (ways : List (List Int)) (w0 : World) (hv : SlI w0 v halls) (hu : SlII w0 u ways) (ht : travOk halls ways = true) (g c : Nat) (hlo : w0.heap.size ≤ g)
    (s : List Int) (hs : Good (lensW ways) s) (r : Value) (ks : List Int) (w : World) (hr : SlI w r s) (hoff : 0 < s.length → Off (fun k => k = g) r) (hb0 : Below w0.heap.size w0 w) (hkn : KnOk halls ways (s.sum + 1) ks)
    (hkr : Ow w w0.heap.size 5 1 (.slice (some ⟨g, 0, none⟩) 2401 c) 2401 (ks.map (Value.int .u8))) :
    Calls Try.prog 87 #[v, u, r, .slice (some ⟨g, 0, none⟩) 2401 c] w fun e w' => ∃ (A : Option Addr) (c' : Nat) (ks' : List Int), e = .returned (.slice A (safeMT halls ways s).length c') ∧ OwI w' w.heap.size (.slice A (safeMT halls ways s).length c') (safeMT halls ways s) ∧ KnOk halls ways (s.sum + 1) ks' ∧ Ow w' w0.heap.size 5 1 (.slice (some ⟨g, 0, none⟩) 2401 c) 2401 (ks'.map (Value.int .u8)) ∧ GrS (fun k => k = g) w w' := by
  obtain ⟨hsl, hsp⟩ := hs.at_
  obtain ⟨_, _, h4, hway⟩ := travOk_at ht
  have hp6 : ∀ k, k < ways.length → 0 ≤ plc s k ∧ plc s k ≤ 6 := fun k hk => by
    have h1 := hsp k hk
    have h2 := (wayOk_at (hway _ (List.getElem_mem hk))).1
    omega
  have hMO := fun (W : World) (h : SlI W r s) (hW : Below w0.heap.size w0 W) => l12Moves_any v u r halls ways s 4 W (hv.ex hW) (hu.ex hW) h hsl ht (fun k hk => (hp6 k hk).1)
  have hNE := fun (k : Nat) (hk : k < ways.length) (W : World) (h : SlI W r s) => l12Next_any r s k W h (by omega) (by omega) ⟨(hp6 k hk).1, by have := (hp6 k hk).2; omega⟩
  have HMO := Lib.hid hMO; have HNE := Lib.hid hNE
  have HR := Lib.hid hr; have HOFF := Lib.hid hoff
  have HB0 := Lib.hid hb0
  have HV := Lib.hid hv; have HU := Lib.hid hu; have HTR := Lib.hid ht
  have HYES := Lib.hid (fun k h => @safeMK_yes halls ways s k h)
  have HNO := Lib.hid (fun k h => @safeMK_no halls ways s k h)
  have HALL := Lib.hid (safeMK_all halls ways s)
  have HMM := Lib.hid (fun c => @mem_moves halls ways 4 s c)
  have HML := Lib.hid (movesK_len halls ways 4 s ways.length)
  have HNX : Hid (∀ k : Nat, (hk : k < ways.length) → (k : Int) ∈ movesL halls ways 4 s → Good (lensW ways) (nxS s k) ∧ (nxS s k).sum = s.sum + 1) := Lib.hid fun k hk hm => ⟨good_nx mvOk_moves hs hm, sum_nx mvOk_moves hs hm⟩
  have HSM := Lib.hid (hs.sum (lens5 ht) (lens4 ht)).1
  have HKN := Lib.hid hkn; have HK := Lib.hid hkr
  have hglt := (hkr.lt g rfl).2
  obtain ⟨R, gg, rfl, hlr, hrt⟩ := hr.op
  obtain ⟨A, d, rfl, hla, ha⟩ := hv.op
  obtain ⟨B, e, rfl, hlb, hat⟩ := hu.op
  clear hv hu ha hat hrt hr hoff hb0 hkn hkr hs hsp hsl hway hp6 hMO hNE ht
  go_enter Try.func87, Try.ntmps87
  go_wp2_with fail
  refine (HMO.out _ HR.out HB0.out).mono ?_
  rintro e1 w1 ⟨A1, c1, rfl, hown, hb1⟩
  have hbE := below_alloc w1 (.cells #[] 2)
  have HK1 := Lib.hid (HK.out.ex (below_next0 hb1 hbE))
  have HOW := Lib.hid (hown.ex hbE)
  have HEM := Lib.hid (owI_empty w1 w1.heap.size (Nat.le_refl _))
  have HOF : Hid (Off (fun k => k = g) (.slice A1 (movesL halls ways 4 s).length c1)) := Lib.hid (Off.new hown (fun k hk => by rw [hk]; exact hglt))
  have HLT1 : Hid (∀ k, (Value.slice A1 (movesL halls ways 4 s).length c1).ownBlock = some k → k < w1.heap.size) := Lib.hid (fun k hk => (hown.lt k hk).2)
  have HLT0 : Hid (∀ k, (Value.slice (some ⟨g, 0, none⟩) 2401 c).ownBlock = some k → k < w1.heap.size) := Lib.hid (fun k hk => by have := hb1.size; have h9 : g = k := (by simpa [Value.ownBlock] using hk); omega)
  have HG1 : Hid (GrS (fun k => k = g) w (w1.alloc (.cells #[] 2))) := Lib.hid (GrS.ofBelow (below_next0 hb1 hbE))
  have HSZ1 := Lib.hid hb1.size
  have hml : (movesL halls ways 4 s).length ≤ 4 := by have := HML.out; unfold movesL; omega
  clear hb1 hown hbE
  go_wp2
  go_loopw [10, 11] (fun ov i wr => ∃ (k n2 : Nat) (ks' : List Int) (A2 : Option Addr) (c2 : Nat), k ≤ (movesL halls ways 4 s).length ∧ i = .int .i64 k ∧ ov = .slice A2 n2 c2 ∧ n2 ≤ k ∧ Hid ((safeMK halls ways s k).length = n2) ∧ Hid (OwI wr w1.heap.size (.slice A2 n2 c2) (safeMK halls ways s k)) ∧ Hid (Ow wr w0.heap.size 5 1 (.slice (some ⟨g, 0, none⟩) 2401 c) 2401 (ks'.map (Value.int .u8))) ∧ Hid (KnOk halls ways (s.sum + 1) ks') ∧ Hid (OwI wr w.heap.size (.slice A1 (movesL halls ways 4 s).length c1) (movesL halls ways 4 s)) ∧ Hid (GrS (fun k => k = g) w wr) ∧ Hid (w1.heap.size ≤ wr.heap.size)) (fun _ i _ => (movesL halls ways 4 s).length - (intOf i).toNat)
  case atStart => exact ⟨0, 0, ks, _, 0, Nat.zero_le _, rfl, rfl, Nat.le_refl _, Lib.hid (by simp [safeMK, safeMvK]), by simpa [safeMK, safeMvK] using HEM, HK1, HKN, HOW, HG1, Lib.hid (by simp)⟩
  case round =>
    obtain ⟨k, n2, ks', A2, c2, hk, rfl, rfl, hn2, HL2, HOO, HKR, HKO, HOR, HGR, HSZ⟩ := hrel
    have HRR : Hid (SlI wr (.slice R s.length gg) s) := Lib.hid (Sl.off HR.out HGR.out (by rw [List.length_map]; exact HOFF.out))
    have HBR := Lib.hid (HB0.out.trans (HGR.out.below (fun j _ hj => by rw [hj]; exact hlo) HB0.out.size))
    by_cases hlt : k < (movesL halls ways 4 s).length
    · have hki : (k : Int) < ((movesL halls ways 4 s).length : Int) := by omega
      have hmem := List.getElem_mem hlt
      obtain ⟨cn, hcn, hck, _⟩ := (HMM.out _).1 hmem
      obtain ⟨hgn, hsm⟩ := HNX.out cn hcn (by rw [← hck]; exact hmem)
      have HGN := Lib.hid hgn
      have HYE := Lib.hid (HYES.out k hlt); have HNE2 := Lib.hid (HNO.out k hlt)
      have hsm0 := HSM.out
      have HCELL : Hid (∀ W, OwI W w.heap.size (.slice A1 (movesL halls ways 4 s).length c1) (movesL halls ways 4 s) → ∃ g1, A1 = some ⟨g1, 0, none⟩ ∧ W.cell? ⟨g1, k, none⟩ = some (.int .i64 cn)) := Lib.hid (fun W h => by
        rcases Ow.form h with ⟨_, h0, _⟩ | ⟨g1, c4, hA2, _, hlt1, _⟩
        · omega
        injection hA2 with hA2 hn9 hc9
        subst hA2 hc9
        have h9 := OwI.cell h hlt
        rw [hck] at h9
        exact ⟨g1, rfl, h9⟩)
      rw [hck] at HYE HNE2
      obtain ⟨g1, rfl, hcell1⟩ := HCELL.out wr HOR.out
      clear hck hmem hgn
      go_wp2_with fail
      refine (HNE.out cn hcn _ HRR.out).mono ?_
      rintro e5 w5 ⟨A5, c5, rfl, hown5, hb5⟩
      have HO5 := Lib.hid (OwI.ex HOR.out hb5)
      have HOO5 := Lib.hid (OwI.ex HOO.out hb5)
      have HK5 := Lib.hid (HKR.out.ex hb5)
      have HG5 := Lib.hid (HGR.out.trans (GrS.ofBelow hb5))
      have HB5 := Lib.hid (below_next HBR.out HBR.out.size hb5)
      have HSZ5 := Lib.hid (Nat.le_trans HSZ.out hb5.size)
      have HOF5 : Hid (Off (fun k => k = g) (.slice A5 s.length c5)) := Lib.hid (by
        have h9 := hown5
        exact Off.new h9 (fun k hk => by rw [hk]; exact (HKR.out.lt g rfl).2))
      have HR5 : Hid (SlI w5 (.slice A5 s.length c5) (nxS s cn)) := Lib.hid hown5.sl
      have HKO5 : Hid (KnOk halls ways (nxS s (cn : Int)).sum ks') := Lib.hid (by rw [hsm]; exact HKO.out)
      clear hown5 hb5
      go_wp2_with fail
      refine (l12Safe_any _ _ halls ways w0 HV.out HU.out HTR.out g c hlo 25 (nxS s cn) HGN.out (by omega) (.slice A5 s.length c5) ks' w5 HR5.out (fun _ => HOF5.out) HB5.out HKO5.out HK5.out).mono ?_
      rintro e6 w6 ⟨ks6, rfl, ⟨hko6, hag6⟩, hkr6, hg6⟩
      have HKO6 : Hid (KnOk halls ways (s.sum + 1) ks6) := Lib.hid (by rw [← hsm]; exact hko6)
      have HKR6 := Lib.hid hkr6
      have HO6 := Lib.hid (Ow.off HO5.out hg6 HOF.out)
      have HOF2 : Hid (Off (fun k => k = g) (.slice A2 n2 c2)) := Lib.hid (Off.new HOO5.out (fun k hk => by rw [hk]; exact HLT0.out g rfl))
      have HOO6 := Lib.hid (Ow.off HOO5.out hg6 HOF2.out)
      have HG6 := Lib.hid (HG5.out.trans hg6)
      have HSZ6 := Lib.hid (Nat.le_trans HSZ5.out hg6.size)
      obtain ⟨g2, hgg, hcell6⟩ := HCELL.out w6 HO6.out
      injection hgg with hgg
      injection hgg with hgg _ _
      subst hgg
      clear hko6 hag6 hkr6 hg6 hcell1
      cases hq : safeT halls ways (nxS s (cn : Int)) with
      | false =>
        have HE := Lib.hid (HNE2.out hq)
        have HLL : Hid ((safeMK halls ways s (k + 1)).length = n2) := Lib.hid (by rw [HE.out]; exact HL2.out)
        have HO8 : Hid (OwI w6 w1.heap.size (.slice A2 n2 c2) (safeMK halls ways s (k + 1))) := Lib.hid (by have h9 := HOO6.out; rw [HE.out]; exact h9)
        clear hq
        go_wp2
        go_roundw
        case rel => exact ⟨k + 1, n2, ks6, A2, c2, by omega, by go_num, rfl, by omega, HLL, HO8, HKR6, HKO6, HO6, HG6, HSZ6⟩
        case measure => simp [intOf]; omega
      | true =>
        have HE := Lib.hid (HYE.out hq)
        have hn2b : n2 ≤ 4 := by omega
        clear hq
        go_wp2_with (first | (at_builtin; refine wpList_appI w6 rfl (.tmp 33) (.tmp 38) rfl w1.heap.size w1.heap.size w6 A2 n2 c2 _ _ _ _ rfl HOO6.out HL2.out rfl (Below.refl _ _) (Nat.le_refl _) HSZ6.out (by omega) ?_; intro A3 c3 w7 hown3 hg3 hsz3 hb3; rw [← HE.out] at hown3; have HO8 := Lib.hid hown3; have HB8 := Lib.hid hb3; clear hown3 hg3 hsz3 hb3) | fail)
        have HK8 := Lib.hid (HKR6.out.exB HB8.out HSZ6.out HLT0.out)
        have HD8 : Hid (OwI w7 w.heap.size (.slice (some ⟨g1, 0, none⟩) (movesL halls ways 4 s).length c1) (movesL halls ways 4 s)) := Lib.hid (Ow.exB HO6.out HB8.out HSZ6.out HLT1.out)
        have HG8 : Hid (GrS (fun k => k = g) w w7) := Lib.hid (HG6.out.transNew (GrS.ofBelowB HB8.out HSZ6.out) (fun i hi hr => by have := HSZ1.out; omega))
        have HSZ8 := Lib.hid (Nat.le_trans HSZ6.out HB8.out.size)
        go_roundw
        case rel => exact ⟨k + 1, n2 + 1, ks6, A3, c3, by omega, by go_num, rfl, by omega, Lib.hid (by rw [HE.out]; simp [HL2.out]), HO8, HK8, HKO6, HD8, HG8, HSZ8⟩
        case measure => simp [intOf]; omega
    · have hkn : k = (movesL halls ways 4 s).length := by omega
      have HR9 : Hid (n2 = (safeMT halls ways s).length) := Lib.hid (by rw [← HALL.out, ← hkn, HL2.out])
      have HO9 : Hid (OwI wr w.heap.size (.slice A2 n2 c2) (safeMT halls ways s)) := Lib.hid (by rw [← HALL.out, ← hkn]; exact HOO.out.mono HSZ1.out)
      clear hkn
      go_wp2
      go_ret
      rw [← HR9.out]
      exact ⟨A2, c2, ks', rfl, HO9.out, HKO.out, HKR.out, HGR.out⟩

set_option maxRecDepth 100000 in
set_option maxHeartbeats 2000000 in
theorem specIsSafe_any (v u r : Value) (halls : List Int) (ways : List (List Int)) (pl : List Int) (w : World) (hv : SlI w v halls) (hu : SlII w u ways) (hr : SlI w r pl) :
    Calls Try.prog 51 #[v, u, r] w fun e w' => e = .returned (.tuple #[.bool (safeR halls ways pl).1, .int .i64 (safeR halls ways pl).2]) ∧ Below w.heap.size w w' := by
  have HV := Lib.hid hv; have HU := Lib.hid hu; have HR := Lib.hid hr
  clear hv hu hr
  have HC : Hid (codePl halls ways pl = if travOk halls ways = true then (if plOk halls ways pl = true then 0 else 2) else 1) := Lib.hid rfl
  have HN : Hid (safeR halls ways pl = if travOk halls ways = true then (if plOk halls ways pl = true then (safeT halls ways pl, 0) else (false, 2)) else (false, 1)) := Lib.hid rfl
  go_enter Try.func51, Try.ntmps51
  go_wp2_with fail
  refine (l12Code_any _ _ _ halls ways pl _ HV.out HU.out HR.out).mono ?_
  rintro e w1 ⟨rfl, hb1⟩
  have HB1 := Lib.hid hb1
  clear hb1
  cases ht : travOk halls ways with
  | false =>
    have HN2 : Hid (safeR halls ways pl = (false, 1)) := Lib.hid (by rw [HN.out, ht]; rfl)
    rw [show codePl halls ways pl = 1 by rw [HC.out, ht]; rfl]
    clear ht
    go_wp2
    go_ret2
    rw [HN2.out]
    exact ⟨rfl, HB1.out⟩
  | true =>
    cases hp : plOk halls ways pl with
    | false =>
      have HN2 : Hid (safeR halls ways pl = (false, 2)) := Lib.hid (by rw [HN.out, ht, hp]; rfl)
      rw [show codePl halls ways pl = 2 by rw [HC.out, ht, hp]; rfl]
      clear ht hp
      go_wp2
      go_ret2
      rw [HN2.out]
      exact ⟨rfl, HB1.out⟩
    | true =>
      obtain ⟨hlen, hp0⟩ := plOk_at ht hp
      have HN2 : Hid (safeR halls ways pl = (safeT halls ways pl, 0)) := Lib.hid (by rw [HN.out, ht, hp]; rfl)
      have HC2 : Hid (codePl halls ways pl = 0) := Lib.hid (by rw [HC.out, ht, hp]; rfl)
      have HGD := Lib.hid (plOk_good hp)
      have HTR := Lib.hid ht
      have HOFF : Hid (∀ g : Nat, w.heap.size ≤ g → 0 < pl.length → Off (fun k => k = g) r) := Lib.hid (fun g hg h0 => by
        have h9 := Sl.offOld (R := fun k => k = g) HR.out (fun k hk => by rw [hk]; exact hg)
        exact h9 (by simpa using h0))
      clear ht hp hp0
      rw [HC2.out]
      go_wp2_with (first | (at_make; refine wpList_make1 w1 rfl (.const (.int .i64 2401)) (.const (.int .i64 2401)) _ rfl w.heap.size 5 (.int .u8 0) 1 Try.underlying29 infoU8 rfl .i64 .i64 2401 rfl rfl (by omega) (by omega) HB1.out.size ?_; intro w2 hown hb hsz) | fail)
      have HB2 := Lib.hid (below_next0 HB1.out hb)
      have HK2 : Hid (Ow w2 w.heap.size 5 1 (.slice (some ⟨w1.heap.size, 0, none⟩) 2401 2401) 2401 ((List.replicate 2401 (0 : Int)).map (Value.int .u8))) := Lib.hid (by rw [List.map_replicate]; exact hown)
      have HLO := Lib.hid HB1.out.size
      clear hown hb hsz hlen
      have HM := Lib.hid (l12Safe_any _ _ halls ways w HV.out HU.out HTR.out w1.heap.size 2401 HLO.out 25 pl HGD.out (by have := (HGD.out.sum (lens5 HTR.out) (lens4 HTR.out)).1; omega) _ _ w2 (HR.out.ex HB2.out) (HOFF.out _ HLO.out) HB2.out (knOk_zero halls ways _) HK2.out)
      go_wp2_with fail
      refine HM.out.mono ?_
      rintro e w3 ⟨ks3, rfl, -, -, hg3⟩
      have HB3 : Hid (Below w.heap.size w w3) := Lib.hid (HB2.out.trans (hg3.below (fun j _ hj => by rw [hj]; exact HLO.out) HB2.out.size))
      clear hg3
      go_wp2
      go_ret2
      rw [HN2.out]
      exact ⟨rfl, HB3.out⟩

set_option maxRecDepth 100000 in
set_option maxHeartbeats 2000000 in
theorem specSafeMoves_any (v u r : Value) (halls : List Int) (ways : List (List Int)) (pl : List Int) (w : World) (hv : SlI w v halls) (hu : SlII w u ways) (hr : SlI w r pl) :
    Calls Try.prog 52 #[v, u, r] w fun e w' => ∃ A c, e = .returned (.tuple #[.slice A (safeMR halls ways pl).1.length c, .int .i64 (safeMR halls ways pl).2]) ∧ OwI w' w.heap.size (.slice A (safeMR halls ways pl).1.length c) (safeMR halls ways pl).1 ∧ Below w.heap.size w w' := by
  have HV := Lib.hid hv; have HU := Lib.hid hu; have HR := Lib.hid hr
  clear hv hu hr
  have HC : Hid (codePl halls ways pl = if travOk halls ways = true then (if plOk halls ways pl = true then 0 else 2) else 1) := Lib.hid rfl
  have HN : Hid (safeMR halls ways pl = if travOk halls ways = true then (if plOk halls ways pl = true then (safeMT halls ways pl, 0) else ([], 2)) else ([], 1)) := Lib.hid rfl
  have HNIL : Hid (∀ W : World, OwI W w.heap.size (.slice none 0 0) []) := Lib.hid fun W => ⟨World.ownsRow_nil _ _ _ _, by simp⟩
  go_enter Try.func52, Try.ntmps52
  go_wp2_with fail
  refine (l12Code_any _ _ _ halls ways pl _ HV.out HU.out HR.out).mono ?_
  rintro e w1 ⟨rfl, hb1⟩
  have HB1 := Lib.hid hb1
  clear hb1
  cases ht : travOk halls ways with
  | false =>
    have HN2 : Hid (safeMR halls ways pl = ([], 1)) := Lib.hid (by rw [HN.out, ht]; rfl)
    rw [show codePl halls ways pl = 1 by rw [HC.out, ht]; rfl]
    clear ht
    go_wp2
    go_ret2
    rw [HN2.out]
    exact ⟨none, 0, rfl, HNIL.out _, HB1.out⟩
  | true =>
    cases hp : plOk halls ways pl with
    | false =>
      have HN2 : Hid (safeMR halls ways pl = ([], 2)) := Lib.hid (by rw [HN.out, ht, hp]; rfl)
      rw [show codePl halls ways pl = 2 by rw [HC.out, ht, hp]; rfl]
      clear ht hp
      go_wp2
      go_ret2
      rw [HN2.out]
      exact ⟨none, 0, rfl, HNIL.out _, HB1.out⟩
    | true =>
      obtain ⟨hlen, hp0⟩ := plOk_at ht hp
      have HN2 : Hid (safeMR halls ways pl = (safeMT halls ways pl, 0)) := Lib.hid (by rw [HN.out, ht, hp]; rfl)
      have HC2 : Hid (codePl halls ways pl = 0) := Lib.hid (by rw [HC.out, ht, hp]; rfl)
      have HGD := Lib.hid (plOk_good hp)
      have HTR := Lib.hid ht
      have HOFF : Hid (∀ g : Nat, w.heap.size ≤ g → 0 < pl.length → Off (fun k => k = g) r) := Lib.hid (fun g hg h0 => by
        have h9 := Sl.offOld (R := fun k => k = g) HR.out (fun k hk => by rw [hk]; exact hg)
        exact h9 (by simpa using h0))
      clear ht hp hp0
      rw [HC2.out]
      go_wp2_with (first | (at_make; refine wpList_make1 w1 rfl (.const (.int .i64 2401)) (.const (.int .i64 2401)) _ rfl w.heap.size 5 (.int .u8 0) 1 Try.underlying29 infoU8 rfl .i64 .i64 2401 rfl rfl (by omega) (by omega) HB1.out.size ?_; intro w2 hown hb hsz) | fail)
      have HB2 := Lib.hid (below_next0 HB1.out hb)
      have HK2 : Hid (Ow w2 w.heap.size 5 1 (.slice (some ⟨w1.heap.size, 0, none⟩) 2401 2401) 2401 ((List.replicate 2401 (0 : Int)).map (Value.int .u8))) := Lib.hid (by rw [List.map_replicate]; exact hown)
      have HLO := Lib.hid HB1.out.size
      clear hown hb hsz hlen
      have HM := Lib.hid (l12SafeMoves_any _ _ halls ways w HV.out HU.out HTR.out w1.heap.size 2401 HLO.out pl HGD.out _ _ w2 (HR.out.ex HB2.out) (HOFF.out _ HLO.out) HB2.out (knOk_zero halls ways _) HK2.out)
      go_wp2_with fail
      refine HM.out.mono ?_
      rintro e w3 ⟨A3, c3, ks3, rfl, hown, -, -, hg3⟩
      have HB3 : Hid (Below w.heap.size w w3) := Lib.hid (HB2.out.trans (hg3.below (fun j _ hj => by rw [hj]; exact HLO.out) HB2.out.size))
      have HO3 : Hid (OwI w3 w.heap.size (.slice A3 (safeMT halls ways pl).length c3) (safeMT halls ways pl)) := Lib.hid (hown.mono HB2.out.size)
      clear hg3 hown
      go_wp2
      go_ret2
      rw [HN2.out]
      exact ⟨A3, c3, rfl, HO3.out, HB3.out⟩

end Go.Proofs.Ytegabdhmfemgkaa
