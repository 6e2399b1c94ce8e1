/-
l12Safe of the reference: a state is safe, by what is known and what is found. Condition: the slices read as lists; valid halls and ways; a good state; what is known is right.
-/
import Derived.Test.YtegabdhmfemgkaaPolQ
namespace Go.Proofs.Ytegabdhmfemgkaa
open Go.RowKit
set_option linter.unusedVariables false

/-- what is known of a state -/
def kAt (ks : List Int) (t : List Int) : Int := ks.getD (numS t).toNat 0
/-- what is known of states from a sum on is right -/
structure KnOk (halls : List Int) (ways : List (List Int)) (d : Int) (ks : List Int) : Prop where
  len : ks.length = 2401
  ok : ∀ t, Good (lensW ways) t → d ≤ t.sum → kAt ks t = 0 ∨ (kAt ks t = 1 ∧ safeT halls ways t = true) ∨ (kAt ks t = 2 ∧ safeT halls ways t = false)
def Agree (ways : List (List Int)) (d : Int) (ks ks' : List Int) : Prop := ∀ t, Good (lensW ways) t → t.sum < d → kAt ks' t = kAt ks t
section
variable {halls : List Int} {ways : List (List Int)} {ks ks' : List Int} {s : List Int} {d d' : Int}
theorem KnOk.up (h : KnOk halls ways d ks) (hd : d ≤ d') : KnOk halls ways d' ks := ⟨h.len, fun t ht h1 => h.ok t ht (by omega)⟩
theorem kAt_set (ht : travOk halls ways = true) (hl : ks.length = 2401) (hs : Good (lensW ways) s) {t : List Int} (h : Good (lensW ways) t) (x : Int) : kAt (ks.set (numS s).toNat x) t = if t = s then x else kAt ks t := by
  have n1 := hs.num (lens5 ht) (lens4 ht); have n2 := h.num (lens5 ht) (lens4 ht)
  unfold kAt
  by_cases e : t = s
  · subst e
    rw [if_pos rfl]
    simp [List.getD_eq_getElem?_getD, show (numS t).toNat < ks.length by omega]
  · rw [if_neg e]
    have hne : (numS s).toNat ≠ (numS t).toNat := fun he => e (h.num_inj hs (lens5 ht) (by omega))
    simp only [List.getD_eq_getElem?_getD]
    rw [List.getElem?_set_ne hne]
theorem kAt_get (ht : travOk halls ways = true) (hs : Good (lensW ways) s) (hl : ks.length = 2401) : ks[(numS s).toNat]'(by have := hs.num (lens5 ht) (lens4 ht); omega) = kAt ks s := by
  have n1 := hs.num (lens5 ht) (lens4 ht)
  unfold kAt
  simp [List.getD_eq_getElem?_getD, show (numS s).toNat < ks.length by omega]
/-- marked as under way -/
theorem KnOk.mark (ht : travOk halls ways = true) (hs : Good (lensW ways) s) (h : KnOk halls ways s.sum ks) : KnOk halls ways (s.sum + 1) (ks.set (numS s).toNat 2) :=
  ⟨by rw [List.length_set]; exact h.len, fun t ht2 h1 => by
    rw [kAt_set ht h.len hs ht2, if_neg (by rintro rfl; omega)]
    exact h.ok t ht2 (by omega)⟩
/-- at the end, the state's own word told -/
theorem KnOk.fin (ht : travOk halls ways = true) (hs : Good (lensW ways) s) (h : KnOk halls ways s.sum ks) (hl : ks'.length = 2401) (h2 : KnOk halls ways (s.sum + 1) ks') (ha : Agree ways (s.sum + 1) (ks.set (numS s).toNat 2) ks') (x : Int)
    (hx : (x = 1 ∧ safeT halls ways s = true) ∨ (x = 2 ∧ safeT halls ways s = false)) : KnOk halls ways s.sum (ks'.set (numS s).toNat x) ∧ Agree ways s.sum ks (ks'.set (numS s).toNat x) := by
  refine ⟨⟨by rw [List.length_set]; exact hl, fun t ht2 h1 => ?_⟩, fun t ht2 h1 => ?_⟩
  · rw [kAt_set ht hl hs ht2]
    by_cases e : t = s
    · subst e; rw [if_pos rfl]; exact .inr hx
    · rw [if_neg e]
      rcases Int.lt_or_le t.sum (s.sum + 1) with h3 | h3
      · rw [ha t ht2 h3, kAt_set ht h.len hs ht2, if_neg e]
        exact h.ok t ht2 h1
      · exact h2.ok t ht2 h3
  · rw [kAt_set ht hl hs ht2, if_neg (by rintro rfl; omega), ha t ht2 (by omega), kAt_set ht h.len hs ht2, if_neg (by rintro rfl; omega)]
theorem kAt_two (ht : travOk halls ways = true) (hs : Good (lensW ways) s) (hl : ks.length = 2401) (ha : Agree ways (s.sum + 1) (ks.set (numS s).toNat 2) ks') : kAt ks' s = 2 := by
  rw [ha s hs (by omega), kAt_set ht hl hs hs, if_pos rfl]
theorem set_self {l : List Int} {i : Nat} (hi : i < l.length) (x : Int) (h : l[i] = x) : l.set i x = l := by
  apply List.ext_getElem (by simp)
  intro j h1 h2
  rw [List.getElem_set]
  split
  · rename_i e; subst e; exact h.symm
  · rfl
end

set_option maxRecDepth 100000 in
set_option maxHeartbeats 4000000 in
theorem l12Safe_any (v u : Value) (halls : List Int) (ways : List (List Int)) (w0 : World) (hv : SlI w0 v halls) (hu : SlII w0 u ways) (ht : travOk halls ways = true) (g c : Nat) (hlo : w0.heap.size ≤ g) :
    ∀ (m : Nat) (s : List Int), Good (lensW ways) s → 25 ≤ s.sum + m → ∀ (r : Value) (ks : List Int) (w : World), SlI w r s → (0 < s.length → Off (fun k => k = g) r) → Below w0.heap.size w0 w → KnOk halls ways s.sum ks →
    Ow w w0.heap.size 5 1 (.slice (some ⟨g, 0, none⟩) 2401 c) 2401 (ks.map (Value.int .u8)) →
    Calls Try.prog 89 #[v, u, r, .slice (some ⟨g, 0, none⟩) 2401 c] w fun e w' => ∃ ks' : List Int, e = .returned (.bool (safeT halls ways s)) ∧ (KnOk halls ways s.sum ks' ∧ Agree ways s.sum ks ks') ∧ Ow w' w0.heap.size 5 1 (.slice (some ⟨g, 0, none⟩) 2401 c) 2401 (ks'.map (Value.int .u8)) ∧ GrS (fun k => k = g) w w'
  | 0, s, hs, hm, _, _, _, _, _, _, _, _ => by
    have := hs.sum (lens5 ht) (lens4 ht)
    omega
  | m + 1, s, hs, hm, r, ks, w, hr, hoff, hb0, hkn, hkr => by
    have IH := Lib.hid (l12Safe_any v u halls ways w0 hv hu ht g c hlo m)
    obtain ⟨hsl, hsp⟩ := hs.at_
    obtain ⟨_, _, h4, hway⟩ := travOk_at ht
    have hnum := hs.num (lens5 ht) (lens4 ht)
    obtain ⟨N, hN⟩ := Int.eq_ofNat_of_zero_le hnum.1
    have hNl : N < 2401 := by omega
    have hNt : (numS s).toNat = N := by omega
    have hp6 : ∀ k, k < ways.length → 0 ≤ plc s k ∧ plc s k ≤ 6 := fun k hk => by
      have h1 := hsp k hk
      have h2 := (wayOk_at (hway _ (List.getElem_mem hk))).1
      omega
    have hNU := fun (W : World) (h : SlI W r s) => l12Number_any r s W h (fun k hk => hp6 k (by omega)) (by omega)
    have hDO := fun (W : World) (h : SlI W r s) (hW : Below w0.heap.size w0 W) => l12Done_any u r ways s W (hu.ex hW) h hsl
    have hMO := fun (W : World) (h : SlI W r s) (hW : Below w0.heap.size w0 W) => l12Moves_any v u r halls ways s 4 W (hv.ex hW) (hu.ex hW) h hsl ht (fun k hk => (hp6 k hk).1)
    have hNE := fun (k : Nat) (hk : k < ways.length) (W : World) (h : SlI W r s) => l12Next_any r s k W h (by omega) (by omega) ⟨(hp6 k hk).1, by have := (hp6 k hk).2; omega⟩
    rw [hN] at hNU
    have HNU := Lib.hid hNU; have HDO := Lib.hid hDO; have HMO := Lib.hid hMO; have HNE := Lib.hid hNE
    have HR := Lib.hid hr; have HOFF := Lib.hid hoff
    have HB0 := Lib.hid hb0
    have HALL := Lib.hid (anyK_all ht hs)
    have HYES := Lib.hid (fun k h => @anyK_yes halls ways ht s hs k h)
    have HSUC := Lib.hid (fun k h => @anyK_succ halls ways s k h)
    have HMM := Lib.hid (fun c => @mem_moves halls ways 4 s c)
    have HML := Lib.hid (movesK_len halls ways 4 s ways.length)
    have HNX : Hid (∀ k : Nat, (hk : k < ways.length) → (k : Int) ∈ movesL halls ways 4 s → Good (lensW ways) (nxS s k) ∧ (nxS s k).sum = s.sum + 1) := Lib.hid fun k hk hm => ⟨good_nx mvOk_moves hs hm, sum_nx mvOk_moves hs hm⟩
    have HNL : Hid (∀ k : Nat, (nxS s (k : Int)).length = s.length) := Lib.hid fun k => by simp [nxS]
    have HM5 := Lib.hid hm
    have HMK := Lib.hid (KnOk.mark ht hs hkn)
    have HFIN := Lib.hid (fun ks' hl h2 ha x hx => @KnOk.fin halls ways ks ks' s ht hs hkn hl h2 ha x hx)
    have HTWO' := fun ks' => @kAt_two halls ways ks ks' s ht hs hkn.len
    have HTWO : Hid (∀ ks' : List Int, (hl : ks'.length = 2401) → Agree ways (s.sum + 1) (ks.set (numS s).toNat 2) ks' → ks'[N]'(by rw [hl]; exact hNl) = 2) := Lib.hid fun ks' hl ha => by
      have h1 := kAt_get ht hs hl
      rw [HTWO' ks' ha] at h1
      simpa [hNt] using h1
    have HFI2 : Hid (∀ ks' : List Int, (hl : ks'.length = 2401) → KnOk halls ways (s.sum + 1) ks' → Agree ways (s.sum + 1) (ks.set (numS s).toNat 2) ks' → safeT halls ways s = false → KnOk halls ways s.sum ks' ∧ Agree ways s.sum ks ks') := Lib.hid fun ks' hl h2 ha hf => by
      have h1 := HFIN.out ks' hl h2 ha 2 (.inr ⟨rfl, hf⟩)
      rwa [hNt, set_self (by omega) 2 (HTWO.out ks' hl ha)] at h1
    have HKN := Lib.hid hkn
    have hls := hkn.len
    have hkx := hkn.ok s hs (Int.le_refl _)
    have hg0 := kAt_get ht hs hls
    simp only [hNt] at hg0 HMK HFIN HTWO HFI2
    have hcell := Ow.cell hkr (k := N) (by rw [List.length_map]; omega)
    rw [List.getElem_map, hg0] at hcell
    have hfz := Ow.free hkr N
    have HK := Lib.hid hkr
    have hglt := (hkr.lt g rfl).2
    have HLN := Lib.hid hls
    have hNi : (N : Int) < 2401 := by omega
    obtain ⟨R, gg, rfl, hlr, hrt⟩ := hr.op
    obtain ⟨A, d, rfl, hla, ha⟩ := hv.op
    obtain ⟨B, e, rfl, hlb, hat⟩ := hu.op
    generalize hkv : kAt ks s = kx at hcell hkx
    clear hv hu ha hat hrt hr hoff hb0 hkn hkr hs hsp hsl hway hp6 hNU hDO hMO hNE hm ht hnum hN hNt hls hg0 HTWO'
    rcases hkx with rfl | ⟨rfl, hsf⟩ | ⟨rfl, hsf⟩
    · have HK1 := Lib.hid (Ow.set HK.out N (.int .u8 2))
      rw [show ((ks.map (Value.int .u8)).set N (.int .u8 2)) = (ks.set N 2).map (Value.int .u8) by rw [List.map_set]] at HK1
      have HG1 : Hid (GrS (fun k => k = g) w (w.setCell ⟨g, N, none⟩ (.int .u8 2))) := Lib.hid (GrS.set (R := fun k => k = g) (p := ⟨g, N, none⟩) rfl _)
      have HR1 : Hid (SlI (w.setCell ⟨g, N, none⟩ (.int .u8 2)) (.slice R s.length gg) s) := Lib.hid (Sl.off HR.out HG1.out (by rw [List.length_map]; exact HOFF.out))
      have HB1 : Hid (Below w0.heap.size w0 (w.setCell ⟨g, N, none⟩ (.int .u8 2))) := Lib.hid (HB0.out.setCell (p := ⟨g, N, none⟩) hlo _)
      have HD1 := Lib.hid (HDO.out _ HR1.out HB1.out)
      go_enter Try.func89, Try.ntmps89
      go_wp2_with fail
      refine (HNU.out _ HR.out).mono ?_
      rintro e1 w1 ⟨rfl, rfl⟩
      go_wp2_with fail
      refine HD1.out.mono ?_
      rintro e2 w2 ⟨rfl, hb2⟩
      have HG2 := Lib.hid (HG1.out.trans (GrS.ofBelow hb2))
      have HR2 := Lib.hid (HR1.out.ex hb2)
      have HK2 := Lib.hid (HK1.out.ex hb2)
      have HB2 := Lib.hid (below_next HB1.out HB1.out.size hb2)
      clear hb2
      go_wp2_with fail
      refine (HMO.out _ HR2.out HB2.out).mono ?_
      rintro e3 w3 ⟨A1, c1, rfl, hown, hb3⟩
      have HG3 := Lib.hid (HG2.out.trans (GrS.ofBelow hb3))
      have HK3 := Lib.hid (HK2.out.ex hb3)
      have HOF : Hid (Off (fun k => k = g) (.slice A1 (movesL halls ways 4 s).length c1)) := Lib.hid (Off.new hown (fun k hk => by rw [hk]; exact (HK2.out.lt g rfl).2))
      have HOW := Lib.hid hown
      have hml : (movesL halls ways 4 s).length ≤ 4 := by have := HML.out; unfold movesL; omega
      clear hb3 hown
      go_wp2
      go_loopw [10, 12] (fun ov i wr => ∃ (k : Nat) (ks' : List Int), k ≤ (movesL halls ways 4 s).length ∧ i = .int .i64 k ∧ ov = .bool (anyK halls ways s k) ∧ Hid (ks'.length = 2401) ∧ Hid (Ow wr w0.heap.size 5 1 (.slice (some ⟨g, 0, none⟩) 2401 c) 2401 (ks'.map (Value.int .u8))) ∧ Hid (KnOk halls ways (s.sum + 1) ks') ∧ Hid (Agree ways (s.sum + 1) (ks.set N 2) ks') ∧ Hid (OwI wr w2.heap.size (.slice A1 (movesL halls ways 4 s).length c1) (movesL halls ways 4 s)) ∧ Hid (GrS (fun k => k = g) w wr)) (fun _ i _ => (movesL halls ways 4 s).length - (intOf i).toNat)
      case atStart => exact ⟨0, ks.set N 2, Nat.zero_le _, rfl, by simp [anyK], Lib.hid (by rw [List.length_set]; exact HLN.out), HK3, HMK, Lib.hid (fun _ _ _ => rfl), HOW, HG3⟩
      case round =>
        obtain ⟨k, ks', hk, rfl, rfl, HLR, HKR, HKO, HAG, HOR, HGR⟩ := hrel
        have HRR : Hid (SlI wr (.slice R s.length gg) s) := Lib.hid (Sl.off HR.out HGR.out (by rw [List.length_map]; exact HOFF.out))
        have HBR := Lib.hid (HB0.out.trans (HGR.out.below (fun j _ hj => by rw [hj]; exact hlo) HB0.out.size))
        by_cases hlt : k < (movesL halls ways 4 s).length
        · have hki : (k : Int) < ((movesL halls ways 4 s).length : Int) := by omega
          have HSU := Lib.hid (HSUC.out k hlt)
          have hmem := List.getElem_mem hlt
          obtain ⟨cn, hcn, hck, _⟩ := (HMM.out _).1 hmem
          obtain ⟨hgn, hsm⟩ := HNX.out cn hcn (by rw [← hck]; exact hmem)
          have HGN := Lib.hid hgn
          rcases Ow.form HOR.out with ⟨_, h0, _⟩ | ⟨g1, c4, hA2, _, hlt1, _⟩
          · omega
          injection hA2 with hA2 hn9 hc9
          clear hn9
          subst hA2 hc9
          have hcell1 := OwI.cell HOR.out hlt
          rw [hck] at hcell1 HSU
          have HYE := Lib.hid (HYES.out k)
          have hcc := HM5.out
          clear hck hmem hgn hlt1
          generalize anyK halls ways s k = q at HSU HYE
          cases q with
          | true =>
            have HT := Lib.hid (HYE.out rfl)
            have hcx := Ow.cell HKR.out (k := N) (by rw [List.length_map, HLR.out]; omega)
            rw [List.getElem_map] at hcx
            have hfx := Ow.free HKR.out N
            have HK9 := Lib.hid (Ow.set HKR.out N (.int .u8 1))
            have HG9 : Hid (GrS (fun k => k = g) w (wr.setCell ⟨g, N, none⟩ (.int .u8 1))) := Lib.hid (HGR.out.trans (GrS.set (R := fun k => k = g) (p := ⟨g, N, none⟩) rfl _))
            rw [show ((ks'.map (Value.int .u8)).set N (.int .u8 1)) = (ks'.set N 1).map (Value.int .u8) by rw [List.map_set]] at HK9
            have hcy := Ow.cell HK9.out (k := N) (by rw [List.length_map, List.length_set, HLR.out]; omega)
            rw [List.getElem_map, List.getElem_set_self] at hcy
            go_wp2
            go_ret
            refine ⟨by rw [HT.out]; rfl, ks'.set N 1, HFIN.out ks' HLR.out HKO.out HAG.out 1 (.inl ⟨rfl, HT.out⟩), HK9.out, HG9.out⟩
          | false =>
            clear HYE
            go_wp2_with fail
            refine (HNE.out cn hcn _ HRR.out).mono ?_
            rintro e5 w5 ⟨A5, c5, rfl, hown5, hb5⟩
            have HO5 := Lib.hid (OwI.ex HOR.out hb5)
            have HK5 := Lib.hid (HKR.out.ex hb5)
            have HG5 := Lib.hid (HGR.out.trans (GrS.ofBelow hb5))
            have HB5 := Lib.hid (below_next HBR.out HBR.out.size hb5)
            have HOF5 : Hid (Off (fun k => k = g) (.slice A5 s.length c5)) := Lib.hid (by
              have h9 := hown5
              exact Off.new h9 (fun k hk => by rw [hk]; exact (HKR.out.lt g rfl).2))
            have HR5 : Hid (SlI w5 (.slice A5 s.length c5) (nxS s cn)) := Lib.hid hown5.sl
            have HKO5 := Lib.hid (HKO.out.up (show s.sum + 1 ≤ (nxS s (cn : Int)).sum by omega))
            clear hown5 hb5
            go_wp2_with fail
            refine (IH.out (nxS s cn) HGN.out (by omega) (.slice A5 s.length c5) ks' w5 HR5.out (fun _ => HOF5.out) HB5.out HKO5.out HK5.out).mono ?_
            rintro e6 w6 ⟨ks6, rfl, ⟨hko6, hag6⟩, hkr6, hg6⟩
            have HL6 := Lib.hid hko6.len
            have HKO6 : Hid (KnOk halls ways (s.sum + 1) ks6) := Lib.hid (by rw [← hsm]; exact hko6)
            have HAG6 : Hid (Agree ways (s.sum + 1) (ks.set N 2) ks6) := Lib.hid (fun t ht2 h9 => (hag6 t ht2 (by omega)).trans (HAG.out t ht2 h9))
            have HKR6 := Lib.hid hkr6
            have HO6 := Lib.hid (Ow.off HO5.out hg6 HOF.out)
            have HG6 := Lib.hid (HG5.out.trans hg6)
            clear hko6 hag6 hkr6 hg6
            generalize safeT halls ways (nxS s (cn : Int)) = z at HSU
            go_wp2
            go_roundw
            case rel => exact ⟨k + 1, ks6, by omega, by go_num, by rw [HSU.out]; simp, HL6, HKR6, HKO6, HAG6, HO6, HG6⟩
            case measure => simp [intOf]; omega
        · have hkn : k = (movesL halls ways 4 s).length := by omega
          have HT : Hid (safeT halls ways s = anyK halls ways s k) := Lib.hid (by rw [← HALL.out, hkn])
          have hki : ¬ (k : Int) < ((movesL halls ways 4 s).length : Int) := by omega
          generalize anyK halls ways s k = q at HT
          clear hkn hlt
          cases q with
          | true =>
            have hcx := Ow.cell HKR.out (k := N) (by rw [List.length_map, HLR.out]; omega)
            rw [List.getElem_map] at hcx
            have hfx := Ow.free HKR.out N
            have HK9 := Lib.hid (Ow.set HKR.out N (.int .u8 1))
            have HG9 : Hid (GrS (fun k => k = g) w (wr.setCell ⟨g, N, none⟩ (.int .u8 1))) := Lib.hid (HGR.out.trans (GrS.set (R := fun k => k = g) (p := ⟨g, N, none⟩) rfl _))
            rw [show ((ks'.map (Value.int .u8)).set N (.int .u8 1)) = (ks'.set N 1).map (Value.int .u8) by rw [List.map_set]] at HK9
            have hcy := Ow.cell HK9.out (k := N) (by rw [List.length_map, List.length_set, HLR.out]; omega)
            rw [List.getElem_map, List.getElem_set_self] at hcy
            go_wp2
            go_ret
            refine ⟨by rw [HT.out]; rfl, ks'.set N 1, HFIN.out ks' HLR.out HKO.out HAG.out 1 (.inl ⟨rfl, HT.out⟩), HK9.out, HG9.out⟩
          | false =>
            have hcx := Ow.cell HKR.out (k := N) (by rw [List.length_map, HLR.out]; omega)
            rw [List.getElem_map, HTWO.out ks' HLR.out HAG.out] at hcx
            go_wp2
            go_ret
            refine ⟨by rw [HT.out]; rfl, ks', HFI2.out ks' HLR.out HKO.out HAG.out HT.out, HKR.out, HGR.out⟩
    all_goals
      have HKV := Lib.hid hkv; have HSF := Lib.hid hsf
      clear hkv hsf
      go_enter Try.func89, Try.ntmps89
      go_wp2_with fail
      refine (HNU.out _ HR.out).mono ?_
      rintro e1 w1 ⟨rfl, rfl⟩
      go_wp2
      go_ret
      refine ⟨ks, by rw [HSF.out]; rfl, ⟨HKN.out, fun _ _ _ => rfl⟩, HK.out, GrS.refl _ _⟩
end Go.Proofs.Ytegabdhmfemgkaa
