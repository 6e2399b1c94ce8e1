/-
isSafe of the program: a state is safe, by what is known and what is found. Condition: the slices read as lists; valid halls and ways; a good state; what is known is right.
-/
import Derived.Test.YtegabdhmfemgkaaMapS
import Derived.Deep.RegionHeld3
namespace Go.Proofs.Ytegabdhmfemgkaa
open Go.RowKit
set_option linter.unusedVariables false

/-- what is known of states is right -/
def FOk (halls : List Int) (ways : List (List Int)) (f : List Int → Option Bool) : Prop := ∀ s, Good (lensW ways) s → ∀ y, f s = some y → y = safeT halls ways s
theorem FOk.put {halls : List Int} {ways : List (List Int)} {f : List Int → Option Bool} (h : FOk halls ways f) (s : List Int) : FOk halls ways (putS f s (safeT halls ways s)) := by
  intro t ht y hy
  unfold putS at hy
  by_cases e : t = s
  · rw [if_pos e] at hy; subst e; injection hy with hy; exact hy.symm
  · rw [if_neg e] at hy; exact h t ht y hy
def cntT : Nat → Nat
  | 0 => 0
  | m + 1 => 1 + 4 * cntT m
/-- the first k moves' safety, or done -/
def anyK (halls : List Int) (ways : List (List Int)) (s : List Int) (k : Nat) : Bool := doneS ways s || ((movesL halls ways 4 s).take k).any fun c => safeT halls ways (nxS s c)
theorem anyK_succ {halls : List Int} {ways : List (List Int)} {s : List Int} {k : Nat} (hk : k < (movesL halls ways 4 s).length) : anyK halls ways s (k + 1) = (anyK halls ways s k || safeT halls ways (nxS s (movesL halls ways 4 s)[k])) := by
  unfold anyK
  rw [List.take_succ_eq_append_getElem hk, List.any_append, ← Bool.or_assoc]
  simp
theorem anyK_all {halls : List Int} {ways : List (List Int)} (ht : travOk halls ways = true) {s : List Int} (hs : Good (lensW ways) s) : anyK halls ways s (movesL halls ways 4 s).length = safeT halls ways s := by
  unfold anyK safeT
  rw [List.take_of_length_le (Nat.le_refl _)]
  exact (safe_step mvOk_moves (lens5 ht) (lens4 ht) (doneS ways) hs).symm
theorem anyK_yes {halls : List Int} {ways : List (List Int)} (ht : travOk halls ways = true) {s : List Int} (hs : Good (lensW ways) s) {k : Nat} (h : anyK halls ways s k = true) : safeT halls ways s = true := by
  unfold safeT
  rw [safe_step mvOk_moves (lens5 ht) (lens4 ht) (doneS ways) hs]
  unfold anyK at h
  rw [Bool.or_eq_true] at h ⊢
  rcases h with h | h
  · exact .inl h
  · obtain ⟨c, hc, hx⟩ := List.any_eq_true.1 h
    exact .inr (List.any_eq_true.2 ⟨c, List.mem_of_mem_take hc, hx⟩)
theorem keep7 {R : Nat → Prop} {w0 w1 w2 : World} {g : Nat} {x y m a b c d : Value}
    (h : w1.cell? ⟨g, 0, none⟩ = some x ∧ w1.cell? ⟨g, 1, none⟩ = some y ∧ w1.cell? ⟨g, 2, none⟩ = some m ∧ w1.cell? ⟨g + 1, 0, none⟩ = some a ∧ w1.cell? ⟨g + 1, 1, none⟩ = some b ∧ w1.cell? ⟨g + 1, 2, none⟩ = some c ∧ w1.cell? ⟨g + 1, 3, none⟩ = some d ∧ GrS R w0 w1)
    (hg : GrS R w1 w2) (hn : ¬ R g ∧ ¬ R (g + 1)) :
    w2.cell? ⟨g, 0, none⟩ = some x ∧ w2.cell? ⟨g, 1, none⟩ = some y ∧ w2.cell? ⟨g, 2, none⟩ = some m ∧ w2.cell? ⟨g + 1, 0, none⟩ = some a ∧ w2.cell? ⟨g + 1, 1, none⟩ = some b ∧ w2.cell? ⟨g + 1, 2, none⟩ = some c ∧ w2.cell? ⟨g + 1, 3, none⟩ = some d ∧ GrS R w0 w2 := by
  obtain ⟨h1, h2, h3, h4, h5, h6, h7, h8⟩ := h
  have l1 := World.block_lt_of_cell? _ _ h1
  have l2 := World.block_lt_of_cell? _ _ h4
  exact ⟨(hg.cell l1 hn.1).trans h1, (hg.cell l1 hn.1).trans h2, (hg.cell l1 hn.1).trans h3, (hg.cell l2 hn.2).trans h4, (hg.cell l2 hn.2).trans h5, (hg.cell l2 hn.2).trans h6, (hg.cell l2 hn.2).trans h7, h8.trans hg⟩
theorem BoxT.off {R : Nat → Prop} {W W' : World} {g : Nat} {x y : Value} {m : Int} {pl : List Int} (h : BoxT W g x y m pl) (hg : GrS R W W') (hn : ¬ R g ∧ ¬ R (g + 1)) : BoxT W' g x y m pl :=
  have hl := h.lt
  ⟨Nat.lt_of_lt_of_le h.lt hg.size, (hg.cell (by omega) hn.1).trans h.c0, (hg.cell (by omega) hn.1).trans h.c1, (hg.cell (by omega) hn.1).trans h.c2, fun k hk => (hg.cell (by omega) hn.2).trans (h.s k hk)⟩
theorem BoxT.conj {R : Nat → Prop} {W : World} {g : Nat} {x y : Value} {m : Int} {pl : List Int} (h : BoxT W g x y m pl) : W.cell? ⟨g, 0, none⟩ = some x ∧ W.cell? ⟨g, 1, none⟩ = some y ∧ W.cell? ⟨g, 2, none⟩ = some (.int .i64 m) ∧ W.cell? ⟨g + 1, 0, none⟩ = some (.int .i64 (plc pl 0)) ∧ W.cell? ⟨g + 1, 1, none⟩ = some (.int .i64 (plc pl 1)) ∧ W.cell? ⟨g + 1, 2, none⟩ = some (.int .i64 (plc pl 2)) ∧ W.cell? ⟨g + 1, 3, none⟩ = some (.int .i64 (plc pl 3)) ∧ GrS R W W :=
  ⟨h.c0, h.c1, h.c2, h.s 0 (by omega), h.s 1 (by omega), h.s 2 (by omega), h.s 3 (by omega), GrS.refl _ _⟩

set_option maxRecDepth 100000 in
set_option maxHeartbeats 4000000 in
theorem isSafe_any (v u : Value) (halls : List Int) (ways : List (List Int)) (w0 : World) (hv : SlI w0 v halls) (hu : SlII w0 u ways) (ht : travOk halls ways = true) (b : Nat) (hlo : w0.heap.size ≤ b) :
    ∀ (m : Nat) (s : List Int), Good (lensW ways) s → 25 ≤ s.sum + m → ∀ (w : World) (n : Nat) (f : List Int → Option Bool), Below w0.heap.size w0 w → MapB (lensW ways) w b n f → FOk halls ways f → n + cntT m ≤ 4611686018427387904 →
    Calls Try.prog 81 #[.agg #[v, u, .int .i64 ways.length], stV s, .map (some b)] w fun e w' => ∃ (n' : Nat) (f' : List Int → Option Bool), e = .returned (.bool (safeT halls ways s)) ∧ MapB (lensW ways) w' b n' f' ∧ FOk halls ways f' ∧ n' ≤ n + cntT m ∧ GrS (fun k => k = b) w w'
  | 0, s, hs, hm, _, _, _, _, _, _, _ => by
    have := hs.sum (lens5 ht) (lens4 ht)
    omega
  | m + 1, s, hs, hm, w, n, f, hb0, hmap, hf, hn => by
    have IH := Lib.hid (isSafe_any v u halls ways w0 hv hu ht b hlo m)
    obtain ⟨hsl, hsp⟩ := hs.at_
    obtain ⟨_, _, h4, hway⟩ := travOk_at ht
    have hp6 : ∀ k, k < ways.length → 0 ≤ plc s k ∧ plc s k ≤ 1000 := fun k hk => by
      have h1 := hsp k hk
      have h2 := (wayOk_at (hway _ (List.getElem_mem hk))).1
      omega
    have hblt := hmap.lt
    have hDN := fun (W : World) (hW : Below w0.heap.size w0 W) => allDone_any v u halls ways (ways.length : Int) s W (hv.ex hW) (hu.ex hW) h4
    have hMV := fun (W : World) (hW : Below w0.heap.size w0 W) => moves_any v u halls ways s (ways.length : Int) W (hv.ex hW) (hu.ex hW) hsl ht hp6
    have hMD := fun (c : Nat) (hc : c < ways.length) (W : World) => moved_any s c W (by omega) (by omega) (hp6 c hc).1 (hp6 c hc).2
    simp only [movesL_most h4] at hMV
    obtain ⟨A, d, rfl, hla, ha⟩ := hv.op
    obtain ⟨B, e, rfl, hlb, hat⟩ := hu.op
    have HM := Lib.hid (hmap.ex (below_alloc2 w (.cells #[.slice A halls.length d, .slice B ways.length e, .int .i64 ways.length] 69) (.cells #[.int .i64 (plc s 0), .int .i64 (plc s 1), .int .i64 (plc s 2), .int .i64 (plc s 3)] 86)))
    have HB := Lib.hid (below_alloc2 w (.cells #[.slice A halls.length d, .slice B ways.length e, .int .i64 ways.length] 69) (.cells #[.int .i64 (plc s 0), .int .i64 (plc s 1), .int .i64 (plc s 2), .int .i64 (plc s 3)] 86))
    have HQ := Lib.hid (boxT w (.slice A halls.length d) (.slice B ways.length e) ways.length s 69 86)
    have HB0 := Lib.hid (hb0.trans (HB.out.mono hb0.size))
    have HS := Lib.hid hs
    have HL5 := Lib.hid (lens5 ht); have HL4 := Lib.hid (lens4 ht)
    unfold stV at hDN hMV hMD
    have HDN := Lib.hid hDN; have HMV := Lib.hid hMV; have HMD := Lib.hid hMD
    have HF := Lib.hid hf
    have HALL := Lib.hid (anyK_all ht hs)
    have HYES := Lib.hid (fun k h => @anyK_yes halls ways ht s hs k h)
    have HSUC := Lib.hid (fun k h => @anyK_succ halls ways s k h)
    have HMM := Lib.hid (fun c => @mem_moves halls ways 4 s c)
    have HML := Lib.hid (movesK_len halls ways 4 s ways.length)
    have HNX : Hid (∀ k : Nat, (hk : k < ways.length) → (k : Int) ∈ movesL halls ways 4 s → Good (lensW ways) (nxS s k) ∧ (nxS s k).sum = s.sum + 1) := Lib.hid fun k hk hm => ⟨good_nx mvOk_moves hs hm, sum_nx mvOk_moves hs hm⟩
    have HCT : Hid (cntT (m + 1) = 1 + 4 * cntT m) := Lib.hid rfl
    have HM5 := Lib.hid hm
    have HBW := Lib.hid hb0
    unfold stV
    clear hv hu ha hat hf hmap hb0 hs hsp hsl hway hp6 hDN hMV hMD hm ht
    cases hfs : f s with
    | some y =>
      have hy := HF.out s HS.out y hfs
      have HY := Lib.hid hy
      have HFS := Lib.hid hfs
      clear hfs hy
      go_enter Try.func81, Try.ntmps81
      go_wp2_with (first | (at_lookup; refine wpList_lookOkB HL5.out _ rfl _ _ rfl b n f s rfl HM.out HS.out rfl ?_; rw [HFS.out]) | fail)
      go_ret
      refine ⟨n, f, by rw [← HY.out]; rfl, HM.out, HF.out, by omega, GrS.ofBelow HB.out⟩
    | none =>
      have HFS := Lib.hid hfs
      clear hfs
      have hc0 := HQ.out.c0; have hc1 := HQ.out.c1; have hc2 := HQ.out.c2; have hs0 := HQ.out.s 0 (by omega); have hs1 := HQ.out.s 1 (by omega); have hs2 := HQ.out.s 2 (by omega); have hs3 := HQ.out.s 3 (by omega)
      have HD1 := Lib.hid (HDN.out _ HB0.out)
      go_enter Try.func81, Try.ntmps81
      go_wp2_with (first | (at_lookup; refine wpList_lookOkB HL5.out _ rfl _ _ rfl b n f s rfl HM.out HS.out rfl ?_; rw [HFS.out]) | fail)
      refine HD1.out.mono ?_
      rintro e1 w1 ⟨rfl, hb1⟩
      have HX1 := Lib.hid (HQ.out.ex hb1)
      have HM1 := Lib.hid (HM.out.ex hb1)
      have HB1 := Lib.hid (below_next HB0.out HB0.out.size hb1)
      have HG1 : Hid (GrS (fun k => k = b) w w1) := Lib.hid ((GrS.ofBelow HB.out).trans (GrS.ofBelow hb1))
      clear hc0 hc1 hc2 hs0 hs1 hs2 hs3 hb1
      have hc0 := HX1.out.c0; have hc1 := HX1.out.c1; have hc2 := HX1.out.c2; have hs0 := HX1.out.s 0 (by omega); have hs1 := HX1.out.s 1 (by omega); have hs2 := HX1.out.s 2 (by omega); have hs3 := HX1.out.s 3 (by omega)
      go_wp2_with fail
      refine (HMV.out _ HB1.out).mono ?_
      rintro e2 w2 ⟨A1, c1, rfl, hown, hb2⟩
      have HX2 := Lib.hid (HX1.out.ex hb2)
      have HM2 := Lib.hid (HM1.out.ex hb2)
      have HG2 : Hid (GrS (fun k => k = b) w w2) := Lib.hid (HG1.out.trans (GrS.ofBelow hb2))
      have HOF : Hid (Off (fun k => k = b) (.slice A1 (movesL halls ways 4 s).length c1)) := Lib.hid (Off.new hown (fun k hk => by rw [hk]; exact HM1.out.lt))
      have HOW := Lib.hid hown
      have HNR : Hid (¬ (w.heap.size = b) ∧ ¬ (w.heap.size + 1 = b)) := Lib.hid ⟨by omega, by omega⟩
      have hml : (movesL halls ways 4 s).length ≤ 4 := by have := HML.out; unfold movesL; omega
      clear hc0 hc1 hc2 hs0 hs1 hs2 hs3 hb2 hown
      go_wp2
      go_loopw [9, 27] (fun ov i wr => ∃ (k nn : Nat) (ff : List Int → Option Bool), k ≤ (movesL halls ways 4 s).length ∧ i = .int .i64 k ∧ ov = .bool (anyK halls ways s k) ∧ nn ≤ n + k * cntT m ∧ Hid (MapB (lensW ways) wr b nn ff) ∧ Hid (FOk halls ways ff) ∧ Hid (BoxT wr w.heap.size (.slice A halls.length d) (.slice B ways.length e) ways.length s) ∧ Hid (OwN wr w1.heap.size (.slice A1 (movesL halls ways 4 s).length c1) (movesL halls ways 4 s)) ∧ Hid (GrS (fun k => k = b) w wr)) (fun _ i _ => (movesL halls ways 4 s).length - (intOf i).toNat)
      case atStart => exact ⟨0, n, f, Nat.zero_le _, rfl, by simp [anyK], by omega, HM2, HF, HX2, HOW, HG2⟩
      case round =>
        obtain ⟨k, nn, ff, hk, rfl, rfl, hnn, HMR, HFR, HXR, HOR, HGR⟩ := hrel
        have HBX : Hid (∀ W, Below wr.drew.heap.size wr.drew W → Below w0.heap.size w0 W) := Lib.hid fun W hW => by
          have h1 := HBW.out.trans (HGR.out.below (fun j _ hj => by rw [hj]; exact hlo) HBW.out.size)
          exact below_next h1 h1.size (below_next0 (Below.refl _ _).drew hW)
        have HMX : Hid (∀ W, Below wr.drew.heap.size wr.drew W → MapB (lensW ways) W b nn ff) := Lib.hid fun W hW => HMR.out.ex (below_next0 (Below.refl _ _).drew hW)
        have HCJ := Lib.hid (BoxT.conj (R := fun k => k = b) HXR.out)
        have hc0 := HXR.out.c0; have hc1 := HXR.out.c1; have hc2 := HXR.out.c2; have hs0 := HXR.out.s 0 (by omega); have hs1 := HXR.out.s 1 (by omega); have hs2 := HXR.out.s 2 (by omega); have hs3 := HXR.out.s 3 (by omega)
        have hkt : k * cntT m ≤ 4 * cntT m := Nat.mul_le_mul_right _ (by omega)
        have hct := HCT.out
        by_cases hlt : k < (movesL halls ways 4 s).length
        · have hki : (k : Int) < ((movesL halls ways 4 s).length : Int) := by omega
          have HSU := Lib.hid (HSUC.out k hlt)
          have hmem := List.getElem_mem hlt
          obtain ⟨cn, hcn, hck, _⟩ := (HMM.out _).1 hmem
          obtain ⟨hgn, hsm⟩ := HNX.out cn hcn (by rw [← hck]; exact hmem)
          have HGN := Lib.hid hgn
          rcases Ow.form HOR.out with ⟨_, h0, _⟩ | ⟨g1, c4, hA2, _, hlt1, _⟩
          · omega
          injection hA2 with hA2 hn2 hc2
          clear hn2
          subst hA2 hc2
          have hcell := Ow.cell HOR.out (k := k) (by simpa using hlt)
          rw [List.getElem_map, hck] at hcell
          rw [hck] at HSU
          have HYE := Lib.hid (HYES.out k)
          have hcc := HM5.out
          clear hck hmem hgn hlt1
          generalize anyK halls ways s k = q at HSU HYE
          cases q with
          | true =>
            have HT := Lib.hid (HYE.out rfl)
            go_wp2_with (first | (at_mapUpdate; refine wpList_putB HL5.out HL4.out _ rfl _ _ _ rfl b nn ff s true rfl HMR.out (by omega) HS.out rfl rfl ?_; intro w3 hm3 hg3) | fail)
            have HM3 := Lib.hid hm3
            have HG3 : Hid (GrS (fun k => k = b) w w3) := Lib.hid (HGR.out.trans (GrS.ofGrown hg3 (fun k hk => by cases hk; rfl)))
            clear hm3 hg3
            go_ret
            refine ⟨by rw [HT.out]; rfl, nn + 1, putS ff s true, HM3.out, ?_, by omega, HG3.out⟩
            have hp := FOk.put HFR.out s
            rw [HT.out] at hp
            exact hp
          | false =>
            clear HYE
            have hkt2 : k * cntT m + cntT m ≤ 4 * cntT m := by
              have h9 := Nat.mul_le_mul_right (cntT m) (show k + 1 ≤ 4 by omega)
              rwa [Nat.add_mul, Nat.one_mul] at h9
            go_wp2
            go_region_held3 (fun w' => w'.cell? ⟨w.heap.size, 0, none⟩ = some (.slice A halls.length d) ∧ w'.cell? ⟨w.heap.size, 1, none⟩ = some (.slice B ways.length e) ∧ w'.cell? ⟨w.heap.size, 2, none⟩ = some (.int .i64 ways.length) ∧ w'.cell? ⟨w.heap.size + 1, 0, none⟩ = some (.int .i64 (plc s 0)) ∧ w'.cell? ⟨w.heap.size + 1, 1, none⟩ = some (.int .i64 (plc s 1)) ∧ w'.cell? ⟨w.heap.size + 1, 2, none⟩ = some (.int .i64 (plc s 2)) ∧ w'.cell? ⟨w.heap.size + 1, 3, none⟩ = some (.int .i64 (plc s 3)) ∧ GrS (fun k => k = b) wr w') (first | (exact keep7 (by assumption) hn7 HNR.out) | (exact keep7 HCJ.out (GrS.ofBelow (Below.refl _ _).drew) HNR.out)) (first | (go_at_call 78; refine (HMD.out cn hcn _).mono ?_; rintro eA wA ⟨rfl, hbA⟩; have hn7 : GrS (fun k => k = b) _ wA := GrS.ofBelow hbA) | (go_at_call 81; refine (IH.out (nxS s cn) HGN.out (by omega) wA nn ff (HBX.out _ hbA) (HMX.out _ hbA) HFR.out (by omega)).mono ?_; rintro eB wB ⟨n7, f7, rfl, hm7, hf7, hnn7, hg7⟩; have hn7 := hg7))
            have hgx : GrS (fun k => k = b) wr wB := ((GrS.ofBelow (Below.refl _ _).drew).trans (GrS.ofBelow hbA)).trans hg7
            have HM7 := Lib.hid hm7; have HF7 := Lib.hid hf7
            have HG7 := Lib.hid (HGR.out.trans hgx)
            have HX7 := Lib.hid (HXR.out.off hgx HNR.out)
            have HO7 := Lib.hid (Ow.off HOR.out hgx HOF.out)
            have HN7 : Hid (n7 ≤ n + (k + 1) * cntT m) := Lib.hid (by rw [Nat.add_mul, Nat.one_mul]; omega)
            clear hm7 hf7 hg7 hgx hn7 hbA
            generalize safeT halls ways (nxS s (cn : Int)) = z at HSU
            go_wp2
            go_roundw
            case rel => exact ⟨k + 1, n7, f7, by omega, by go_num, by rw [HSU.out]; simp, HN7.out, HM7, HF7, HX7, HO7, HG7⟩
            case measure => simp [intOf]; omega
        · have hkn : k = (movesL halls ways 4 s).length := by omega
          have HT : Hid (safeT halls ways s = anyK halls ways s k) := Lib.hid (by rw [← HALL.out, hkn])
          generalize anyK halls ways s k = q at HT
          clear hkn
          go_wp2_with (first | (at_mapUpdate; refine wpList_putB HL5.out HL4.out _ rfl _ _ _ rfl b nn ff s q rfl HMR.out (by omega) HS.out rfl rfl ?_; intro w3 hm3 hg3) | fail)
          have HM3 := Lib.hid hm3
          have HG3 : Hid (GrS (fun k => k = b) w w3) := Lib.hid (HGR.out.trans (GrS.ofGrown hg3 (fun k hk => by cases hk; rfl)))
          clear hm3 hg3
          go_ret
          refine ⟨nn + 1, putS ff s q, by rw [HT.out]; rfl, HM3.out, ?_, by omega, HG3.out⟩
          have hp := FOk.put HFR.out s
          rw [HT.out] at hp
          exact hp
end Go.Proofs.Ytegabdhmfemgkaa
