/-
The first order: l10Order and GoOrder of the reference. Condition: the slices read as lists.
-/
import Derived.Test.YtedoibgclplnaaaRoomM
namespace Go.Proofs.Ytedoibgclplnaaa
open Go.RowKit
set_option linter.unusedVariables false

theorem owI_one {w : World} {lo : Nat} (hlo : lo ≤ w.heap.size) (x : Int) : OwI (w.alloc (.cells #[.int .i64 x] 2)) lo (.slice (some ⟨w.heap.size, 0, none⟩) 1 1) [x] := ⟨World.ownsRow_lit w #[.int .i64 x] 1 hlo (by unfold maxLen; omega) (by simp), by simp⟩
def ordV (o : Option (List Int)) : List Int × Bool := match o with | some l => (l, true) | none => ([], false)
noncomputable def fosS (rooms : List Int) (ts : List Guest) (S : Nat) : Option (List Int) := fos ts.length (canS rooms ts) (dnS ts) S
noncomputable def fokS (rooms : List Int) (ts : List Guest) (S k : Nat) : Option (List Int) := fok ts.length (canS rooms ts) (dnS ts) S k
/-- sets that are marked have no order -/
def BOk (rooms : List Int) (ts : List Guest) (bs : List Bool) : Prop := bs.length = 256 ∧ ∀ (S : Nat) (h : S < bs.length), bs[S] = true → fosS rooms ts S = none
theorem BOk.set {rooms : List Int} {ts : List Guest} {bs : List Bool} (h : BOk rooms ts bs) {S : Nat} (hn : fosS rooms ts S = none) : BOk rooms ts (bs.set S true) := by
  refine ⟨by rw [List.length_set]; exact h.1, fun T hT hb => ?_⟩
  rw [List.getElem_set] at hb
  split at hb
  · rename_i e; subst e; exact hn
  · exact h.2 T (by simpa using hT) hb
theorem fosS_len {rooms : List Int} {ts : List Guest} : ∀ (m S : Nat) (l : List Int), S < 2 ^ ts.length → 2 ^ ts.length ≤ m + S → fosS rooms ts S = some l → l.length + popc ts.length S ≤ ts.length
  | 0, S, l, h1, h2, _ => by omega
  | m + 1, S, l, h1, h2, h => by
    unfold fosS at h
    cases hd : dnS ts S with
    | true => rw [fos_done hd] at h; cases h; have := popc_le ts.length S; simpa using this
    | false =>
      rw [fos_go (fun _ _ h => canS_bit h) h1 hd] at h
      have key : ∀ j k, k + j = ts.length → fok ts.length (canS rooms ts) (dnS ts) S k = some l → l.length + popc ts.length S ≤ ts.length := by
        intro j
        induction j with
        | zero => intro k hk h; obtain rfl : k = ts.length := by omega
                  rw [fok_end] at h; cases h
        | succ j ih =>
          intro k hk h
          have hkl : k < ts.length := by omega
          cases hcan : canS rooms ts S k with
          | false => rw [fok_no hkl hcan] at h; exact ih (k + 1) (by omega) h
          | true =>
            cases hf : fos ts.length (canS rooms ts) (dnS ts) (S ||| 2 ^ k) with
            | none => rw [fok_none hkl hf] at h; exact ih (k + 1) (by omega) h
            | some l' =>
              rw [fok_some hkl hcan hf] at h
              cases h
              have hg := or_gt (canS_bit hcan)
              have h3 := fosS_len m (S ||| 2 ^ k) l' (or_lt h1 hkl) (by omega) hf
              rw [popc_or hkl (canS_bit hcan)] at h3
              simp; omega
      exact key ts.length 0 (by omega) h

set_option maxRecDepth 100000 in
set_option maxHeartbeats 2000000 in
theorem l10Order_any (v : Value) (rooms : List Int) (ts : List Guest) (w0 : World) (hv : SlI w0 v rooms) (hok : roomsOk rooms ts = true) (g c : Nat) (hlo : w0.heap.size ≤ g) : ∀ (m S : Nat), Rch ts.length (canS rooms ts) 0 S → 256 ≤ m + S →
    ∀ (A : Option Addr) (c2 : Nat) (bs : List Bool) (w : World), SlGuest w (.slice A ts.length c2) (gn ts S) → (0 < ((gn ts S).flatMap Guest.vals).length → Off (fun k => k = g) (.slice A ts.length c2)) → Below w0.heap.size w0 w →
    Ow w w0.heap.size 4 1 (.slice (some ⟨g, 0, none⟩) 256 c) 256 (bs.map Value.bool) → BOk rooms ts bs →
    Calls Try.prog 73 #[v, .slice A ts.length c2, .int .i64 (S : Int), .slice (some ⟨g, 0, none⟩) 256 c] w fun e w' => ∃ (A' : Option Addr) (n' c' : Nat) (bs' : List Bool), e = .returned (.tuple #[.slice A' n' c', .bool (ordV (fosS rooms ts S)).2]) ∧
      (ordV (fosS rooms ts S)).1.length = n' ∧ OwI w' w.heap.size (.slice A' n' c') (ordV (fosS rooms ts S)).1 ∧ BOk rooms ts bs' ∧
      Ow w' w0.heap.size 4 1 (.slice (some ⟨g, 0, none⟩) 256 c) 256 (bs'.map Value.bool) ∧ GrS (fun k => k = g) w w'
  | 0, S, hr, hm, _, _, _, _, _, _, _, _, _ => by
    have h1 := hr.lt (Nat.two_pow_pos _)
    obtain ⟨-, -, h4, -, -⟩ := roomsOk_at hok
    have := pow_le8 h4
    omega
  | m + 1, S, hr, hm, A, c2, bs, w, hu, hoff, hb0, hkn, hks => by
    obtain ⟨-, -, h4, -, -⟩ := roomsOk_at hok
    have hSn := hr.lt (Nat.two_pow_pos _)
    have hS : S < 256 := Nat.lt_of_lt_of_le hSn (pow_le8 h4)
    have IH := Lib.hid (l10Order_any v rooms ts w0 hv hok g c hlo m)
    have HV := Lib.hid hv; have HU := Lib.hid hu
    have HR := Lib.hid hr; have HOFF := Lib.hid hoff; have HB0 := Lib.hid hb0
    have HGOK := Lib.hid (gn_ok hok hr)
    have HGL := Lib.hid (gn_len ts S)
    have hgl8 : Hid ((gn ts S).length ≤ 8) := Lib.hid (by rw [HGL.out]; exact h4)
    have hS2 := hks.1
    have hkS := hks.2 S (by omega)
    have hcell := hkn.cell (k := S) (by rw [List.length_map]; omega)
    rw [List.getElem_map] at hcell
    have hSi : (S : Int) < (256 : Int) := by omega
    have hla : ts.length ≤ 17592186044416 := by omega
    have HKN := Lib.hid hkn; have HKS := Lib.hid hks
    have HBIT : Hid (∀ S k, canS rooms ts S k = true → S.testBit k = false) := Lib.hid fun S k h => canS_bit h
    have HLEFT := Lib.hid (l10Left_any _ (gn ts S) w hu (by rw [HGL.out]; exact h4))
    have HCNT : Hid ((cntL (gn ts S) (gn ts S).length = 0 → dnS ts S = true) ∧ (cntL (gn ts S) (gn ts S).length ≠ 0 → dnS ts S = false)) := Lib.hid (by
      have h1 := cntL_any (gn ts S)
      have h2 := cntL_bd (gn ts S) (gn ts S).length (Nat.le_refl _)
      have h3 : (gn ts S).any (fun g => !restB g) = !dnS ts S := by unfold dnS; rw [Bool.eq_iff_iff]; simp
      rw [h3] at h1
      constructor
      · intro h; rw [h] at h1; simpa using h1.symm
      · intro h; have h5 : decide (0 < cntL (gn ts S) (gn ts S).length) = true := by simp; omega
        rw [h5] at h1; simpa using h1.symm)
    have HCB := Lib.hid (cntL_bd (gn ts S) (gn ts S).length (Nat.le_refl _))
    generalize cntL (gn ts S) (gn ts S).length = cl at HLEFT HCNT HCB
    have HNIL := Lib.hid (fun w' : World => owI_nilR w' w.heap.size)
    generalize bs[S]'(by omega) = x at hcell hkS
    have hgs : g < w.heap.size := (RowOf.lt hkn g rfl).2
    have HGS := Lib.hid hgs
    clear hv hok hr hu hoff hb0 hkn hks hS2 hgs
    go_enter Try.func73, Try.ntmps73
    go_wp2_with fail
    refine HLEFT.out.mono ?_
    rintro e w1 ⟨rfl, hb1⟩
    have HG1 : Hid (GrS (fun k => k = g) w w1) := Lib.hid (GrS.ofBelow hb1)
    have hcell1 := (hb1.cell (p := ⟨g, S, none⟩) HGS.out).trans hcell
    have HU1 : Hid (SlGuest w1 (.slice A ts.length c2) (gn ts S)) := Lib.hid (HU.out.ex hb1)
    have HKN1 := Lib.hid (HKN.out.ex hb1)
    have HB1 := Lib.hid (HB0.out.trans (hb1.mono HB0.out.size))
    clear hb1 hcell
    by_cases hz : cl = 0
    · have HD : Hid (fosS rooms ts S = some []) := Lib.hid (fos_done (HCNT.out.1 hz))
      have hzb : (cl == 0) = true := by simpa using hz
      have HEM := Lib.hid (owI_empty w1 w.heap.size HG1.out.size)
      have HKN2 := Lib.hid (HKN1.out.alloc (.cells #[] 2))
      have HG2 : Hid (GrS (fun k => k = g) w (w1.alloc (.cells #[] 2))) := Lib.hid (HG1.out.trans (GrS.alloc _ _))
      clear hz
      go_wp2
      go_ret2
      exact ⟨_, 0, 0, bs, by rw [HD.out]; rfl, by rw [HD.out]; rfl, by rw [HD.out]; exact HEM.out, HKS.out, HKN2.out, HG2.out⟩
    · have hzb : (cl == 0) = false := by simpa using hz
      have HD : Hid (dnS ts S = false) := Lib.hid (HCNT.out.2 hz)
      clear hz
      cases x with
      | true =>
        have HN := Lib.hid (hkS rfl)
        clear hkS
        go_wp2
        go_ret2
        exact ⟨none, 0, 0, bs, by rw [HN.out]; rfl, by rw [HN.out]; rfl, by rw [HN.out]; exact HNIL.out _, HKS.out, HKN1.out, HG1.out⟩
      | false =>
        have HF : Hid (fosS rooms ts S = fokS rooms ts S 0) := Lib.hid (fos_go HBIT.out hSn HD.out)
        clear hkS
        go_wp2
        go_loopw [10, 11, 12] (fun i _ _ wr => ∃ (k : Nat) (bs' : List Bool), k ≤ ts.length ∧ i = .int .i64 k ∧ Hid (fosS rooms ts S = fokS rooms ts S k) ∧ Hid (BOk rooms ts bs') ∧
          Ow wr w0.heap.size 4 1 (.slice (some ⟨g, 0, none⟩) 256 c) 256 (bs'.map Value.bool) ∧ Hid (GrS (fun k => k = g) w wr)) (fun i _ _ _ => ts.length - (intOf i).toNat)
        case atStart => exact ⟨0, bs, Nat.zero_le _, rfl, HF, HKS, HKN1.out, HG1⟩
        case round =>
          obtain ⟨k, bs', hk, rfl, hF, hks, hkn, hgr⟩ := hrel
          have HKN2 := Lib.hid hkn
          clear hkn
          by_cases hlt : k < ts.length
          · have hki : (k : Int) < (ts.length : Int) := by omega
            have hkg : k < (gn ts S).length := by rw [HGL.out]; exact hlt
            have HUR : Hid (SlGuest wr (.slice A ts.length c2) (gn ts S)) := Lib.hid (Sl.off HU.out hgr.out HOFF.out)
            have HBR : Hid (Below w0.heap.size w0 wr) := Lib.hid (HB0.out.trans (hgr.out.below (fun j _ hj => by rw [hj]; exact hlo) HB0.out.size))
            have HC := Lib.hid (l10Can_any _ _ rooms (gn ts S) k wr (HV.out.ex HBR.out) HUR.out HGOK.out hkg)
            rw [← canS_at hkg] at HC
            have HY := Lib.hid (fun (h : canS rooms ts S k = true) => And.intro (HBIT.out S k h) (HR.out.step hlt h))
            have HNO : Hid (canS rooms ts S k = false → fosS rooms ts S = fokS rooms ts S (k + 1)) := Lib.hid fun h => hF.out.trans (fok_no hlt h)
            have HNN : Hid (fosS rooms ts (S ||| 2 ^ k) = none → fosS rooms ts S = fokS rooms ts S (k + 1)) := Lib.hid fun h => hF.out.trans (fok_none hlt h)
            have HSO : Hid (canS rooms ts S k = true → ∀ l, fosS rooms ts (S ||| 2 ^ k) = some l → fosS rooms ts S = some ((k : Int) :: l)) := Lib.hid fun h l hl => hF.out.trans (fok_some hlt h hl)
            generalize canS rooms ts S k = p at HC HY HNO HSO
            go_wp2_with fail
            refine HC.out.mono ?_
            rintro e w2 ⟨rfl, hb2⟩
            have HG2 := Lib.hid (hgr.out.trans (GrS.ofBelow hb2))
            have HU2 : Hid (SlGuest w2 (.slice A ts.length c2) (gn ts S)) := Lib.hid (HUR.out.ex hb2)
            have HKN3 := Lib.hid (HKN2.out.ex hb2)
            have HB2 := Lib.hid (HBR.out.trans (hb2.mono HBR.out.size))
            clear hb2
            cases p with
            | false =>
              have HE := Lib.hid (HNO.out rfl)
              go_wp2
              go_roundw
              case rel => exact ⟨k + 1, bs', by omega, by go_num, HE, hks, HKN3.out, HG2⟩
              case measure => simp [intOf]; omega
            | true =>
              obtain ⟨hbit, hr2⟩ := HY.out rfl
              have HADD := Lib.hid (or_add S hS k (by omega) hbit)
              have hgt := or_gt hbit
              have HSET := Lib.hid (gn_set hlt hbit)
              have HR2 := Lib.hid hr2
              have hSK := Lib.hid (shlI8 k (by omega))
              have HS3 : Hid ((S : Int) + 2 ^ k = ((S ||| 2 ^ k : Nat) : Int)) := Lib.hid (by rw [← HADD.out]; simp)
              have HSUM : Hid (wrap64 ((S : Int) + wrap64 (2 ^ k)) = ((S ||| 2 ^ k : Nat) : Int)) := Lib.hid (by
                have h8 := or_lt8 hS (show k < 8 by omega)
                rw [hSK.out, HS3.out]; unfold wrap64; omega)
              clear hbit hr2
              go_wp2_with fail
              refine (l10Gone_any _ (gn ts S) k w2 HU2.out hgl8.out hkg).mono ?_
              rintro e w3 ⟨A2, c3, rfl, hown3, hb3⟩
              rw [HSET.out, HGL.out] at hown3
              have HG3 := Lib.hid (HG2.out.trans (GrS.ofBelow hb3))
              have HU3 : Hid (SlGuest w3 (.slice A2 ts.length c3) (gn ts (S ||| 2 ^ k))) := Lib.hid (by unfold SlGuest; rw [gn_len]; exact hown3.sl)
              have HO3 : Hid (Off (fun k => k = g) (.slice A2 ts.length c3)) := Lib.hid (Off.new hown3 (fun j hj => by rw [hj]; exact Nat.lt_of_lt_of_le (RowOf.lt HKN3.out g rfl).2 (Nat.le_refl _)))
              have HKN4 := Lib.hid (HKN3.out.ex hb3)
              have HB3 := Lib.hid (HB2.out.trans (hb3.mono HB2.out.size))
              clear hown3 hb3
              have HLEN := Lib.hid (fun l (h : fosS rooms ts (S ||| 2 ^ k) = some l) => fosS_len (2 ^ ts.length) (S ||| 2 ^ k) l (or_lt hSn hlt) (by omega) h)
              rw [HGL.out]
              go_wp2_with fail
              rw [HSUM.out]
              refine (IH.out (S ||| 2 ^ k) HR2.out (by omega) A2 c3 bs' w3 HU3.out (fun _ => HO3.out) HB3.out HKN4.out hks.out).mono ?_
              cases hfr : fosS rooms ts (S ||| 2 ^ k) with
              | none =>
                rintro e w4 ⟨A4, n4, c4, bs4, rfl, hn4, hown4, hbs4, hkn4, hg4⟩
                have HE := Lib.hid (HNN.out hfr)
                have HG4 := Lib.hid (HG3.out.trans hg4)
                have HBS4 := Lib.hid hbs4; have HKN5 := Lib.hid hkn4
                clear hbs4 hkn4 hg4 hown4 hfr
                simp only [ordV] at hn4 ⊢
                clear hn4
                go_wp2
                go_roundw
                case rel => exact ⟨k + 1, bs4, by omega, by go_num, HE, HBS4, HKN5.out, HG4⟩
                case measure => simp [intOf]; omega
              | some l =>
                rintro e w4 ⟨A4, n4, c4, bs4, rfl, hn4, hown4, hbs4, hkn4, hg4⟩
                have hl8 := HLEN.out l hfr
                have HE := Lib.hid (HSO.out (by first | rfl | trivial) l hfr)
                have HG4 := Lib.hid (HG3.out.trans hg4)
                have HBS4 := Lib.hid hbs4
                have hs4 := hg4.size
                simp only [ordV] at hn4 hown4 ⊢
                have HONE := Lib.hid (owI_one (lo := w.heap.size) HG4.out.size (k : Int))
                have hr4 : Sl (w4.alloc (.cells #[.int .i64 (k : Int)] 2)) 1 (.slice A4 n4 c4) n4 (l.map (Value.int .i64)) := by
                  have := (hown4.sl).ex (below_alloc w4 (.cells #[.int .i64 (k : Int)] 2))
                  unfold SlI at this
                  rw [hn4] at this
                  exact this
                have HR4 := Lib.hid hr4
                have HKN5 := Lib.hid (hkn4.alloc (.cells #[.int .i64 (k : Int)] 2))
                have HG5 : Hid (GrS (fun k => k = g) w (w4.alloc (.cells #[.int .i64 (k : Int)] 2))) := Lib.hid (HG4.out.trans (GrS.alloc _ _))
                have HN4 := Lib.hid hn4
                have hn8 : n4 ≤ 8 := by omega
                have hgs4 := (RowOf.lt hkn4 g rfl).2
                have HGS4 := Lib.hid hgs4
                clear hbs4 hkn4 hg4 hown4 hfr hr4 hn4 hgs4 hl8
                go_wp2_with (first | (at_builtin; refine wpList_cat (w4.alloc (.cells #[.int .i64 (k : Int)] 2)) rfl (.tmp 48) (.tmp 49) _ rfl w.heap.size 2 (.int .i64 0) 1 8 Try.underlying24 infoI64 rfl (by omega) (.slice (some ⟨w4.heap.size, 0, none⟩) 1 1) 1 _ rfl HONE.out (.slice A4 n4 c4) n4 _ rfl HR4.out ?_ (by omega) (by omega) (by simp; have := HG4.out.size; omega) ?_; rotate_left; intro A5 c5 w5 _ hown5 hg5 hsz5) | fail)
                · have hown6 : OwI w5 w.heap.size (.slice A5 (1 + n4) c5) ((k : Int) :: l) := by
                    unfold OwI
                    have e : ((k : Int) :: l).length = 1 + n4 := by rw [List.length_cons, HN4.out]; omega
                    rw [e]
                    exact hown5
                  have HO6 := Lib.hid hown6
                  have hg6 : GrS (fun k => k = g) (w4.alloc (.cells #[.int .i64 (k : Int)] 2)) w5 → True := fun _ => trivial
                  have hB6 : Below w4.heap.size w4 w5 := (below_alloc w4 (.cells #[.int .i64 (k : Int)] 2)).grown hg5 (by simp) (fun j hj => by simp [Value.ownBlock] at hj; omega)
                  have HG6 : Hid (GrS (fun k => k = g) w w5) := Lib.hid (HG4.out.trans (GrS.ofBelow hB6))
                  have HKN6 := Lib.hid (Ow.off (R := fun j => j = w4.heap.size) HKN5.out (GrS.ofGrown hg5 (fun j hj => by simp [Value.ownBlock] at hj; omega)) (fun j hj hr => by
                    simp [Value.ownBlock] at hj; have := HGS4.out; omega))
                  clear hown5 hg5 hsz5 hown6 hg6 hB6
                  go_wp2
                  go_ret2
                  exact ⟨A5, 1 + n4, c5, bs4, by rw [HE.out]; rfl, by rw [HE.out]; simp only [ordV, List.length_cons, HN4.out]; omega, by rw [HE.out]; exact HO6.out, HBS4.out, HKN6.out, HG6.out⟩
                · intro u hu; obtain ⟨x, _, rfl⟩ := List.mem_map.1 hu; rfl
          · have hkn : k = ts.length := by omega
            have HN : Hid (fosS rooms ts S = none) := Lib.hid (by rw [hF.out, hkn]; exact fok_end)
            have hS3 := hks.out.1
            have hcx := HKN2.out.cell (k := S) (by rw [List.length_map]; omega)
            have hfx := HKN2.out.free S
            have hset := HKN2.out.set S (.bool true)
            rw [← List.map_set] at hset
            have HSET := Lib.hid hset
            have HK3 := Lib.hid (hks.out.set HN.out)
            have HG3 := Lib.hid (hgr.out.trans (GrS.set (p := ⟨g, S, none⟩) (w := wr) (R := fun k => k = g) rfl (.bool true)))
            generalize (bs'.map Value.bool)[S]'(by rw [List.length_map]; omega) = z at hcx
            clear hset hS3
            go_wp2
            go_ret2
            exact ⟨none, 0, 0, _, by rw [HN.out]; rfl, by rw [HN.out]; rfl, by rw [HN.out]; exact HNIL.out _, HK3.out, HSET.out, HG3.out⟩

noncomputable def ordR (rooms : List Int) (ts : List Guest) : List Int × Int := if roomsOk rooms ts = true then (match fosS rooms ts 0 with | some l => (l, 0) | none => ([], 10)) else ([], 1)
end Go.Proofs.Ytedoibgclplnaaa
