/-
WorstStation of the program and of the reference. Condition: the slices read as lists.
-/
import Derived.Test.YthpijecjifmnbaaDelG
import Derived.Test.YthpijecjifmnbaaGrs
namespace Go.Proofs.Ythpijecjifmnbaa
open Go.RowKit
set_option linter.unusedVariables false

def trA (ts : List Trip) (n : Nat) : Trip := ts.getD n ⟨-1, 0, 0⟩
/-- what the first n trips to a station add up to -/
def accF (f : Trip → Int) (ts : List Trip) : Nat → Nat → Int
  | 0, _ => 0
  | n + 1, h => accF f ts n h + (if (trA ts n).to = (h : Int) then f (trA ts n) else 0)
def accL (f : Trip → Int) (ts : List Trip) (n : Nat) : List Int := (List.range 10).map (accF f ts n)
theorem accL_len (f : Trip → Int) (ts : List Trip) (n : Nat) : (accL f ts n).length = 10 := by simp [accL]
theorem accL_zero (f : Trip → Int) (ts : List Trip) : accL f ts 0 = List.replicate 10 0 := by
  have : accF f ts 0 = fun _ => 0 := by funext h; rfl
  unfold accL
  rw [this]; exact List.eq_replicate_iff.2 ⟨by simp, by simp⟩
theorem accL_get {f : Trip → Int} {ts : List Trip} {n h : Nat} (hh : h < (accL f ts n).length) : (accL f ts n)[h] = accF f ts n h := by simp [accL]
theorem accL_set {f : Trip → Int} {ts : List Trip} {n h : Nat} {t : Trip} (ht : trA ts n = t) (hh : t.to = (h : Int)) (u : Int) (hu : u = accF f ts n h + f t) : (accL f ts n).set h u = accL f ts (n + 1) := by
  apply List.ext_getElem
  · simp [accL]
  · intro i h1 h2
    rw [List.getElem_set]
    simp only [accL, List.getElem_map, List.getElem_range]
    show _ = accF f ts n i + _
    rw [ht]
    by_cases e : h = i
    · subst e; rw [if_pos rfl, if_pos hh, hu]
    · rw [if_neg e, if_neg (by omega)]; omega
theorem accF_bd {f : Trip → Int} {m : Int} (hm : 0 ≤ m) {ts : List Trip} (hf : ∀ k, k < ts.length → 0 ≤ f (trA ts k) ∧ f (trA ts k) ≤ m) (h : Nat) : ∀ n, n ≤ ts.length → 0 ≤ accF f ts n h ∧ accF f ts n h ≤ m * (n : Int)
  | 0, _ => ⟨Int.le_refl _, by simp [accF]⟩
  | n + 1, hn => by
    have ih := accF_bd hm hf h n (by omega)
    have h2 := hf n (by omega)
    show 0 ≤ accF f ts n h + _ ∧ accF f ts n h + _ ≤ m * ((n : Int) + 1)
    rw [Int.mul_add, Int.mul_one]
    split <;> omega
def better (S C : Nat → Int) (h : Nat) (b : Int) : Bool := decide (0 < C h) && (decide (b < 0) || decide (S b.toNat * C h < S h * C b.toNat))
def worstK (S C : Nat → Int) : Nat → Int
  | 0 => -1
  | h + 1 => if better S C h (worstK S C h) = true then (h : Int) else worstK S C h
theorem worstK_bd (S C : Nat → Int) : ∀ h, -1 ≤ worstK S C h ∧ worstK S C h < (h : Int)
  | 0 => by simp [worstK]
  | h + 1 => by
    have := worstK_bd S C h
    unfold worstK
    split <;> omega
def worstR (ts : List Trip) : Int × Int := if tripsOk ts = true then (if ts.length = 0 then (0, 3) else (worstK (accF Trip.late ts ts.length) (accF (fun _ => 1) ts ts.length) 10, 0)) else (0, 1)
theorem two_set {W : World} {lo g1 g2 c1 c2 : Nat} {xs ys : List Int} (hne : g1 ≠ g2) (h1 : OwI W lo (.slice (some ⟨g1, 0, none⟩) xs.length c1) xs) (h2 : OwI W lo (.slice (some ⟨g2, 0, none⟩) ys.length c2) ys) (i j : Nat) (a b : Int) :
    OwI ((W.setCell ⟨g1, i, none⟩ (.int .i64 a)).setCell ⟨g2, j, none⟩ (.int .i64 b)) lo (.slice (some ⟨g1, 0, none⟩) xs.length c1) (xs.set i a) ∧ OwI ((W.setCell ⟨g1, i, none⟩ (.int .i64 a)).setCell ⟨g2, j, none⟩ (.int .i64 b)) lo (.slice (some ⟨g2, 0, none⟩) ys.length c2) (ys.set j b) := by
  have a1 := OwI.set h1 i a
  have a2 : OwI (W.setCell ⟨g1, i, none⟩ (.int .i64 a)) lo (.slice (some ⟨g2, 0, none⟩) ys.length c2) ys :=
    Ow.off (R := fun k => k = g1) h2 (GrS.set (R := fun k => k = g1) (p := ⟨g1, i, none⟩) rfl _) (fun g hg hr => by simp [Value.ownBlock] at hg; omega)
  exact ⟨Ow.off (R := fun k => k = g2) a1 (GrS.set (R := fun k => k = g2) (p := ⟨g2, j, none⟩) rfl _) (fun g hg hr => by simp [Value.ownBlock] at hg; omega), OwI.set a2 j b⟩
theorem to_bd {ts : List Trip} (hok : tripsOk ts = true) {k : Nat} (hk : k < ts.length) : ∃ h : Nat, h < 10 ∧ ts[k].to = (h : Int) := by
  obtain ⟨hl, hall⟩ := tripsOk_at hok
  have := (Trip.okd (hall k hk)).1
  simp only [List.get_eq_getElem] at this
  exact ⟨(ts[k].to).toNat, by omega, by omega⟩
theorem trA_at {ts : List Trip} {k : Nat} (hk : k < ts.length) : trA ts k = ts[k] := by simp [trA, List.getD_eq_getElem?_getD, hk]

set_option maxRecDepth 100000 in
set_option maxHeartbeats 2000000 in
theorem specWorst_any (v : Value) (ts : List Trip) (w : World) (hv : SlTrip w v ts) :
    Calls Try.prog 24 #[v] w fun e w' => e = .returned (.tuple #[.int .i64 (worstR ts).1, .int .i64 (worstR ts).2]) ∧ Below w.heap.size w w' := by
  have HO := Lib.hid (l13Some_any v ts w hv)
  obtain ⟨A, c, rfl, hla, ha⟩ := hv.op
  have HA := Lib.hid ha
  clear hv ha
  have HR : Hid (worstR ts = if tripsOk ts = true then (if ts.length = 0 then (0, 3) else (worstK (accF Trip.late ts ts.length) (accF (fun _ => 1) ts ts.length) 10, 0)) else (0, 1)) := Lib.hid rfl
  have HC : Hid (codeSome ts = if tripsOk ts = true then (if ts.length = 0 then 3 else 0) else 1) := Lib.hid rfl
  go_enter Try.func24, Try.ntmps24
  go_wp2_with fail
  refine HO.out.mono ?_
  rintro e w' ⟨rfl, rfl⟩
  cases hok : tripsOk ts with
  | false =>
    have E : Hid (worstR ts = (0, 1)) := Lib.hid (by rw [HR.out, hok]; rfl)
    rw [show codeSome ts = 1 by rw [HC.out, hok]; rfl]
    clear hok
    go_wp2
    go_ret2
    exact ⟨by rw [E.out]; rfl, Below.refl _ _⟩
  | true =>
    by_cases hz : ts.length = 0
    · have E : Hid (worstR ts = (0, 3)) := Lib.hid (by rw [HR.out, hok, if_pos hz]; rfl)
      rw [show codeSome ts = 3 by rw [HC.out, hok, if_pos hz]; rfl]
      clear hok hz
      go_wp2
      go_ret2
      exact ⟨by rw [E.out]; rfl, Below.refl _ _⟩
    · have E : Hid (worstR ts = (worstK (accF Trip.late ts ts.length) (accF (fun _ => 1) ts ts.length) 10, 0)) := Lib.hid (by rw [HR.out, hok, if_neg hz]; rfl)
      rw [show codeSome ts = 0 by rw [HC.out, hok, if_neg hz]; rfl]
      obtain ⟨hl, hall⟩ := tripsOk_at hok
      have HALL := Lib.hid hall
      have HTO := Lib.hid fun k (hk : k < ts.length) => to_bd hok hk
      have HLB : Hid (∀ h n, n ≤ ts.length → 0 ≤ accF Trip.late ts n h ∧ accF Trip.late ts n h ≤ 10000 * (n : Int)) := Lib.hid fun h n hn => accF_bd (by omega) (fun k hk => by rw [trA_at hk]; exact Trip.late_bd (hall k hk)) h n hn
      have HCB : Hid (∀ h n, n ≤ ts.length → 0 ≤ accF (fun _ => 1) ts n h ∧ accF (fun _ => 1) ts n h ≤ 1 * (n : Int)) := Lib.hid fun h n hn => accF_bd (by omega) (fun k hk => by omega) h n hn
      clear hok hall
      go_wp2_with (first
        | (at_make; refine wpList_make1 w rfl (.const (.int .i64 10)) (.const (.int .i64 10)) _ rfl w.heap.size 2 (.int .i64 0) 8 Try.underlying40 infoI rfl .i64 .i64 10 rfl rfl (by omega) (by omega) (Nat.le_refl _) ?_; intro w1 hown hb hsz; have HO1 := Lib.hid hown; have HB1 := Lib.hid hb; have HSZ := Lib.hid hsz; clear hown hb hsz)
        | (at_make; refine wpList_make1 w1 rfl (.const (.int .i64 10)) (.const (.int .i64 10)) _ rfl w1.heap.size 2 (.int .i64 0) 8 Try.underlying40 infoI rfl .i64 .i64 10 rfl rfl (by omega) (by omega) (Nat.le_refl _) ?_; intro w2 hown hb hsz; have HO2 := Lib.hid hown; have HB2 := Lib.hid hb; clear hown hb hsz)
        | fail)
      have HS0 : Hid (OwI w2 w.heap.size (.slice (some ⟨w.heap.size, 0, none⟩) 10 10) (accL Trip.late ts 0)) := Lib.hid (by unfold OwI; rw [accL_len, accL_zero]; simpa using HO1.out.ex HB2.out)
      have HN0 : Hid (OwI w2 w.heap.size (.slice (some ⟨w1.heap.size, 0, none⟩) 10 10) (accL (fun _ => 1) ts 0)) := Lib.hid (by unfold OwI; rw [accL_len, accL_zero]; simpa using Ow.mono HO2.out HB1.out.size)
      have HB3 := Lib.hid (below_next0 HB1.out HB2.out)
      have HNE : Hid (w.heap.size ≠ w1.heap.size) := Lib.hid (by have := HSZ.out; omega)
      have HLO : Hid (w.heap.size ≤ w1.heap.size) := Lib.hid HB1.out.size
      generalize w1.heap.size = g2 at HN0 HNE HLO ⊢
      clear HO1 HO2 HB1 HB2
      go_loopw [7] (fun i wr => ∃ k : Nat, k ≤ ts.length ∧ i = .int .i64 (k : Int) ∧ Hid (OwI wr w.heap.size (.slice (some ⟨w.heap.size, 0, none⟩) 10 10) (accL Trip.late ts k)) ∧ Hid (OwI wr w.heap.size (.slice (some ⟨g2, 0, none⟩) 10 10) (accL (fun _ => 1) ts k)) ∧ Hid (Below w.heap.size w wr)) (fun i _ => ts.length - (intOf i).toNat)
      case atStart => exact ⟨0, Nat.zero_le _, rfl, HS0, HN0, HB3⟩
      case round =>
        obtain ⟨k, hk, rfl, HS, HN, HB⟩ := hrel
        by_cases hlt : k < ts.length
        · have hki : (k : Int) < (ts.length : Int) := by omega
          obtain ⟨b, o, rfl, hbs, hc0, hc1, hc2⟩ := HA.out k hlt
          have hx0 := (HB.out.cell (p := ⟨b, o + k * 3, none⟩) hbs).trans hc0
          have hx1 := (HB.out.cell (p := ⟨b, o + k * 3 + 1, none⟩) hbs).trans hc1
          have hx2 := (HB.out.cell (p := ⟨b, o + k * 3 + 2, none⟩) hbs).trans hc2
          obtain ⟨h, hh, hto⟩ := HTO.out k hlt
          have HLT := Lib.hid (l13Late_any ts[k].to ts[k].due ts[k].came b (o + k * 3) wr.drew hx0 hx1 hx2 (HALL.out k hlt))
          have hk' : Trip.late ⟨ts[k].to, ts[k].due, ts[k].came⟩ = ts[k].late := rfl
          rw [hk'] at HLT
          rw [hto] at hx0
          have HES := Lib.hid (accL_set (f := Trip.late) (trA_at hlt) hto _ rfl)
          have HEN := Lib.hid (accL_set (f := fun _ => 1) (trA_at hlt) hto _ rfl)
          have hlb := HLB.out h k hk
          have hcb := HCB.out h k hk
          have hxb := Trip.late_bd (HALL.out k hlt)
          have hls := accL_len Trip.late ts k
          have hln := accL_len (fun _ => 1) ts k
          have hs1 : wr.cell? ⟨w.heap.size, h, none⟩ = some (.int .i64 (accF Trip.late ts k h)) := by
            rw [OwI.cell (c := 10) (xs := accL Trip.late ts k) (by rw [hls]; exact HS.out) (k := h) (by rw [hls]; exact hh), accL_get]
          have hn1 : wr.cell? ⟨g2, h, none⟩ = some (.int .i64 (accF (fun _ => 1) ts k h)) := by
            rw [OwI.cell (c := 10) (xs := accL (fun _ => 1) ts k) (by rw [hln]; exact HN.out) (k := h) (by rw [hln]; exact hh), accL_get]
          have hfs := OwI.free (c := 10) (xs := accL Trip.late ts k) (by rw [hls]; exact HS.out) h
          have hfn := OwI.free (c := 10) (xs := accL (fun _ => 1) ts k) (by rw [hln]; exact HN.out) h
          have HTW : Hid (∀ (W : World), Below wr.heap.size wr W → OwI ((W.setCell ⟨w.heap.size, h, none⟩ (.int .i64 (accF Trip.late ts k h + ts[k].late))).setCell ⟨g2, h, none⟩ (.int .i64 (accF (fun _ => 1) ts k h + 1))) w.heap.size (.slice (some ⟨w.heap.size, 0, none⟩) 10 10) (accL Trip.late ts (k + 1)) ∧ OwI ((W.setCell ⟨w.heap.size, h, none⟩ (.int .i64 (accF Trip.late ts k h + ts[k].late))).setCell ⟨g2, h, none⟩ (.int .i64 (accF (fun _ => 1) ts k h + 1))) w.heap.size (.slice (some ⟨g2, 0, none⟩) 10 10) (accL (fun _ => 1) ts (k + 1)) ∧ Below w.heap.size w ((W.setCell ⟨w.heap.size, h, none⟩ (.int .i64 (accF Trip.late ts k h + ts[k].late))).setCell ⟨g2, h, none⟩ (.int .i64 (accF (fun _ => 1) ts k h + 1)))) := Lib.hid fun W hW => by
            have h1 := two_set (c1 := 10) (c2 := 10) HNE.out (xs := accL Trip.late ts k) (ys := accL (fun _ => 1) ts k) (by rw [hls]; exact HS.out.ex hW) (by rw [hln]; exact HN.out.ex hW) h h (accF Trip.late ts k h + ts[k].late) (accF (fun _ => 1) ts k h + 1)
            rw [HES.out, HEN.out, hls, hln] at h1
            exact ⟨h1.1, h1.2, ((below_next0 HB.out hW).setCell (p := ⟨w.heap.size, h, none⟩) (Nat.le_refl _) _).setCell (p := ⟨g2, h, none⟩) HLO.out _⟩
          have HG2 := Lib.hid HNE.out
          have hne : ¬ (w.heap.size = g2) := HNE.out
          have hne2 : ¬ (g2 = w.heap.size) := fun h => HNE.out h.symm
          have hhi : (h : Int) < 10 := by omega
          generalize accF Trip.late ts k h = x at hs1 HTW hlb
          generalize accF (fun _ => 1) ts k h = y at hn1 HTW hcb
          generalize ts[k].late = l at HLT HTW hxb
          clear hc0 hc1 hc2 hk' hls hln HES HEN hto
          have hwr : IntKind.i64.wrap (x + l) = x + l := by rw [IntKind.wrap_i64]; omega
          have hbn1 : ¬ (b = w.heap.size) := by omega
          have hbn2 : ¬ (w.heap.size = b) := by omega
          go_wp2
          go_region_with (go_at_call 50; refine HLT.out.mono ?_; rintro e w3 ⟨rfl, q, rfl⟩)
          all_goals
            obtain ⟨hT1, hT2, hT3⟩ := HTW.out (wr.drewN (1 + q)) (below_drewN (Below.refl _ _) _)
            have HT1 := Lib.hid hT1; have HT2 := Lib.hid hT2; have HT3 := Lib.hid hT3
            clear hT1 hT2 hT3
            go_wp2
            go_roundw
            case rel => exact ⟨k + 1, by omega, by go_num, HT1, HT2, HT3⟩
            case measure => simp [intOf]; omega
        · have hkn : k = ts.length := by omega
          subst hkn
          have HTB := Lib.hid fun h => HLB.out h ts.length (Nat.le_refl _)
          have HTC := Lib.hid fun h => HCB.out h ts.length (Nat.le_refl _)
          have HGS : Hid (∀ W, Below wr.heap.size wr W → ∀ h, h < 10 → W.cell? ⟨w.heap.size, h, none⟩ = some (.int .i64 (accF Trip.late ts ts.length h))) := Lib.hid fun W hW h hh => by
            have hls := accL_len Trip.late ts ts.length
            rw [OwI.cell (c := 10) (xs := accL Trip.late ts ts.length) (by rw [hls]; exact HS.out.ex hW) (k := h) (by rw [hls]; exact hh), accL_get]
          have HGN : Hid (∀ W, Below wr.heap.size wr W → ∀ h, h < 10 → W.cell? ⟨g2, h, none⟩ = some (.int .i64 (accF (fun _ => 1) ts ts.length h))) := Lib.hid fun W hW h hh => by
            have hls := accL_len (fun _ => 1) ts ts.length
            rw [OwI.cell (c := 10) (xs := accL (fun _ => 1) ts ts.length) (by rw [hls]; exact HN.out.ex hW) (k := h) (by rw [hls]; exact hh), accL_get]
          generalize accF Trip.late ts ts.length = S at HTB HGS E
          generalize accF (fun _ => 1) ts ts.length = C at HTC HGN E
          obtain ⟨wA, hwA⟩ : ∃ wA : World, wA = wr := ⟨_, rfl⟩
          rw [← hwA] at HGS HGN HB ⊢
          clear hwA HS HN
          go_wp2
          go_loopw [8, 9] (fun bst i wr => ∃ k : Nat, k ≤ 10 ∧ i = .int .i64 (k : Int) ∧ bst = .int .i64 (worstK S C k) ∧ Hid (Below wA.heap.size wA wr)) (fun _ i _ => 10 - (intOf i).toNat)
          case atStart => exact ⟨0, by omega, rfl, rfl, Lib.hid (Below.refl _ _)⟩
          case round =>
            obtain ⟨k, hk, rfl, rfl, HW⟩ := hrel
            by_cases hlt : k < 10
            · have hki : (k : Int) < 10 := by omega
              have hsk := cell_plus (HGS.out _ HW.out k hlt)
              have hnk := cell_plus (HGN.out _ HW.out k hlt)
              obtain ⟨hb1, hb2⟩ := worstK_bd S C k
              have HBE : Hid (worstK S C (k + 1) = if better S C k (worstK S C k) = true then (k : Int) else worstK S C k) := Lib.hid rfl
              have HBD : Hid (better S C k (worstK S C k) = (decide (0 < C k) && (decide (worstK S C k < 0) || decide (S (worstK S C k).toNat * C k < S k * C (worstK S C k).toNat)))) := Lib.hid rfl
              obtain ⟨hS1, hS2⟩ := HTB.out k
              obtain ⟨hC1, hC2⟩ := HTC.out k
              have HCS : Hid (∀ j, j < 10 → ∀ e, (plus wr e).cell? ⟨w.heap.size, j, none⟩ = some (.int .i64 (S j))) := Lib.hid fun j hj => cell_plus (HGS.out _ HW.out j hj)
              have HCN : Hid (∀ j, j < 10 → ∀ e, (plus wr e).cell? ⟨g2, j, none⟩ = some (.int .i64 (C j))) := Lib.hid fun j hj => cell_plus (HGN.out _ HW.out j hj)
              generalize worstK S C k = bb at hb1 hb2 HBE HBD
              by_cases hc : 0 < C k
              · have hcd : decide (0 < C k) = true := by simpa using hc
                by_cases hbn : bb < 0
                · have hbd : decide (bb < 0) = true := by simpa using hbn
                  have HE : Hid (worstK S C (k + 1) = (k : Int)) := Lib.hid (by rw [HBE.out, HBD.out, hcd, hbd]; rfl)
                  generalize C k = ck at hnk hc hcd
                  generalize S k = sk at hsk
                  clear hS1 hS2 hC1 hC2
                  go_wp2
                  refine wp_region_plus (by kernel_rfl) (by kernel_rfl) ?_
                  repeat (go_big_quiet_step ((fail)))
                  refine wpQuiet_nil ?_
                  intro wq hwq
                  replace hwq := below_of_plus hwq
                  have HW2 := Lib.hid (below_next0 HW.out hwq)
                  clear hwq
                  go_wp2
                  go_roundw
                  case rel => exact ⟨k + 1, by omega, by go_num, by rw [HE.out], HW2⟩
                  case measure => simp [intOf]; omega
                · have hbd : decide (bb < 0) = false := by simpa using hbn
                  obtain ⟨j, rfl⟩ := Int.eq_ofNat_of_zero_le (show 0 ≤ bb by omega)
                  have hj : j < 10 := by omega
                  have hji : (j : Int) < 10 := by omega
                  have hjt : ((j : Int)).toNat = j := by omega
                  have hsj := HCS.out j hj; have hnj := HCN.out j hj
                  rw [hcd, hbd, hjt] at HBD
                  obtain ⟨hS3, hS4⟩ := HTB.out j
                  obtain ⟨hC3, hC4⟩ := HTC.out j
                  have hm1 : 0 ≤ S k * C j := Int.mul_nonneg hS1 hC3
                  have hm2 : S k * C j ≤ 1000000 * 100 := Int.mul_le_mul (by omega) (by omega) hC3 (by omega)
                  have hm3 : 0 ≤ S j * C k := Int.mul_nonneg hS3 hC1
                  have hm4 : S j * C k ≤ 1000000 * 100 := Int.mul_le_mul (by omega) (by omega) hC1 (by omega)
                  have HE1 : Hid (S j * C k < S k * C j → worstK S C (k + 1) = (k : Int)) := Lib.hid (fun h => by rw [HBE.out, HBD.out, decide_eq_true h]; rfl)
                  have HE2 : Hid (¬ S j * C k < S k * C j → worstK S C (k + 1) = (j : Int)) := Lib.hid (fun h => by rw [HBE.out, HBD.out, decide_eq_false h]; rfl)
                  generalize C k = ck at hnk hc hcd hm3 hm4 HE1 HE2
                  generalize S k = sk at hsk hm1 hm2 HE1 HE2
                  generalize C j = cj at hnj hm1 hm2 HE1 HE2
                  generalize S j = sj at hsj hm3 hm4 HE1 HE2
                  clear hS1 hS2 hC1 hC2 hS3 hS4 hC3 hC4
                  have hw1 : wrap64 (sk * cj) = sk * cj := wrap64_fit (by omega)
                  have hw2 : wrap64 (sj * ck) = sj * ck := wrap64_fit (by omega)
                  by_cases hlt2 : sj * ck < sk * cj
                  · have HE := Lib.hid (HE1.out hlt2)
                    have hd2 : decide (sj * ck < sk * cj) = true := by simpa using hlt2
                    go_wp2
                    refine wp_region_plus (by kernel_rfl) (by kernel_rfl) ?_
                    repeat (go_big_quiet_step ((fail)))
                    refine wpQuiet_nil ?_
                    intro wq hwq
                    replace hwq := below_of_plus hwq
                    have HW2 := Lib.hid (below_next0 HW.out hwq)
                    clear hwq
                    go_wp2
                    go_roundw
                    case rel => exact ⟨k + 1, by omega, by go_num, by rw [HE.out], HW2⟩
                    case measure => simp [intOf]; omega
                  · have HE := Lib.hid (HE2.out (by omega))
                    have hd2 : decide (sj * ck < sk * cj) = false := by simpa using hlt2
                    go_wp2
                    refine wp_region_plus (by kernel_rfl) (by kernel_rfl) ?_
                    repeat (go_big_quiet_step ((fail)))
                    refine wpQuiet_nil ?_
                    intro wq hwq
                    replace hwq := below_of_plus hwq
                    have HW2 := Lib.hid (below_next0 HW.out hwq)
                    clear hwq
                    go_wp2
                    go_roundw
                    case rel => exact ⟨k + 1, by omega, by go_num, by rw [HE.out], HW2⟩
                    case measure => simp [intOf]; omega
              · have hcd : decide (0 < C k) = false := by simpa using hc
                have HE : Hid (worstK S C (k + 1) = bb) := Lib.hid (by rw [HBE.out, HBD.out, hcd]; rfl)
                generalize C k = ck at hnk hc hcd
                generalize S k = sk at hsk
                clear hS1 hS2 hC1 hC2
                go_wp2
                refine wp_region_plus (by kernel_rfl) (by kernel_rfl) ?_
                repeat (go_big_quiet_step ((fail)))
                refine wpQuiet_nil ?_
                intro wq hwq
                replace hwq := below_of_plus hwq
                have HW2 := Lib.hid (below_next0 HW.out hwq)
                clear hwq
                go_wp2
                go_roundw
                case rel => exact ⟨k + 1, by omega, by go_num, by rw [HE.out], HW2⟩
                case measure => simp [intOf]; omega
            · have hkn : k = 10 := by omega
              subst hkn
              go_wp2
              go_ret2
              exact ⟨by rw [E.out]; rfl, below_next0 HB.out HW.out⟩
end Go.Proofs.Ythpijecjifmnbaa
