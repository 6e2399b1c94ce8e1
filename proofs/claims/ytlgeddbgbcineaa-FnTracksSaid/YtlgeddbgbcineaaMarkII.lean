/-
Marks in all rows of a [][]int64 of the call's own: what else stays. Condition: bounded lengths.
-/
import Derived.Test.YtlgeddbgbcineaaIntss
namespace Go.Proofs.Ytlgeddbgbcineaa
open Go.RowKit
set_option linter.unusedVariables false

def sumLen (xss : List (List Int)) (k : Nat) : Int := (((xss.take k).map List.length).sum : Nat)
theorem sumLen_succ {xss : List (List Int)} {k : Nat} (hk : k < xss.length) : sumLen xss (k + 1) = sumLen xss k + (xss[k].length : Int) := by
  unfold sumLen; rw [List.take_succ_eq_append_getElem hk, List.map_append, List.sum_append]; simp
theorem sumLen_nonneg (xss : List (List Int)) (k : Nat) : 0 ≤ sumLen xss k := by unfold sumLen; omega

set_option maxHeartbeats 1000000 in
theorem markInt64SS_any (v : Value) (us : List Value) (xss : List (List Int)) (k0 : Int) (w : World) (lo : Nat) (hv : OwII w lo v us xss) (h0 : 0 ≤ k0) (h1 : k0 ≤ 1099511627776) (hsm : xss.length ≤ 1048576) (ht : ∀ k, k ≤ xss.length → sumLen xss k ≤ 1099511627776) :
    Calls Try.prog 35 #[v, .int .i64 k0] w fun e w' => e = .returned (.int .i64 (k0 + sumLen xss xss.length)) ∧
      (∀ (lo2 sz2 m : Nat) (e2 : TypeId) (vd : Value) (ds : List Value), Ow w lo2 e2 sz2 vd m ds → (∀ (i : Nat) (h : i < us.length), Sep vd us[i]) → Ow w' lo2 e2 sz2 vd m ds) ∧
      (∀ (B : Nat) (w0 : World), Below B w0 w → B ≤ lo → B ≤ w.heap.size → Below B w0 w') := by
  have hul : us.length = xss.length := by simpa using hv.outer.len
  obtain ⟨hout, hrow, hap⟩ := hv
  have HU := Lib.hid hul; have HAP := Lib.hid hap; have HT := Lib.hid ht; have HNN := Lib.hid (sumLen_nonneg xss)
  have hla := hout.le
  have hform : ∃ A c, v = .slice A xss.length c ∧ (∀ k, k < xss.length → ∃ g, A = some ⟨g, 0, none⟩) := by
    rcases Ow.form hout with ⟨rfl, hn, _⟩ | ⟨g, c, rfl, _⟩
    · exact ⟨none, 0, by rw [hn], fun k hk => by omega⟩
    · exact ⟨_, c, rfl, fun _ _ => ⟨g, rfl⟩⟩
  obtain ⟨A, c, rfl, hA⟩ := hform
  have HA := Lib.hid hA
  have HROW : Hid (∀ (i : Nat) (h : i < us.length) (h' : i < xss.length), 0 ≤ i → OwI w lo us[i] xss[i]) := Lib.hid fun i h h' _ => hrow i h h'
  clear hul hap ht hrow hA
  go_enter Try.func35, Try.ntmps35
  go_wp2
  go_loopw [1, 5] (fun n i wr => ∃ k : Nat, k ≤ xss.length ∧ i = .int .i64 k ∧ n = .int .i64 (k0 + sumLen xss k) ∧ Ow wr lo 49 1 (.slice A xss.length c) xss.length us ∧
      Hid (∀ (i : Nat) (h : i < us.length) (h' : i < xss.length), k ≤ i → OwI wr lo us[i] xss[i]) ∧
      Hid (∀ (lo2 sz2 m : Nat) (e2 : TypeId) (vd : Value) (ds : List Value), Ow w lo2 e2 sz2 vd m ds → (∀ (i : Nat) (h : i < us.length), Sep vd us[i]) → Ow wr lo2 e2 sz2 vd m ds) ∧
      Hid (∀ (B : Nat) (w0 : World), Below B w0 w → B ≤ lo → B ≤ w.heap.size → Below B w0 wr) ∧ w.heap.size ≤ wr.heap.size) (fun _ i _ => xss.length - (intOf i).toNat)
  case atStart => exact ⟨0, Nat.zero_le _, rfl, by simp [sumLen], hout, HROW, Lib.hid fun _ _ _ _ _ _ h _ => h, Lib.hid fun _ _ h _ _ => h, Nat.le_refl _⟩
  case round =>
    clear hout
    obtain ⟨k, hk, rfl, rfl, hown, hrow, hkeep, hbel, hsz⟩ := hrel
    have hnn := HNN.out k
    have htk := HT.out k hk
    by_cases hlt : k < xss.length
    · obtain ⟨g, rfl⟩ := HA.out k hlt
      have hku : k < us.length := by rw [HU.out]; exact hlt
      have hcx := hown.cell (k := k) hku
      have hrk := hrow.out k hku hlt (Nat.le_refl _)
      have HS := Lib.hid (sumLen_succ hlt)
      have hlti : (k : Int) < (xss.length : Int) := by omega
      have HRK := Lib.hid hrk
      have HOWN := Lib.hid hown
      have HSEPK : Hid (∀ (i : Nat) (h : i < us.length), i ≠ k → Sep us[i] us[k]) := Lib.hid fun i h hne => HAP.out i k h hku hne
      have HKS : Hid (∀ (vd : Value), (∀ (i : Nat) (h : i < us.length), Sep vd us[i]) → Sep vd us[k]) := Lib.hid fun vd h => h k hku
      generalize us[k] = u at hcx HRK HSEPK HKS
      generalize xss[k] = x at HRK HS
      generalize sumLen xss k = n at HS hnn htk ⊢
      clear hrk hown
      go_wp2_with fail
      refine (markInt64S_any _ x _ _ lo HRK.out (by omega) (by omega)).mono ?_
      rintro e w2 ⟨rfl, hmo, hg⟩
      have HG := Lib.hid hg
      have HO2 := Lib.hid (HOWN.out.keptS hg (Ow.sep_type HOWN.out HRK.out (by decide)))
      have HR2 : Hid (∀ (i : Nat) (h : i < us.length) (h' : i < xss.length), k + 1 ≤ i → OwI w2 lo us[i] xss[i]) := Lib.hid fun i h h' hi => (hrow.out i h h' (by omega)).keptS HG.out (HSEPK.out i h (by omega))
      have HK2 : Hid (∀ (lo2 sz2 m : Nat) (e2 : TypeId) (vd : Value) (ds : List Value), Ow w lo2 e2 sz2 vd m ds → (∀ (i : Nat) (h : i < us.length), Sep vd us[i]) → Ow w2 lo2 e2 sz2 vd m ds) := Lib.hid fun lo2 sz2 m e2 vd ds h hs => (hkeep.out _ _ _ _ _ _ h hs).keptS HG.out (HKS.out vd hs)
      have HB2 : Hid (∀ (B : Nat) (w0 : World), Below B w0 w → B ≤ lo → B ≤ w.heap.size → Below B w0 w2) := Lib.hid fun B w0 h hB hB2 => below_own (hbel.out B w0 h hB hB2) HRK.out HG.out (Nat.le_trans hB2 hsz) hB
      have hsz2 : w.heap.size ≤ w2.heap.size := Nat.le_trans hsz hg.size
      clear hg hmo
      go_wp2
      go_roundw
      case rel => exact ⟨k + 1, by omega, by go_num, by rw [HS.out]; go_num, HO2.out, HR2, HK2, HB2, hsz2⟩
      case measure => simp [intOf]; omega
    · have hkn : k = xss.length := by omega
      subst hkn
      have HO := Lib.hid hown; clear hown
      go_wp2
      go_ret
      exact ⟨rfl, hkeep.out, hbel.out⟩

theorem sumLen_le {xss : List (List Int)} (h : total xss ≤ 1048576) : ∀ k, k ≤ xss.length → sumLen xss k ≤ 1099511627776 := by
  intro k hk
  have h1 : ((xss.take k).map List.length).sum ≤ (xss.map List.length).sum := by
    conv => rhs; rw [← List.take_append_drop k xss, List.map_append, List.sum_append]
    omega
  unfold total at h
  unfold sumLen
  omega
theorem sumLen_bd {xss : List (List Int)} (h : total xss ≤ 1048576) : 0 ≤ sumLen xss xss.length ∧ sumLen xss xss.length ≤ 1048576 := by
  unfold total at h
  unfold sumLen
  rw [List.take_of_length_le (Nat.le_refl _)]
  omega
theorem OwII.sepL {w w1 : World} {lo lo' sz n : Nat} {e : TypeId} {va v : Value} {cs us : List Value} {xss : List (List Int)} (a : Ow w lo e sz va n cs) (h : OwII w1 lo' v us xss) (hlo : w.heap.size ≤ lo') : ∀ (i : Nat) (h : i < us.length), Sep va us[i] := fun i hi =>
  Ow.sep_new a (h.row i hi (by have := h.outer.len; simp at this; omega)) hlo
theorem OwII.sepR {w w1 : World} {lo lo' sz n : Nat} {e : TypeId} {vb v : Value} {cs us : List Value} {xss : List (List Int)} (h : OwII w lo v us xss) (b : Ow w1 lo' e sz vb n cs) (hlo : w.heap.size ≤ lo') : ∀ (i : Nat) (h : i < us.length), Sep vb us[i] := fun i hi =>
  Ow.sep_new' (h.row i hi (by have := h.outer.len; simp at this; omega)) b hlo
end Go.Proofs.Ytlgeddbgbcineaa
