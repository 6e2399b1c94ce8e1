/-
Rows of tracks and tables beside rows that are written: what stays. No condition beyond the premises.
-/
import Derived.Test.YtlgeddbgbcineaaWto
import Derived.Test.YtlgeddbgbcineaaKeepII
namespace Go.Proofs.Ytlgeddbgbcineaa
open Go.RowKit
set_option linter.unusedVariables false

/-- a table that lies in none of the blocks of R -/
def TabOff (R : Nat → Prop) (w : World) (v : Value) (E : Nat → Nat → Bool) (n : Nat) : Prop :=
  ∃ (lo : Nat) (us : List Value), OwTab w lo v n us (tabT E n n) ∧ Off R v ∧ ∀ (i : Nat) (h : i < us.length), Off R us[i]
section
variable {R R' : Nat → Prop} {w w' : World} {v : Value} {E E' : Nat → Nat → Bool} {n lo : Nat} {us : List Value}
theorem TabOff.sl (h : TabOff R w v E n) : SlTab w v E n := by
  obtain ⟨lo, us, h1, _⟩ := h
  exact h1.sl
theorem TabOff.gr (h : TabOff R w v E n) (hg : GrS R w w') : TabOff R w' v E n := by
  obtain ⟨lo, us, h1, h2, h3⟩ := h
  exact ⟨lo, us, ⟨h1.outer.off hg h2, h1.ul, fun i a b => Ow.off (h1.row i a b) hg (h3 i a)⟩, h2, h3⟩
theorem TabOff.ex (h : TabOff R w v E n) (hb : Below w.heap.size w w') : TabOff R w' v E n := h.gr (GrS.ofBelow hb)
theorem TabOff.cong (h : TabOff R w v E n) (he : ∀ i b, i < n → b < n → E i b = E' i b) : TabOff R w v E' n := by
  obtain ⟨lo, us, h1, h2⟩ := h
  exact ⟨lo, us, by rw [← tabT_cong he]; exact h1, h2⟩
theorem TabOff.new (h : OwTab w lo v n us (tabT E n n)) (hR : ∀ k, R k → k < lo) : TabOff R w v E n :=
  ⟨lo, us, h, Off.new h.outer hR, fun i hi => Off.new (h.row i hi (by have := h.ul; omega)) hR⟩
theorem TabOff.old (h : OwTab w lo v n us (tabT E n n)) (hR : ∀ k, R k → w.heap.size ≤ k) : TabOff R w v E n :=
  ⟨lo, us, h, fun g hg hr => by have := (h.outer.lt g hg).2; have := hR g hr; omega, fun i hi g hg hr => by
    have := ((h.row i hi (by have := h.ul; omega)).lt g hg).2; have := hR g hr; omega⟩
end
section
variable {w w' : World} {lo n : Nat} {v : Value} {us : List Value} {xss : List (List Int)}
theorem owII_nil (w : World) (lo : Nat) : OwII w lo (.slice none 0 0) [] [] := ⟨⟨World.ownsRow_nil _ _ _ _, by simp⟩, fun i h _ => absurd h (by simp), fun i j h _ => absurd h (by simp)⟩
theorem owII_empty (w : World) (lo : Nat) (hlo : lo ≤ w.heap.size) : OwII (w.alloc (.cells #[] 49)) lo (.slice (some ⟨w.heap.size, 0, none⟩) 0 0) [] [] :=
  ⟨ow_empty w lo 49 1 hlo, fun i h _ => absurd h (by simp), fun i j h _ => absurd h (by simp)⟩
theorem OwII.ul (h : OwII w lo v us xss) : us.length = xss.length := by simpa using h.outer.len
theorem OwII.snoc (h : OwII w lo v us xss) {w0 : World} (h0 : ∀ (i : Nat) (hi : i < us.length) (k : Nat), us[i].ownBlock = some k → k < w0.heap.size) {v' u : Value} {x : List Int} (hu : OwI w w0.heap.size u x) (hlo : lo ≤ w0.heap.size) (ho : Ow w' lo 49 1 v' (xss.length + 1) (us ++ [u])) (hg : w.grownBy w' v.ownBlock) : OwII w' lo v' (us ++ [u]) (xss ++ [x]) := by
  have hul := h.ul
  refine ⟨by simpa using ho, fun i h1 h2 => ?_, fun i j h1 h2 hij => ?_⟩
  · by_cases e : i < us.length
    · rw [List.getElem_append_left e, List.getElem_append_left (by omega)]
      have h3 := h.row i e (by omega)
      exact OwI.keptS h3 hg (Ow.sep_type h3 h.outer (by decide))
    · have hi : i = us.length := by simp at h1; omega
      subst hi
      have e1 : (us ++ [u])[us.length]'h1 = u := by simp
      have e2 : (xss ++ [x])[us.length]'h2 = x := by simp [hul]
      rw [e1, e2]
      exact OwI.keptS (hu.mono hlo) hg (Ow.sep_type hu h.outer (by decide))
  · have key : ∀ (i : Nat) (hi : i < us.length), Sep us[i] u ∧ Sep u us[i] := fun i hi => by
      constructor
      · cases hv : us[i].ownBlock with
        | none => exact .inl hv
        | some g =>
          refine .inr fun hq => ?_
          rw [hv] at hq
          have := h0 i hi g hv
          have := (hu.lt g hq.symm).1
          omega
      · cases hv : u.ownBlock with
        | none => exact .inl hv
        | some g =>
          refine .inr fun hq => ?_
          rw [hv] at hq
          have := h0 i hi g hq.symm
          have := (hu.lt g hv).1
          omega
    by_cases e : i < us.length
    · by_cases e2 : j < us.length
      · rw [List.getElem_append_left e, List.getElem_append_left e2]; exact h.apart i j e e2 hij
      · have hj : j = us.length := by simp at h2; omega
        subst hj
        rw [List.getElem_append_left e, show (us ++ [u])[us.length]'h2 = u by simp]; exact (key i e).1
    · have hi : i = us.length := by simp at h1; omega
      subst hi
      have e2 : j < us.length := by simp at h2; omega
      rw [List.getElem_append_left e2, show (us ++ [u])[us.length]'h1 = u by simp]; exact (key j e2).2
theorem OwII.mono (h : OwII w lo v us xss) {lo' : Nat} (hlo : lo' ≤ lo) : OwII w lo' v us xss := ⟨h.outer.mono hlo, fun i h1 h2 => (h.row i h1 h2).mono hlo, h.apart⟩
theorem OwII.rlt (h : OwII w lo v us xss) : ∀ (i : Nat) (hi : i < us.length) (k : Nat), us[i].ownBlock = some k → k < w.heap.size := fun i hi k hk => ((h.row i hi (by have := h.ul; omega)).lt k hk).2
end

/-- marks in every row, on from k0 -/
def marksII (k0 : Int) : List (List Int) → List (List Int)
  | [] => []
  | x :: xss => marks k0 x.length :: marksII (k0 + (x.length : Int)) xss
theorem marksII_len : ∀ (k0 : Int) (xss : List (List Int)), (marksII k0 xss).length = xss.length
  | _, [] => rfl
  | k0, x :: xss => by rw [marksII, List.length_cons, List.length_cons, marksII_len]
theorem marksII_at : ∀ (xss : List (List Int)) (k0 : Int) (i : Nat) (h : i < (marksII k0 xss).length) (h' : i < xss.length), (marksII k0 xss)[i] = marks (k0 + sumLen xss i) xss[i].length
  | [], _, i, _, h' => absurd h' (by simp)
  | x :: xss, k0, 0, _, _ => by simp [marksII, sumLen]
  | x :: xss, k0, i + 1, h, h' => by
    have h2 : i < (marksII (k0 + (x.length : Int)) xss).length := by rw [marksII_len]; simpa using h'
    have := marksII_at xss (k0 + (x.length : Int)) i h2 (by simpa using h')
    simp only [marksII, List.getElem_cons_succ]
    rw [this]
    congr 1
    unfold sumLen
    simp; omega
set_option maxHeartbeats 2000000 in
/-- marks in all rows, and what the rows then hold -/
theorem markOwn_any (v : Value) (us : List Value) (xss : List (List Int)) (k0 : Int) (w : World) (lo : Nat) (hv : OwII w lo v us xss) (h0 : 0 ≤ k0) (h1 : k0 ≤ 1099511627776) (hsm : xss.length ≤ 1048576) (ht : ∀ k, k ≤ xss.length → sumLen xss k ≤ 1099511627776) :
    Calls Try.prog 35 #[v, .int .i64 k0] w fun e w' => e = .returned (.int .i64 (k0 + sumLen xss xss.length)) ∧ OwII w' lo v us (marksII k0 xss) ∧
      (∀ (lo2 sz2 m : Nat) (e2 : TypeId) (vd : Value) (ds : List Value), Ow w lo2 e2 sz2 vd m ds → (∀ (i : Nat) (h : i < us.length), Sep vd us[i]) → Ow w' lo2 e2 sz2 vd m ds) ∧
      (∀ (B : Nat) (w0 : World), Below B w0 w → B ≤ lo → B ≤ w.heap.size → Below B w0 w') := by
  have hul : us.length = xss.length := by simpa using hv.outer.len
  obtain ⟨hout, hrow, hap⟩ := hv
  have HU := Lib.hid hul; have HAP := Lib.hid hap; have HT := Lib.hid ht; have HNN := Lib.hid (sumLen_nonneg xss)
  have HMK := Lib.hid (fun i h => marksII_at xss k0 i (by rw [marksII_len]; exact h) h)
  have HML := Lib.hid (marksII_len k0 xss)
  have hla := hout.le
  have hform : ∃ A c, v = .slice A xss.length c ∧ (∀ k, k < xss.length → ∃ g, A = some ⟨g, 0, none⟩) := by
    rcases Ow.form hout with ⟨rfl, hn, _⟩ | ⟨g, c, rfl, _⟩
    · exact ⟨none, 0, by rw [hn], fun k hk => by omega⟩
    · exact ⟨_, c, rfl, fun _ _ => ⟨g, rfl⟩⟩
  obtain ⟨A, c, rfl, hA⟩ := hform
  have HA := Lib.hid hA
  have HROW : Hid (∀ (i : Nat) (h : i < us.length) (h' : i < xss.length), OwI w lo us[i] (if i < 0 then (marksII k0 xss)[i]'(by rw [marksII_len]; exact h') else xss[i])) := Lib.hid fun i h h' => by rw [if_neg (by omega)]; exact hrow i h h'
  clear hul hap ht hrow hA
  go_enter Try.func35, Try.ntmps35
  go_wp2
  go_loopw [1, 5] (fun n i wr => ∃ k : Nat, k ≤ xss.length ∧ i = .int .i64 k ∧ n = .int .i64 (k0 + sumLen xss k) ∧ Ow wr lo 49 1 (.slice A xss.length c) xss.length us ∧
      Hid (∀ (i : Nat) (h : i < us.length) (h' : i < xss.length), OwI wr lo us[i] (if i < k then (marksII k0 xss)[i]'(by rw [marksII_len]; exact h') else xss[i])) ∧
      Hid (∀ (lo2 sz2 m : Nat) (e2 : TypeId) (vd : Value) (ds : List Value), Ow w lo2 e2 sz2 vd m ds → (∀ (i : Nat) (h : i < us.length), Sep vd us[i]) → Ow wr lo2 e2 sz2 vd m ds) ∧
      Hid (∀ (B : Nat) (w0 : World), Below B w0 w → B ≤ lo → B ≤ w.heap.size → Below B w0 wr) ∧ w.heap.size ≤ wr.heap.size) (fun _ i _ => xss.length - (intOf i).toNat)
  case atStart => exact ⟨0, Nat.zero_le _, rfl, by simp [sumLen], hout, HROW, Lib.hid fun _ _ _ _ _ _ h _ => h, Lib.hid fun _ _ h _ _ => h, Nat.le_refl _⟩
  case round =>
    clear hout HROW
    obtain ⟨k, hk, rfl, rfl, hown, hrow, hkeep, hbel, hsz⟩ := hrel
    have hnn := HNN.out k
    have htk := HT.out k hk
    by_cases hlt : k < xss.length
    · obtain ⟨g, rfl⟩ := HA.out k hlt
      have hku : k < us.length := by rw [HU.out]; exact hlt
      have hcx := hown.cell (k := k) hku
      have hrk := hrow.out k hku hlt
      rw [if_neg (by omega)] at hrk
      have HS := Lib.hid (sumLen_succ hlt)
      have hlti : (k : Int) < (xss.length : Int) := by omega
      have HRK := Lib.hid hrk
      have HOWN := Lib.hid hown
      have HSEPK : Hid (∀ (i : Nat) (h : i < us.length), i ≠ k → Sep us[i] us[k]) := Lib.hid fun i h hne => HAP.out i k h hku hne
      have HKS : Hid (∀ (vd : Value), (∀ (i : Nat) (h : i < us.length), Sep vd us[i]) → Sep vd us[k]) := Lib.hid fun vd h => h k hku
      have HUK : Hid (us[k] = us[k]) := Lib.hid rfl
      have HMX := Lib.hid (HMK.out k hlt)
      generalize huk : us[k] = u at hcx HRK HSEPK HKS
      have HUE := Lib.hid huk
      generalize hxk : xss[k] = x at HRK HS HMX
      generalize sumLen xss k = n at HS hnn htk HMX ⊢
      clear hrk hown huk hxk HUK
      go_wp2_with fail
      refine (markInt64S_any _ x _ _ lo HRK.out (by omega) (by omega)).mono ?_
      rintro e w2 ⟨rfl, hmo, hg⟩
      have HG := Lib.hid hg
      have HO2 := Lib.hid (HOWN.out.keptS hg (Ow.sep_type HOWN.out HRK.out (by decide)))
      have HR2 : Hid (∀ (i : Nat) (h : i < us.length) (h' : i < xss.length), OwI w2 lo us[i] (if i < k + 1 then (marksII k0 xss)[i]'(by rw [marksII_len]; exact h') else xss[i])) := Lib.hid fun i h h' => by
        by_cases e : i = k
        · subst e
          rw [if_pos (by omega)]
          have e1 := HMX.out
          rw [e1, HUE.out]
          exact hmo
        · have h9 := (hrow.out i h h').keptS HG.out (HSEPK.out i h e)
          by_cases e2 : i < k
          · rw [if_pos e2] at h9; rw [if_pos (by omega)]; exact h9
          · rw [if_neg e2] at h9; rw [if_neg (by omega)]; exact h9
      have HK2 : Hid (∀ (lo2 sz2 m : Nat) (e2 : TypeId) (vd : Value) (ds : List Value), Ow w lo2 e2 sz2 vd m ds → (∀ (i : Nat) (h : i < us.length), Sep vd us[i]) → Ow w2 lo2 e2 sz2 vd m ds) := Lib.hid fun lo2 sz2 m e2 vd ds h hs => (hkeep.out _ _ _ _ _ _ h hs).keptS HG.out (HKS.out vd hs)
      have HB2 : Hid (∀ (B : Nat) (w0 : World), Below B w0 w → B ≤ lo → B ≤ w.heap.size → Below B w0 w2) := Lib.hid fun B w0 h hB hB2 => below_own (hbel.out B w0 h hB hB2) HRK.out HG.out (Nat.le_trans hB2 hsz) hB
      have hsz2 : w.heap.size ≤ w2.heap.size := Nat.le_trans hsz hg.size
      clear hg hmo HMX HUE
      go_wp2
      go_roundw
      case rel => exact ⟨k + 1, by omega, by go_num, by rw [HS.out]; go_num, HO2.out, HR2, HK2, HB2, hsz2⟩
      case measure => simp [intOf]; omega
    · have hkn : k = xss.length := by omega
      subst hkn
      have HO := Lib.hid hown; clear hown
      go_wp2
      go_ret
      refine ⟨rfl, ⟨by rw [HML.out]; exact HO.out, fun i h1 h2 => ?_, HAP.out⟩, hkeep.out, hbel.out⟩
      have h9 := hrow.out i h1 (by rw [← HML.out]; exact h2)
      rw [if_pos (by have := HML.out; omega)] at h9
      exact h9
set_option maxHeartbeats 2000000 in
theorem heldII_any (v : Value) (xss : List (List Int)) (k0 : Int) (w : World) (hv : SlII w v (marksII k0 xss)) (h0 : 0 ≤ k0) (h1 : k0 ≤ 1099511627776) (hsm : xss.length ≤ 1048576) (ht : ∀ k, k ≤ xss.length → sumLen xss k ≤ 1099511627776) :
    Calls Try.prog 48 #[v, .int .i64 k0] w fun e w' => e = .returned (.int .i64 (k0 + sumLen xss xss.length)) ∧ w = w' := by
  obtain ⟨A, c, rfl, hla, ha⟩ := hv.op
  have HML := Lib.hid (marksII_len k0 xss)
  rw [HML.out] at hla ⊢
  have HA : Hid (∀ k (hk : k < xss.length), ∃ b o A' c', A = some ⟨b, o, none⟩ ∧ w.cell? ⟨b, o + k, none⟩ = some (.slice A' xss[k].length c') ∧ SlI w (.slice A' xss[k].length c') (marks (k0 + sumLen xss k) xss[k].length)) := Lib.hid fun k hk => by
    obtain ⟨b, o, A', c', h1, h2, h3, h4⟩ := ha k (by rw [HML.out]; exact hk)
    rw [marksII_at xss k0 k (by rw [HML.out]; exact hk) hk] at h3 h4
    rw [marks_length] at h3 h4
    exact ⟨b, o, A', c', h1, h3, h4⟩
  have HT := Lib.hid ht; have HNN := Lib.hid (sumLen_nonneg xss)
  clear hv ha ht
  go_enter Try.func48, Try.ntmps48
  go_wp2
  go_loop [1, 5] (fun n i => ∃ k : Nat, k ≤ xss.length ∧ i = .int .i64 k ∧ n = .int .i64 (k0 + sumLen xss k)) (fun _ i => xss.length - (intOf i).toNat)
  case atStart => exact ⟨0, Nat.zero_le _, rfl, by simp [sumLen]⟩
  case round =>
    obtain ⟨k, hk, rfl, rfl⟩ := hrel
    have hnn := HNN.out k
    have htk := HT.out k hk
    by_cases hlt : k < xss.length
    · obtain ⟨b, o, A', c', rfl, hcx, hrk⟩ := HA.out k hlt
      have HS := Lib.hid (sumLen_succ hlt)
      have hlti : (k : Int) < (xss.length : Int) := by omega
      have HRK := Lib.hid hrk
      have hxl := hrk.le
      rw [marks_length] at hxl
      generalize xss[k] = x at hcx HRK HS hxl
      generalize sumLen xss k = n at HS hnn htk HRK ⊢
      clear hrk
      have hnb : ¬ (k0 + n + (x.length : Int) < 0) := by omega
      go_wp2_with (go_at_call 38; refine (heldInt64S_any _ x.length (k0 + n) _ HRK.out (by omega) (by omega)).mono ?_; rintro e w' ⟨rfl, rfl⟩)
      go_round
      case rel => exact ⟨k + 1, by omega, by go_num, by rw [HS.out]; go_num⟩
      case measure => simp [intOf]; omega
    · have hkn : k = xss.length := by omega
      subst hkn
      go_wp2
      go_ret
      exact ⟨rfl, rfl⟩
end Go.Proofs.Ytlgeddbgbcineaa
