/-
WaitCircle of the program and of the reference: the same circle. Condition: the slices read as lists.
-/
import Derived.Test.YtedoibgclplnaaaRoomH
namespace Go.Proofs.Ytedoibgclplnaaa
open Go.RowKit
set_option linter.unusedVariables false

theorem firstN_lt (p : Nat → Bool) (n : Nat) (h : 0 < n) : firstN p n < (n : Int) ∧ -1 ≤ firstN p n := by
  unfold firstN
  cases hf : (List.range n).find? p with
  | none => dsimp only; omega
  | some k => have := List.mem_of_find?_eq_some hf; simp at this; dsimp only; omega
theorem firstN_some {p : Nat → Bool} {n j : Nat} (h : firstN p n = (j : Int)) : p j = true := by
  unfold firstN at h
  cases hf : (List.range n).find? p with
  | none => rw [hf] at h; dsimp only at h; omega
  | some k => rw [hf] at h; dsimp only at h; have := List.find?_some hf; have e : k = j := by omega
              rw [← e]; exact this
section
variable {rooms : List Int} {ts : List Guest}
theorem nxK_bd (h : 0 < ts.length) (k : Nat) : nxK rooms ts k < (ts.length : Int) ∧ -1 ≤ nxK rooms ts k := by
  unfold nxK
  cases ts[k]? with
  | none => dsimp only; omega
  | some g => dsimp only; split
              · exact firstN_lt _ _ h
              · omega
theorem nxK_waits {k j : Nat} (h : nxK rooms ts k = (j : Int)) : waitK rooms ts j = true := by
  unfold nxK at h
  cases hg : ts[k]? with
  | none => rw [hg] at h; dsimp only at h; omega
  | some g =>
    rw [hg] at h; dsimp only at h
    split at h
    · have := firstN_some h
      simp only [aftP, Bool.and_eq_true] at this
      exact this.2
    · omega
theorem nxK_yes {k : Nat} (hk : k < ts.length) (h : waitK rooms ts k = true) : nxK rooms ts k = aftW rooms ts ts[k].wants := by
  rw [waitK_at hk] at h
  simp [nxK, hk, h]
theorem nxK_no {k : Nat} (hk : k < ts.length) (h : waitK rooms ts k = false) : nxK rooms ts k = -1 := by
  rw [waitK_at hk] at h
  simp [nxK, hk, h]
theorem orb_bd {f : Nat} (hf : f < ts.length) : ∀ t, orb (nxK rooms ts) f t < (ts.length : Int) ∧ -1 ≤ orb (nxK rooms ts) f t
  | 0 => by show (f : Int) < _ ∧ -1 ≤ (f : Int); omega
  | t + 1 => by
    show (if orb (nxK rooms ts) f t < 0 then (-1 : Int) else nxK rooms ts (orb (nxK rooms ts) f t).toNat) < _ ∧ -1 ≤ (if orb (nxK rooms ts) f t < 0 then (-1 : Int) else nxK rooms ts (orb (nxK rooms ts) f t).toNat)
    split
    · omega
    · exact nxK_bd (by omega) _
theorem orb_next {f t j : Nat} (h : orb (nxK rooms ts) f t = (j : Int)) : orb (nxK rooms ts) f (t + 1) = nxK rooms ts j := by
  rw [orb_succ (by omega), h]; rfl
theorem orb_waits {f : Nat} (hf : waitK rooms ts f = true) : ∀ {t j : Nat}, orb (nxK rooms ts) f t = (j : Int) → waitK rooms ts j = true
  | 0, j, h => by
    have : (f : Int) = (j : Int) := h
    have e : f = j := by omega
    rw [← e]; exact hf
  | t + 1, j, h => by
    have h2 : (if orb (nxK rooms ts) f t < 0 then (-1 : Int) else nxK rooms ts (orb (nxK rooms ts) f t).toNat) = (j : Int) := h
    split at h2
    · omega
    · exact nxK_waits h2
end
open Classical in
/-- the circle that begins with a guest -/
noncomputable def circ1 (rooms : List Int) (ts : List Guest) (f : Nat) : Option (List Int) := if h : ∃ o, Circ (nxK rooms ts) ts.length f o then some h.choose else none
noncomputable def circT (rooms : List Int) (ts : List Guest) (k : Nat) : Option (List Int) := ((List.range ts.length).drop k).findSome? (circ1 rooms ts)
noncomputable def circR (rooms : List Int) (ts : List Guest) : List Int × Int := if roomsOk rooms ts = true then (match circT rooms ts 0 with | some o => (o, 0) | none => ([], 3)) else ([], 1)
theorem circ1_some {rooms : List Int} {ts : List Guest} {f : Nat} {o : List Int} (h : Circ (nxK rooms ts) ts.length f o) : circ1 rooms ts f = some o := by
  have h2 : ∃ o, Circ (nxK rooms ts) ts.length f o := ⟨o, h⟩
  unfold circ1; rw [dif_pos h2, circ_unique h2.choose_spec h]
theorem circ1_none {rooms : List Int} {ts : List Guest} {f : Nat} (h : ∀ o, ¬ Circ (nxK rooms ts) ts.length f o) : circ1 rooms ts f = none := by
  unfold circ1; rw [dif_neg (by rintro ⟨o, ho⟩; exact h o ho)]
theorem circT_end (rooms : List Int) (ts : List Guest) : circT rooms ts ts.length = none := by unfold circT; rw [List.drop_of_length_le (by simp)]; rfl
theorem circT_at {rooms : List Int} {ts : List Guest} {k : Nat} (hk : k < ts.length) : circT rooms ts k = (match circ1 rooms ts k with | some o => some o | none => circT rooms ts (k + 1)) := by
  unfold circT
  rw [List.drop_eq_getElem_cons (by simpa using hk), List.findSome?_cons]
  simp only [List.getElem_range]
  cases circ1 rooms ts k <;> rfl
theorem circT_hit {rooms : List Int} {ts : List Guest} {k : Nat} {o : List Int} (hk : k < ts.length) (h : Circ (nxK rooms ts) ts.length k o) : circT rooms ts k = some o := by rw [circT_at hk, circ1_some h]
theorem circT_miss {rooms : List Int} {ts : List Guest} {k : Nat} (hk : k < ts.length) (h : ∀ o, ¬ Circ (nxK rooms ts) ts.length k o) : circT rooms ts k = circT rooms ts (k + 1) := by rw [circT_at hk, circ1_none h]

set_option maxHeartbeats 2000000 in
theorem implCircle_any (v u : Value) (rooms : List Int) (ts : List Guest) (w : World) (hv : SlI w v rooms) (hu : SlGuest w u ts) :
    Calls Try.prog 19 #[v, u] w fun e w' => ∃ A c, e = .returned (.tuple #[.slice A (circR rooms ts).1.length c, .int .i64 (circR rooms ts).2]) ∧ OwI w' w.heap.size (.slice A (circR rooms ts).1.length c) (circR rooms ts).1 ∧ Below w.heap.size w w' := by
  have HV := Lib.hid hv; have HU := Lib.hid hu
  obtain ⟨B, d, rfl, hlb, _⟩ := hu.op
  clear hv hu
  have HNIL := Lib.hid (fun w' : World => owI_nilR w' w.heap.size)
  go_enter Try.func19, Try.ntmps19
  go_wp2_with fail
  refine (validRooms_any _ _ rooms ts _ HV.out HU.out).mono ?_
  rintro e w1 ⟨rfl, hb1⟩
  cases hok : roomsOk rooms ts with
  | false =>
    have E : Hid (circR rooms ts = ([], 1)) := Lib.hid (by unfold circR; rw [hok]; rfl)
    go_wp2
    go_ret2
    exact ⟨none, 0, by rw [E.out]; rfl, by rw [E.out]; exact HNIL.out _, hb1⟩
  | true =>
    have E : Hid (circR rooms ts = (match circT rooms ts 0 with | some o => (o, 0) | none => ([], 3))) := Lib.hid (by unfold circR; rw [hok]; rfl)
    have HOK := Lib.hid hok
    obtain ⟨-, -, h4, -, -⟩ := roomsOk_at hok
    have HB1 := Lib.hid hb1
    clear hok hb1
    go_wp2
    go_loopw [6, 7, 8, 15, 22] (fun _ _ _ i _ wr => ∃ k : Nat, k ≤ ts.length ∧ i = .int .i64 k ∧ Hid (circT rooms ts 0 = circT rooms ts k) ∧ Below w.heap.size w wr) (fun _ _ _ i _ _ => ts.length - (intOf i).toNat)
    case atStart => exact ⟨0, Nat.zero_le _, rfl, Lib.hid rfl, HB1.out⟩
    case round =>
      obtain ⟨k, hk, rfl, hT, hb⟩ := hrel
      by_cases hlt : k < ts.length
      · have hki : (k : Int) < (ts.length : Int) := by omega
        have HMISS : Hid ((∀ o, ¬ Circ (nxK rooms ts) ts.length k o) → circT rooms ts 0 = circT rooms ts (k + 1)) := Lib.hid fun h => hT.out.trans (circT_miss hlt h)
        have HHIT : Hid (∀ o, Circ (nxK rooms ts) ts.length k o → circR rooms ts = (o, 0)) := Lib.hid fun o h => by rw [E.out, hT.out, circT_hit hlt h]
        have HEM := Lib.hid (owI_empty wr w.heap.size hb.size)
        have HBA := Lib.hid (hb.alloc hb.size (.cells #[] 2))
        have HK : Hid (Alive (nxK rooms ts) k 1 ∧ orb (nxK rooms ts) k 0 = (k : Int)) := Lib.hid ⟨alive_one, rfl⟩
        have HOB : Hid (∀ t, orb (nxK rooms ts) k t < (ts.length : Int) ∧ -1 ≤ orb (nxK rooms ts) k t) := Lib.hid (orb_bd hlt)
        clear hb
        go_wp2
        obtain ⟨wo, HWO⟩ : ∃ wo : World, Hid (wo = wr) := ⟨_, Lib.hid rfl⟩
        go_loopw [7, 8, 22] (fun out at' i wr => ∃ (t : Nat) (A2 : Option Addr) (n c2 : Nat) (y : Int), t ≤ ts.length ∧ i = .int .i64 t ∧ at' = .int .i64 y ∧ Hid (y = orb (nxK rooms ts) k t) ∧ out = .slice A2 n c2 ∧ n ≤ 8 ∧ Hid ((orbL (nxK rooms ts) k t).length = n) ∧ OwI wr w.heap.size (.slice A2 n c2) (orbL (nxK rooms ts) k t) ∧ Hid (Alive (nxK rooms ts) k (t + 1)) ∧ Hid (0 ≤ y) ∧ Below w.heap.size w wr) (fun _ _ i _ => ts.length - (intOf i).toNat)
        case atStart => exact ⟨0, _, _, _, _, Nat.zero_le _, rfl, rfl, Lib.hid rfl, rfl, by omega, Lib.hid rfl, HEM.out, Lib.hid HK.out.1, Lib.hid (by omega), HBA.out⟩
        case round =>
          obtain ⟨t, A2, n, c2, y, ht, rfl, rfl, hy, rfl, hn8, hn, hown, hal, hy0, hb⟩ := hrel
          obtain ⟨j, rfl⟩ := Int.eq_ofNat_of_zero_le hy0.out
          by_cases htl : t < ts.length
          · have hti : (t : Int) < (ts.length : Int) := by omega
            have hj : j < ts.length := by have := (HOB.out t).1; rw [← hy.out] at this; omega
            have HC := Lib.hid (fun W (hW : Below w.heap.size w W) => waitsFor_any _ _ rooms ts j W (HV.out.ex hW) (HU.out.ex hW) HOK.out hj)
            have HNX : Hid (orb (nxK rooms ts) k (t + 1) = nxK rooms ts j) := Lib.hid (orb_next hy.out.symm)
            have HY : Hid (orbL (nxK rooms ts) k (t + 1) = orbL (nxK rooms ts) k t ++ [(j : Int)]) := Lib.hid (by rw [orbL_succ, ← hy.out])
            have hn7 : n ≤ 7 := by have h1 := hn.out; rw [orbL_len] at h1; omega
            have HLN : Hid ((orbL (nxK rooms ts) k (t + 1)).length = n + 1) := Lib.hid (by rw [HY.out, List.length_append, hn.out]; rfl)
            have HOW := Lib.hid hown; have HB := Lib.hid hb
            have hz := (HOB.out (t + 1))
            rw [HNX.out] at hz
            have HZ := Lib.hid hz
            generalize nxK rooms ts j = z at HC HNX HZ
            clear hown hb hz
            go_wp2_with (first | (at_builtin; refine wpList_appI wr rfl (.tmp 24) (.tmp 26) rfl w.heap.size w.heap.size w A2 n c2 _ _ _ _ rfl HOW.out hn.out rfl HB.out (Nat.le_refl _) HB.out.size (by omega) ?_; intro A3 c3 w3 hown3 hg3 hsz3 hb3) | fail)
            rw [← HY.out] at hown3
            have HO3 := Lib.hid hown3; have HB3 := Lib.hid hb3
            clear hown3 hb3 hg3 hsz3
            go_wp2_with fail
            refine (HC.out _ HB3.out).mono ?_
            rintro e w4 ⟨rfl, hb4⟩
            have HB4 := Lib.hid (below_next0 HB3.out hb4)
            have HO4 := Lib.hid (HO3.out.ex hb4)
            clear hb4
            by_cases hz0 : z < 0
            · have HM : Hid (circT rooms ts 0 = circT rooms ts (k + 1)) := Lib.hid (HMISS.out (no_circ_neg (t := t + 1) (by omega) hal.out (by rw [HNX.out]; exact hz0)))
              have hzk : (z == (k : Int)) = false := by simp; omega
              go_wp2
              go_roundw
              case rel => exact ⟨k + 1, by omega, by go_num, HM, HB4.out⟩
              case measure => simp [intOf]; omega
            · by_cases hzk : z = (k : Int)
              · have HH : Hid (circR rooms ts = (orbL (nxK rooms ts) k (t + 1), 0)) := Lib.hid (HHIT.out _ (circ_at (by omega) (by omega) hal.out (by rw [HNX.out]; exact hzk)))
                subst hzk
                go_wp2
                go_ret2
                exact ⟨A3, c3, by rw [HH.out]; simp only [HLN.out]; rfl, by rw [HH.out]; simp only [HLN.out]; exact HO4.out, HB4.out⟩
              · have hzk' : (z == (k : Int)) = false := by simpa using hzk
                have HAL : Hid (Alive (nxK rooms ts) k (t + 1 + 1)) := Lib.hid (alive_succ hal.out (by rw [HNX.out]; omega) (by rw [HNX.out]; exact hzk))
                have HZ1 : Hid (z = orb (nxK rooms ts) k (t + 1)) := Lib.hid HNX.out.symm
                have HZ0 : Hid (0 ≤ z) := Lib.hid (by omega)
                clear hzk
                go_wp2
                go_roundw
                case rel => exact ⟨t + 1, A3, n + 1, c3, z, by omega, by go_num, rfl, HZ1, rfl, by omega, HLN, HO4.out, HAL, HZ0, HB4.out⟩
                case measure => simp [intOf]; omega
          · have htn : t = ts.length := by omega
            have HM : Hid (circT rooms ts 0 = circT rooms ts (k + 1)) := Lib.hid (HMISS.out (no_circ_all (by rw [← htn]; exact hal.out)))
            have hjk : ((j : Int) == (k : Int)) = false := by
              have := (hal.out t (by omega) (by omega)).2
              rw [← hy.out] at this
              simpa using this
            clear htn
            go_wp2
            go_roundw
            case rel => exact ⟨k + 1, by omega, by go_num, HM, hb⟩
            case measure => simp [intOf]; omega
      · have hkn : k = ts.length := by omega
        have E2 : Hid (circR rooms ts = ([], 3)) := Lib.hid (by rw [E.out, hT.out, hkn, circT_end])
        subst hkn
        go_wp2
        go_ret2
        exact ⟨none, 0, by rw [E2.out]; rfl, by rw [E2.out]; exact HNIL.out _, hb⟩
end Go.Proofs.Ytedoibgclplnaaa
