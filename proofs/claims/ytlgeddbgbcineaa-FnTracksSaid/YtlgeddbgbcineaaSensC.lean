/-
CountSeen of the program and of the reference. Condition: the slices read as lists.
-/
import Derived.Test.YtlgeddbgbcineaaSensB
import Derived.Test.YtlgeddbgbcineaaMarkII
namespace Go.Proofs.Ytlgeddbgbcineaa
open Go.RowKit
set_option linter.unusedVariables false

def addAt (l : List Int) (i : Nat) : List Int := l.set i (l.getD i 0 + 1)
def seenK (ts : List Reading) (n k : Nat) : List Int := (ts.take k).foldl (fun l r => addAt l r.sensor.toNat) (List.replicate n 0)
theorem addAt_len (l : List Int) (i : Nat) : (addAt l i).length = l.length := by simp [addAt]
theorem seenK_succ {ts : List Reading} {n k : Nat} (hk : k < ts.length) : seenK ts n (k + 1) = addAt (seenK ts n k) ts[k].sensor.toNat := by
  unfold seenK; rw [List.take_succ_eq_append_getElem hk, List.foldl_append]; rfl
theorem seenK_inv (ts : List Reading) (n : Nat) : ∀ k : Nat, k ≤ ts.length → (seenK ts n k).length = n ∧ ∀ x ∈ seenK ts n k, 0 ≤ x ∧ x ≤ (k : Int)
  | 0, _ => by simp [seenK]
  | k + 1, hk => by
    obtain ⟨h1, h2⟩ := seenK_inv ts n k (by omega)
    rw [seenK_succ (by omega)]
    refine ⟨by rw [addAt_len, h1], fun x hx => ?_⟩
    unfold addAt at hx
    rcases List.mem_or_eq_of_mem_set hx with hx | rfl
    · have := h2 x hx; omega
    · by_cases hi : ts[k].sensor.toNat < (seenK ts n k).length
      · rw [List.getD_eq_getElem?_getD, List.getElem?_eq_getElem hi]
        have := h2 _ (List.getElem_mem hi)
        simp only [Option.getD_some]; omega
      · rw [List.getD_eq_getElem?_getD, List.getElem?_eq_none (by omega)]
        simp only [Option.getD_none]; omega
def seenR (gs : List (List Int)) (ts : List Reading) : List Int × Int := if readsOk gs ts = true then (seenK ts (gs.length + 1) ts.length, 0) else ([], 1)
theorem readsOk_at {gs : List (List Int)} {ts : List Reading} (h : readsOk gs ts = true) : gs.length < 8 ∧ ts.length ≤ 14 ∧ ∀ (k : Nat) (hk : k < ts.length), 0 ≤ ts[k].sensor ∧ ts[k].sensor ≤ (gs.length : Int) := by
  simp only [readsOk, gapsOk, Bool.and_eq_true, decide_eq_true_eq, List.all_eq_true] at h
  refine ⟨h.1.1.2, h.1.2, fun k hk => ?_⟩
  have := h.2 _ (List.getElem_mem hk)
  simp only [Reading.fits, Bool.and_eq_true, inB_iff] at this
  exact this.1
theorem owI_nilS (w : World) (lo : Nat) : OwI w lo (.slice none 0 0) [] := ⟨World.ownsRow_nil _ _ _ _, by simp⟩

set_option maxHeartbeats 1000000 in
theorem specSeen_any (v u : Value) (gs : List (List Int)) (ts : List Reading) (w : World) (hv : SlII w v gs) (hu : SlReading w u ts) :
    Calls Try.prog 32 #[v, u] w fun e w' => ∃ A c, e = .returned (.tuple #[.slice A (seenR gs ts).1.length c, .int .i64 (seenR gs ts).2]) ∧ OwI w' w.heap.size (.slice A (seenR gs ts).1.length c) (seenR gs ts).1 ∧ Below w.heap.size w w' := by
  have HV := Lib.hid hv; have HU := Lib.hid hu
  obtain ⟨G, gc, rfl, hlg, _⟩ := hv.op
  obtain ⟨A, c, rfl, hla, ha⟩ := hu.op
  have HA := Lib.hid ha
  clear hv hu ha
  have HNIL := Lib.hid (fun w' : World => owI_nilS w' w.heap.size)
  go_enter Try.func32, Try.ntmps32
  go_wp2_with fail
  refine (l14Ok_any _ _ gs ts _ HV.out HU.out).mono ?_
  rintro e w1 ⟨rfl, hb1⟩
  cases hok : readsOk gs ts with
  | false =>
    have E : Hid (seenR gs ts = ([], 1)) := Lib.hid (by unfold seenR; rw [hok]; rfl)
    go_wp2
    go_ret2
    exact ⟨none, 0, by rw [E.out]; rfl, by rw [E.out]; exact HNIL.out _, hb1⟩
  | true =>
    have E : Hid (seenR gs ts = (seenK ts (gs.length + 1) ts.length, 0)) := Lib.hid (by unfold seenR; rw [hok]; rfl)
    obtain ⟨hg8, ht14, hfit⟩ := readsOk_at hok
    have HFIT := Lib.hid hfit
    have HB1 := Lib.hid hb1
    clear hok hfit hb1
    have hnc : (gs.length : Int) + 1 = ((gs.length + 1 : Nat) : Int) := by omega
    generalize hn : gs.length + 1 = n at hnc E
    have hn9 : n ≤ 8 := by omega
    go_wp2_with (with_reducible refine wpList_make1 _ rfl (.tmp 14) (.tmp 14) _ rfl w.heap.size 2 (.int .i64 0) 8 Try.underlying49 infoI rfl _ _ n rfl rfl (by omega) (by omega) HB1.out.size ?_; intro w2 hown hb hsz)
    have HOW : Hid (OwI w2 w.heap.size (.slice (some ⟨w1.heap.size, 0, none⟩) n n) (seenK ts n 0)) := Lib.hid (by simpa [OwI, seenK] using hown)
    have HB2 := Lib.hid (below_next0 HB1.out hb)
    have hlo1 := HB1.out.size
    clear hown hb
    go_wp2
    go_loopw [7] (fun i wr => ∃ k : Nat, k ≤ ts.length ∧ i = .int .i64 k ∧ OwI wr w.heap.size (.slice (some ⟨w1.heap.size, 0, none⟩) n n) (seenK ts n k) ∧ Below w.heap.size w wr) (fun i _ => ts.length - (intOf i).toNat)
    case atStart => exact ⟨0, Nat.zero_le _, rfl, HOW.out, HB2.out⟩
    case round =>
      obtain ⟨k, hk, rfl, hown, hb⟩ := hrel
      by_cases hlt : k < ts.length
      · obtain ⟨b, o, rfl, hbs, hc0, hc1⟩ := HA.out k hlt
        have hx0 := (hb.cell (p := ⟨b, o + k * 2, none⟩) hbs).trans hc0
        have hx1 := (hb.cell (p := ⟨b, o + k * 2 + 1, none⟩) hbs).trans hc1
        have hlti : (k : Int) < (ts.length : Int) := by omega
        obtain ⟨hf1, hf2⟩ := HFIT.out k hlt
        have HS := Lib.hid (seenK_succ (n := n) hlt)
        obtain ⟨hinv1, hinv2⟩ := seenK_inv ts n k (by omega)
        generalize ts[k].sensor = x at hx0 hf1 hf2 HS
        generalize ts[k].tick = y at hx1
        obtain ⟨j, rfl⟩ := Int.eq_ofNat_of_zero_le hf1
        have hj : j < n := by omega
        generalize seenK ts n k = l at hown hinv1 hinv2 HS
        have hjl : j < l.length := by omega
        have hadd : addAt l (j : Int).toNat = l.set j (l[j] + 1) := by simp [addAt, List.getD_eq_getElem?_getD, hjl]
        rw [hadd] at HS
        replace hown : OwI wr w.heap.size (.slice (some ⟨w1.heap.size, 0, none⟩) l.length n) l := by rw [hinv1]; exact hown
        have hcj := OwI.cell hown hjl
        have hfj := OwI.free hown j
        have hltg : w1.heap.size < wr.heap.size := (OwI.lt hown _ rfl).2
        obtain ⟨hxj1, hxj2⟩ := hinv2 _ (List.getElem_mem hjl)
        have hn0 := OwI.set hown j (l[j] + 1)
        rw [hinv1] at hn0
        have HN := Lib.hid hn0
        have HB3 := Lib.hid (hb.setCell (p := ⟨w1.heap.size, j, none⟩) hlo1 (.int .i64 (l[j] + 1)))
        generalize l[j] = z at hcj hxj1 hxj2 HS HN HB3
        clear hc0 hc1 hown hb hinv2 hadd hn0
        go_wp2
        go_roundw
        case rel => exact ⟨k + 1, by omega, by go_num, by rw [HS.out]; exact HN.out, HB3.out⟩
        case measure => simp [intOf]; omega
      · have hkn : k = ts.length := by omega
        subst hkn
        have HO2 := Lib.hid hown
        clear hown
        have hln := (seenK_inv ts n ts.length (Nat.le_refl _)).1
        go_wp2
        go_ret2
        exact ⟨some ⟨w1.heap.size, 0, none⟩, n, by rw [E.out]; simp only [hln]; rfl, by rw [E.out]; simp only [hln]; exact HO2.out, hb⟩

set_option maxHeartbeats 1000000 in
theorem implSeen_any (v u : Value) (gs : List (List Int)) (ts : List Reading) (w : World) (hv : SlII w v gs) (hu : SlReading w u ts) :
    Calls Try.prog 33 #[v, u] w fun e w' => ∃ A c, e = .returned (.tuple #[.slice A (seenR gs ts).1.length c, .int .i64 (seenR gs ts).2]) ∧ OwI w' w.heap.size (.slice A (seenR gs ts).1.length c) (seenR gs ts).1 ∧ Below w.heap.size w w' := by
  have HV := Lib.hid hv; have HU := Lib.hid hu
  obtain ⟨G, gc, rfl, hlg, _⟩ := hv.op
  obtain ⟨A, c, rfl, hla, ha⟩ := hu.op
  have HA := Lib.hid ha
  clear hv hu ha
  have HNIL := Lib.hid (fun w' : World => owI_nilS w' w.heap.size)
  go_enter Try.func33, Try.ntmps33
  go_wp2_with fail
  refine (validReadings_any _ _ gs ts _ HV.out HU.out).mono ?_
  rintro e w1 ⟨rfl, hb1⟩
  cases hok : readsOk gs ts with
  | false =>
    have E : Hid (seenR gs ts = ([], 1)) := Lib.hid (by unfold seenR; rw [hok]; rfl)
    go_wp2
    go_ret2
    exact ⟨none, 0, by rw [E.out]; rfl, by rw [E.out]; exact HNIL.out _, hb1⟩
  | true =>
    have E : Hid (seenR gs ts = (seenK ts (gs.length + 1) ts.length, 0)) := Lib.hid (by unfold seenR; rw [hok]; rfl)
    obtain ⟨hg8, ht14, hfit⟩ := readsOk_at hok
    have HFIT := Lib.hid hfit
    have HB1 := Lib.hid hb1
    clear hok hfit hb1
    have hnc : (gs.length : Int) + 1 = ((gs.length + 1 : Nat) : Int) := by omega
    generalize hn : gs.length + 1 = n at hnc E
    have hn9 : n ≤ 8 := by omega
    go_wp2_with (with_reducible refine wpList_make1 _ rfl (.tmp 15) (.tmp 15) _ rfl w.heap.size 2 (.int .i64 0) 8 Try.underlying49 infoI rfl _ _ n rfl rfl (by omega) (by omega) HB1.out.size ?_; intro w2 hown hb hsz)
    have HOW : Hid (OwI w2 w.heap.size (.slice (some ⟨w1.heap.size, 0, none⟩) n n) (seenK ts n 0)) := Lib.hid (by simpa [OwI, seenK] using hown)
    have HB2 := Lib.hid (below_next0 HB1.out hb)
    have hlo1 := HB1.out.size
    clear hown hb
    go_wp2
    go_loopw [19] (fun i wr => ∃ k : Nat, k ≤ ts.length ∧ i = .int .i64 k ∧ OwI wr w.heap.size (.slice (some ⟨w1.heap.size, 0, none⟩) n n) (seenK ts n k) ∧ Below w.heap.size w wr) (fun i _ => ts.length - (intOf i).toNat)
    case atStart => exact ⟨0, Nat.zero_le _, rfl, HOW.out, HB2.out⟩
    case round =>
      obtain ⟨k, hk, rfl, hown, hb⟩ := hrel
      by_cases hlt : k < ts.length
      · obtain ⟨b, o, rfl, hbs, hc0, hc1⟩ := HA.out k hlt
        have hx0 := (hb.cell (p := ⟨b, o + k * 2, none⟩) hbs).trans hc0
        have hx1 := (hb.cell (p := ⟨b, o + k * 2 + 1, none⟩) hbs).trans hc1
        have hlti : (k : Int) < (ts.length : Int) := by omega
        obtain ⟨hf1, hf2⟩ := HFIT.out k hlt
        have HS := Lib.hid (seenK_succ (n := n) hlt)
        obtain ⟨hinv1, hinv2⟩ := seenK_inv ts n k (by omega)
        generalize ts[k].sensor = x at hx0 hf1 hf2 HS
        generalize ts[k].tick = y at hx1
        obtain ⟨j, rfl⟩ := Int.eq_ofNat_of_zero_le hf1
        have hj : j < n := by omega
        generalize seenK ts n k = l at hown hinv1 hinv2 HS
        have hjl : j < l.length := by omega
        have hadd : addAt l (j : Int).toNat = l.set j (l[j] + 1) := by simp [addAt, List.getD_eq_getElem?_getD, hjl]
        rw [hadd] at HS
        replace hown : OwI wr w.heap.size (.slice (some ⟨w1.heap.size, 0, none⟩) l.length n) l := by rw [hinv1]; exact hown
        have hcj := OwI.cell hown hjl
        have hfj := OwI.free hown j
        have hltg : w1.heap.size < wr.heap.size := (OwI.lt hown _ rfl).2
        obtain ⟨hxj1, hxj2⟩ := hinv2 _ (List.getElem_mem hjl)
        have hn0 := OwI.set hown j (l[j] + 1)
        rw [hinv1] at hn0
        have HN := Lib.hid (Ow.alloc hn0 (.cells #[.int .i64 (j : Int), .int .i64 y] 35))
        have HB3 := Lib.hid ((hb.setCell (p := ⟨w1.heap.size, j, none⟩) hlo1 (.int .i64 (l[j] + 1))).alloc (by simp; exact hb.size) (.cells #[.int .i64 (j : Int), .int .i64 y] 35))
        generalize l[j] = z at hcj hxj1 hxj2 HS HN HB3
        clear hc0 hc1 hown hb hinv2 hadd hn0
        go_wp2
        go_roundw
        case rel => exact ⟨k + 1, by omega, by go_num, by rw [HS.out]; exact HN.out, HB3.out⟩
        case measure => simp [intOf]; omega
      · have hkn : k = ts.length := by omega
        subst hkn
        have HO2 := Lib.hid hown
        clear hown
        have hln := (seenK_inv ts n ts.length (Nat.le_refl _)).1
        go_wp2
        go_ret2
        exact ⟨some ⟨w1.heap.size, 0, none⟩, n, by rw [E.out]; simp only [hln]; rfl, by rw [E.out]; simp only [hln]; exact HO2.out, hb⟩
end Go.Proofs.Ytlgeddbgbcineaa
