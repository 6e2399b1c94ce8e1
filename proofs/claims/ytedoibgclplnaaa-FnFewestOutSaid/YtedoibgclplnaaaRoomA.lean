/-
Rooms and guests: the free places, validity, by their contracts. Condition: the slices read as lists.
-/
import Derived.Test.YtedoibgclplnaaaCommon
import Derived.Test.YtedoibgclplnaaaConGuest
import Derived.Test.YtedoibgclplnaaaOwn
namespace Go.Proofs.Ytedoibgclplnaaa
open Go.RowKit
set_option linter.unusedVariables false

def Guest.fits (last : Int) (g : Guest) : Bool := inB g.here (-1) last && inB g.wants (-1) last
theorem Guest.fitsd {last : Int} {g : Guest} (h : Guest.fits last g = true) : (-1 ≤ g.here ∧ g.here ≤ last) ∧ (-1 ≤ g.wants ∧ g.wants ≤ last) := by
  simp only [Guest.fits, Bool.and_eq_true, inB_iff] at h; exact h
def lastR (rooms : List Int) : Int := (rooms.length : Int) - 1
def decR (l : List Int) (g : Guest) : List Int := if 0 ≤ g.here then l.set g.here.toNat (l.getD g.here.toNat 0 - 1) else l
def freeK (rooms : List Int) (ts : List Guest) (k : Nat) : List Int := (ts.take k).foldl decR rooms
theorem freeK_succ {rooms : List Int} {ts : List Guest} {k : Nat} (hk : k < ts.length) : freeK rooms ts (k + 1) = decR (freeK rooms ts k) ts[k] := by
  unfold freeK; rw [List.take_succ_eq_append_getElem hk, List.foldl_append]; rfl
theorem decR_len (l : List Int) (g : Guest) : (decR l g).length = l.length := by unfold decR; split <;> simp
theorem freeK_inv {rooms : List Int} (hr : ∀ x ∈ rooms, 1 ≤ x ∧ x ≤ 4) (ts : List Guest) : ∀ k : Nat, k ≤ ts.length → (freeK rooms ts k).length = rooms.length ∧ ∀ x ∈ freeK rooms ts k, -(k : Int) ≤ x ∧ x ≤ 4
  | 0, _ => ⟨by simp [freeK], fun x hx => by have := hr x (by simpa [freeK] using hx); omega⟩
  | k + 1, hk => by
    obtain ⟨h1, h2⟩ := freeK_inv hr ts k (by omega)
    rw [freeK_succ (by omega)]
    refine ⟨by rw [decR_len, h1], fun x hx => ?_⟩
    unfold decR at hx
    split at hx
    · rcases List.mem_or_eq_of_mem_set hx with hx | rfl
      · have := h2 x hx; omega
      · by_cases hi : ts[k].here.toNat < (freeK rooms ts k).length
        · rw [List.getD_eq_getElem?_getD, List.getElem?_eq_getElem hi]
          have := h2 _ (List.getElem_mem hi)
          simp only [Option.getD_some]; omega
        · rw [List.getD_eq_getElem?_getD, List.getElem?_eq_none (by omega)]
          simp only [Option.getD_none]; omega
    · have := h2 x hx; omega
def nonnegB (l : List Int) : Bool := l.all fun x => decide (0 ≤ x)
theorem nonnegB_iff {l : List Int} : nonnegB l = true ↔ ∀ x ∈ l, 0 ≤ x := by simp [nonnegB]
theorem nonnegB_set {l : List Int} {j : Nat} (hj : j < l.length) : nonnegB (l.set j (l[j] - 1)) = (nonnegB l && decide (0 ≤ l[j] - 1)) := by
  rw [Bool.eq_iff_iff, Bool.and_eq_true, nonnegB_iff, nonnegB_iff, decide_eq_true_iff]
  constructor
  · intro h
    have h1 : 0 ≤ l[j] - 1 := h _ (List.mem_set hj _)
    refine ⟨fun x hx => ?_, h1⟩
    obtain ⟨i, hi, rfl⟩ := List.mem_iff_getElem.1 hx
    by_cases hij : j = i
    · subst hij; omega
    · refine h _ (List.mem_iff_getElem.2 ⟨i, by simpa using hi, by simp [hij]⟩)
  · rintro ⟨h1, h2⟩ x hx
    rcases List.mem_or_eq_of_mem_set hx with hx | rfl
    · exact h1 x hx
    · exact h2

theorem freePlaces_any (v u : Value) (rooms : List Int) (ts : List Guest) (w : World) (hv : SlI w v rooms) (hu : SlGuest w u ts) (hr : ∀ x ∈ rooms, 1 ≤ x ∧ x ≤ 4) (hl : rooms.length ≤ 1048576)
    (hg : ∀ (k : Nat) (hk : k < ts.length), Guest.fits (lastR rooms) ts[k] = true) (hts : ts.length ≤ 1048576) :
    Calls Try.prog 57 #[v, u] w fun e w' => ∃ A c, e = .returned (.slice A rooms.length c) ∧ OwI w' w.heap.size (.slice A rooms.length c) (freeK rooms ts ts.length) ∧ Below w.heap.size w w' := by
  have HV := Lib.hid hv
  obtain ⟨A, c, rfl, hla, ha⟩ := hu.op
  have HA := Lib.hid ha; have HG := Lib.hid hg; have HI := Lib.hid (freeK_inv hr ts)
  have H0 : Hid (freeK rooms ts 0 = rooms) := Lib.hid (by simp [freeK])
  clear hv hu ha hg hr
  go_enter Try.func57, Try.ntmps57
  go_wp2_with fail
  refine (cloneI_any _ rooms _ HV.out hl).mono ?_
  rintro e w1 ⟨A1, c1, rfl, hown, hb⟩
  rw [← H0.out] at hown
  have hlen0 : (freeK rooms ts 0).length = rooms.length := by rw [H0.out]
  rw [hlen0] at hown
  have HO := Lib.hid hown; have HB := Lib.hid hb
  clear hown hb hlen0
  go_wp2
  go_loopw [12] (fun i wr => ∃ k : Nat, k ≤ ts.length ∧ i = .int .i64 k ∧ OwI wr w.heap.size (.slice A1 rooms.length c1) (freeK rooms ts k) ∧ Below w.heap.size w wr) (fun i _ => ts.length - (intOf i).toNat)
  case atStart => exact ⟨0, Nat.zero_le _, rfl, HO.out, HB.out⟩
  case round =>
    obtain ⟨k, hk, rfl, hown, hb⟩ := hrel
    by_cases hlt : k < ts.length
    · obtain ⟨b, o, rfl, hbs, hc0, hc1⟩ := HA.out k hlt
      have hx0 := (hb.cell (p := ⟨b, o + k * 2, none⟩) hbs).trans hc0
      have hx1 := (hb.cell (p := ⟨b, o + k * 2 + 1, none⟩) hbs).trans hc1
      have hlti : (k : Int) < (ts.length : Int) := by omega
      have hf := Guest.fitsd (HG.out k hlt)
      have HS := Lib.hid (freeK_succ (rooms := rooms) hlt)
      obtain ⟨hin1, hin2⟩ := HI.out k hk
      generalize ts[k] = x at hx0 hx1 hf HS
      obtain ⟨x0, x1⟩ := x
      dsimp only at hx0 hx1 hf
      obtain ⟨⟨hf1, hf2⟩, -⟩ := hf
      clear hc0 hc1
      by_cases hneg : 0 ≤ x0
      · obtain ⟨j, rfl⟩ := Int.eq_ofNat_of_zero_le hneg
        have hj : j < rooms.length := by unfold lastR at hf2; omega
        generalize freeK rooms ts k = l at hown hin1 hin2 HS
        have hjl : j < l.length := by omega
        have hS2 : decR l ⟨(j : Int), x1⟩ = l.set j (l[j] - 1) := by simp [decR, List.getD_eq_getElem?_getD, hjl]
        rw [hS2] at HS
        replace hown : OwI wr w.heap.size (.slice A1 l.length c1) l := by rw [hin1]; exact hown
        rcases Ow.form hown with ⟨_, h0, _⟩ | ⟨g, c4, hA2, hlo, hltg, _⟩
        · omega
        · injection hA2 with hA2 _ hc2
          subst hA2 hc2
          have hcj := OwI.cell hown hjl
          have hfj := OwI.free hown j
          have hxj := hin2 _ (List.getElem_mem hjl)
          obtain ⟨hxj1, hxj2⟩ := hxj
          have hn0 := OwI.set hown j (l[j] - 1)
          rw [hin1] at hn0
          have HN := Lib.hid (Ow.alloc hn0 (.cells #[.int .i64 (j : Int), .int .i64 x1] 34))
          have HB2 := Lib.hid ((hb.setCell (p := ⟨g, j, none⟩) hlo (.int .i64 (l[j] - 1))).alloc (by simp; exact hb.size) (.cells #[.int .i64 (j : Int), .int .i64 x1] 34))
          generalize l[j] = y at hcj hxj1 hxj2 HS HN HB2
          clear hown hin2 hS2 hf1 hf2 hneg hn0
          go_wp2
          go_roundw
          case rel => exact ⟨k + 1, by omega, by go_num, by rw [HS.out]; exact HN.out, HB2.out⟩
          case measure => simp [intOf]; omega
      · obtain rfl : x0 = -1 := by omega
        have hS2 : decR (freeK rooms ts k) ⟨-1, x1⟩ = freeK rooms ts k := by simp [decR]
        rw [hS2] at HS
        have HN := Lib.hid (Ow.alloc hown (.cells #[.int .i64 (-1), .int .i64 x1] 34))
        have HB2 := Lib.hid (hb.alloc hb.size (.cells #[.int .i64 (-1), .int .i64 x1] 34))
        clear hown hS2 hneg hf1
        go_wp2
        go_roundw
        case rel => exact ⟨k + 1, by omega, by go_num, by rw [HS.out]; exact HN.out, HB2.out⟩
        case measure => simp [intOf]; omega
    · have hkn : k = ts.length := by omega
      subst hkn
      have HO2 := Lib.hid hown; clear hown
      go_wp2
      go_ret
      exact ⟨A1, c1, rfl, HO2.out, hb⟩
end Go.Proofs.Ytedoibgclplnaaa
