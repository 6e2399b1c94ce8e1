/-
math/bits.OnesCount at small numbers; MostGone of the program. Condition: the slices read as lists.
-/
import Derived.Test.YtedoibgclplnaaaRoomK
namespace Go.Proofs.Ytedoibgclplnaaa
open Go.RowKit
set_option linter.unusedVariables false

theorem popc_up {n S : Nat} (hS : S < 2 ^ n) : ∀ m, popc (n + m) S = popc n S
  | 0 => rfl
  | m + 1 => by
    have ih := popc_up hS m
    have hb : S.testBit (n + m) = false := Nat.testBit_lt_two_pow (Nat.lt_of_lt_of_le hS (Nat.pow_le_pow_right (by omega) (by omega)))
    rw [← ih]
    unfold popc
    rw [← Nat.add_assoc, List.range_succ, List.filter_append, List.length_append]
    simp [hb]
theorem popc_le (n S : Nat) : popc n S ≤ n := by
  unfold popc; exact Nat.le_trans (List.length_filter_le _ _) (by simp)
theorem popc_zero (n : Nat) : popc n 0 = 0 := by unfold popc; simp
noncomputable def mxK (n : Nat) (can : Nat → Nat → Bool) (k : Nat) : Nat := ((List.range k).filter (rchB n can)).foldl (fun m S => max m (popc n S)) 0
section
variable {n : Nat} {can : Nat → Nat → Bool}
theorem mxK_yes {k : Nat} (h : rchB n can k = true) : mxK n can (k + 1) = max (mxK n can k) (popc n k) := by
  unfold mxK; rw [List.range_succ, List.filter_append, List.foldl_append]; simp [h]
theorem mxK_no {k : Nat} (h : rchB n can k = false) : mxK n can (k + 1) = mxK n can k := by
  unfold mxK; rw [List.range_succ, List.filter_append, List.foldl_append]; simp [h]
theorem mxK_le : ∀ k, mxK n can k ≤ n
  | 0 => by simp [mxK]
  | k + 1 => by
    have := mxK_le k
    cases h : rchB n can k with
    | true => rw [mxK_yes h]; have := popc_le n k; omega
    | false => rw [mxK_no h]; exact this
theorem mxK_all : ∀ k, (∀ S, S < k → Rch n can 0 S → popc n S ≤ mxK n can k) ∧ ∃ S, Rch n can 0 S ∧ popc n S = mxK n can k
  | 0 => ⟨fun S h => by omega, 0, .zero, by rw [popc_zero]; simp [mxK]⟩
  | k + 1 => by
    obtain ⟨h1, S0, h2, h3⟩ := mxK_all k
    cases h : rchB n can k with
    | true =>
      rw [mxK_yes h]
      refine ⟨fun S hS hr => ?_, ?_⟩
      · by_cases e : S = k
        · subst e; omega
        · have := h1 S (by omega) hr; omega
      · by_cases e : mxK n can k ≤ popc n k
        · exact ⟨k, rchB_iff.1 h, by omega⟩
        · exact ⟨S0, h2, by omega⟩
    | false =>
      rw [mxK_no h]
      refine ⟨fun S hS hr => ?_, S0, h2, h3⟩
      by_cases e : S = k
      · subst e; exact absurd hr (rchB_not.1 h)
      · exact h1 S (by omega) hr
theorem mxK_most (n : Nat) (can : Nat → Nat → Bool) : IsMost n can 0 (mxK n can (2 ^ n)) := by
  obtain ⟨h1, S, h2, h3⟩ := mxK_all (n := n) (can := can) (2 ^ n)
  refine ⟨⟨S, h2, by rw [popc_zero, h3]; omega⟩, fun T hT => ?_⟩
  have := h1 T (hT.lt (Nat.two_pow_pos n)) hT
  rw [popc_zero]; omega
end
noncomputable def mostR (rooms : List Int) (ts : List Guest) : Int × Int := if roomsOk rooms ts = true then (((mxK ts.length (canS rooms ts) (2 ^ ts.length) : Nat) : Int), 0) else (0, 1)

def pc1 (s : Nat) : Nat := (bits .and .u64 ((s : Int) / 2) 6148914691236517205 + bits .and .u64 (s : Int) 6148914691236517205).toNat
def pc2 (s : Nat) : Nat := (bits .and .u64 ((pc1 s : Int) / 4) 3689348814741910323 + bits .and .u64 (pc1 s : Int) 3689348814741910323).toNat
theorem pc1_eq : ∀ s : Nat, s < 256 → IntKind.u64.wrap (bits .and .u64 ((s : Int) / 2) 6148914691236517205 + bits .and .u64 (s : Int) 6148914691236517205) = (pc1 s : Int) ∧ pc1 s < 256 := by decide +kernel
theorem pc2_eq : ∀ s : Nat, s < 256 → IntKind.u64.wrap (bits .and .u64 ((pc1 s : Int) / 4) 3689348814741910323 + bits .and .u64 (pc1 s : Int) 3689348814741910323) = (pc2 s : Int) ∧ pc2 s < 256 := by decide +kernel
theorem pc3_eq : ∀ s : Nat, s < 256 → bits .and .u64 ((pc2 s : Int) / 16 + (pc2 s : Int)) 1085102592571150095 = ((popc 8 s : Nat) : Int) := by decide +kernel
theorem onesFin : ∀ P : Nat, P < 9 → bits .and .i64 ((P : Int) + (P : Int) / 256 + ((P : Int) + (P : Int) / 256) / 65536 + ((P : Int) + (P : Int) / 256 + ((P : Int) + (P : Int) / 256) / 65536) / 4294967296) 127 = (P : Int) := by decide +kernel
theorem ones64_any (s : Nat) (hs : s < 256) (w : World) : Calls Try.prog 87 #[.int .u64 s] w fun e w' => e = .returned (.int .i64 ((popc 8 s : Nat) : Int)) ∧ w = w' := by
  obtain ⟨h1, b1⟩ := pc1_eq s hs
  obtain ⟨h2, b2⟩ := pc2_eq s hs
  have h3 := pc3_eq s hs
  have b3 := popc_le 8 s
  generalize pc1 s = A at h1 h2 b1
  generalize pc2 s = B at h2 h3 b2
  generalize popc 8 s = P at h3 b3 ⊢
  have b3i : (P : Int) ≤ 8 := by omega
  have b2i : (B : Int) < 256 := by omega
  go_enter Try.func87, Try.ntmps87
  go_wp2
  go_ret
  exact ⟨ret_int (onesFin P (by omega)), rfl⟩
theorem ones_any (s : Nat) (hs : s < 256) (w : World) : Calls Try.prog 72 #[.int .u64 s] w fun e w' => e = .returned (.int .i64 ((popc 8 s : Nat) : Int)) ∧ w = w' := by
  have H := Lib.hid (ones64_any s hs w)
  go_enter Try.func72, Try.ntmps72
  go_wp2_with fail
  refine H.out.mono ?_
  rintro e w1 ⟨rfl, rfl⟩
  go_wp2
  go_ret
  exact ⟨rfl, rfl⟩

set_option maxHeartbeats 1000000 in
theorem implMost_any (v u : Value) (rooms : List Int) (ts : List Guest) (w : World) (hv : SlI w v rooms) (hu : SlGuest w u ts) :
    Calls Try.prog 40 #[v, u] w fun e w' => e = .returned (.tuple #[.int .i64 (mostR rooms ts).1, .int .i64 (mostR rooms ts).2]) ∧ Below w.heap.size w w' := by
  have HV := Lib.hid hv; have HU := Lib.hid hu
  obtain ⟨B, d, rfl, hlb, _⟩ := hu.op
  clear hv hu
  go_enter Try.func40, Try.ntmps40
  go_wp2_with fail
  refine (validRooms_any _ _ rooms ts _ HV.out HU.out).mono ?_
  rintro e w1 ⟨rfl, hb1⟩
  cases hok : roomsOk rooms ts with
  | false =>
    have E : Hid (mostR rooms ts = (0, 1)) := Lib.hid (by unfold mostR; rw [hok]; rfl)
    go_wp2
    go_ret2
    exact ⟨by rw [E.out]; rfl, hb1⟩
  | true =>
    have E : Hid (mostR rooms ts = (((mxK ts.length (canS rooms ts) (2 ^ ts.length) : Nat) : Int), 0)) := Lib.hid (by unfold mostR; rw [hok]; rfl)
    have HOK := Lib.hid hok
    obtain ⟨-, -, h4, -, -⟩ := roomsOk_at hok
    have hp8 := pow_le8 h4
    have HB1 := Lib.hid hb1
    clear hok hb1
    have HRS := Lib.hid (reachedSets_any _ _ rooms ts w1 (HV.out.ex HB1.out) (HU.out.ex HB1.out) HOK.out)
    obtain ⟨N, HN⟩ : ∃ N : Nat, Hid (2 ^ ts.length = N) := ⟨_, Lib.hid rfl⟩
    rw [HN.out] at hp8 HRS E
    have HPC : Hid (∀ S, S < N → popc 8 S = popc ts.length S) := Lib.hid fun S hS => by
      rw [← HN.out] at hS
      have := popc_up hS (8 - ts.length)
      rw [← this]; congr 1; omega
    go_wp2_with fail
    refine HRS.out.mono ?_
    rintro e w2 ⟨A, c, rfl, hown, hb2⟩
    have HB2 := Lib.hid (below_next0 HB1.out hb2)
    have HO := Lib.hid hown
    clear hown hb2
    go_wp2
    go_loop [6, 7, 8, 17] (fun m _ _ i => ∃ k : Nat, k ≤ N ∧ i = .int .i64 k ∧ m = .int .i64 ((mxK ts.length (canS rooms ts) k : Nat) : Int)) (fun _ _ _ i => N - (intOf i).toNat)
    case atStart => exact ⟨0, Nat.zero_le _, rfl, rfl⟩
    case round =>
      obtain ⟨k, hk, rfl, rfl⟩ := hrel
      have hm8 := mxK_le (n := ts.length) (can := canS rooms ts) k
      by_cases hlt : k < N
      · have hki : (k : Int) < (N : Int) := by omega
        obtain ⟨g, rfl, hlo, hgl, hcell, -⟩ := owB_at HO.out (by rw [rchL_len, HN.out]) hlt
        rw [rchL_at] at hcell
        have HY := Lib.hid (fun h => mxK_yes (n := ts.length) (can := canS rooms ts) (k := k) h)
        have HNO := Lib.hid (fun h => mxK_no (n := ts.length) (can := canS rooms ts) (k := k) h)
        have HP := Lib.hid (HPC.out k hlt)
        have hp8k := popc_le 8 k
        have HON := Lib.hid (fun W => ones_any k (by omega) W)
        rw [HP.out] at HON hp8k
        generalize mxK ts.length (canS rooms ts) k = m at HY HNO hm8 ⊢
        generalize popc ts.length k = p at HY HON hp8k
        generalize rchB ts.length (canS rooms ts) k = r at hcell HY HNO
        cases r with
        | false =>
          have HE := Lib.hid (HNO.out rfl)
          go_wp2
          go_round
          case rel => exact ⟨k + 1, by omega, by go_num, by rw [HE.out]⟩
          case measure => simp [intOf]; omega
        | true =>
          have HE := Lib.hid (HY.out rfl)
          by_cases hmp : m < p
          · have hmi : (m : Int) < (p : Int) := by omega
            go_wp2_with (go_at_call 72; refine (HON.out _).mono ?_; rintro e w3 ⟨rfl, rfl⟩)
            go_round
            case rel => exact ⟨k + 1, by omega, by go_num, by rw [HE.out]; congr 1; omega⟩
            case measure => simp [intOf]; omega
          · have hmi : (p : Int) ≤ (m : Int) := by omega
            go_wp2_with (go_at_call 72; refine (HON.out _).mono ?_; rintro e w3 ⟨rfl, rfl⟩)
            go_round
            case rel => exact ⟨k + 1, by omega, by go_num, by rw [HE.out]; congr 1; omega⟩
            case measure => simp [intOf]; omega
      · have hkn : k = N := by omega
        subst hkn
        go_wp2
        go_ret2
        exact ⟨by rw [E.out]; rfl, HB2.out⟩
end Go.Proofs.Ytedoibgclplnaaa
