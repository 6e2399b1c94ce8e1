/-
slices.Compact at int64, of a row of the call's own: it gets shorter just when two neighbours are equal. Condition: the row reads as a list.
-/
import Derived.Test.YtegabdhmfemgkaaOwn
import Derived.Test.YtegabdhmfemgkaaSub
import Derived.Test.YtegabdhmfemgkaaGrs
import Derived.Lib.SliceRun
import Derived.Deep.Upon
import Derived.Deep.LoopGhost
namespace Go.Proofs.Ytegabdhmfemgkaa
open Go.RowKit
set_option linter.unusedVariables false

/-- whether two neighbours are equal -/
def adjB (xs : List Int) : Bool := (List.range xs.length).any fun k => decide (k ≠ 0) && (xs.getD (k - 1) 0 == xs.getD k 0)
theorem adjB_false {xs : List Int} : adjB xs = false ↔ ∀ (k : Nat) (hk : k < xs.length), k ≠ 0 → xs[k - 1]'(by omega) ≠ xs[k] := by
  unfold adjB
  rw [List.any_eq_false]
  constructor
  · intro h k hk h0 he
    have := h k (by simpa using hk)
    simp [h0, List.getD_eq_getElem?_getD, hk, show k - 1 < xs.length from by omega, he] at this
  · intro h k hk
    have hk : k < xs.length := by simpa using hk
    by_cases h0 : k = 0
    · simp [h0]
    · have := h k hk h0
      simp [h0, List.getD_eq_getElem?_getD, hk, show k - 1 < xs.length from by omega, this]
theorem adjB_true {xs : List Int} {k : Nat} (hk : k < xs.length) (h0 : k ≠ 0) (h : xs[k - 1]'(by omega) = xs[k]) : adjB xs = true := by
  cases ha : adjB xs with
  | true => rfl
  | false => exact absurd h (adjB_false.1 ha k hk h0)
theorem zeroI (w : World) : (zeroValue 2).run Try.prog w = .ok (.int .i64 0) w := by kernel_rfl
theorem GrS.setCells (w : World) (g o : Nat) : ∀ (vs : List Value), GrS (fun k => k = g) w (w.setCells g o vs) := fun vs => by
  have : ∀ (vs : List Value) (o : Nat) (w : World), GrS (fun k => k = g) w (w.setCells g o vs) := by
    intro vs
    induction vs with
    | nil => intro o w; exact GrS.refl _ _
    | cons v r ih => intro o w; exact (GrS.set (R := fun k => k = g) (p := ⟨g, o, none⟩) rfl v).trans (ih (o + 1) _)
  exact this vs o w

set_option maxRecDepth 100000 in
set_option maxHeartbeats 2000000 in
theorem compactI_any (g n c lo : Nat) (xs : List Int) (w : World) (hown : OwI w lo (.slice (some ⟨g, 0, none⟩) n c) xs) (hn : xs.length = n) :
    Calls Try.prog 74 #[.slice (some ⟨g, 0, none⟩) n c] w fun e w' => ∃ m c', e = .returned (.slice (some ⟨g, 0, none⟩) m c') ∧ (m < n ↔ adjB xs = true) ∧ m ≤ n ∧ GrS (fun k => k = g) w w' := by
  have hcap : n ≤ c := Ow.cap hown _ _ _ rfl
  have hle := hown.sl.le
  have hc64 : c ≤ 9223372036854775807 := by
    rcases hown.own.2 with ⟨h, _⟩ | ⟨g', cap, cur, h, _, _, _, hm, _⟩
    · cases h
    · injection h with _ _ h3
      unfold maxLen at hm
      omega
  have how : Ow w lo 2 1 (.slice (some ⟨g, 0, none⟩) n c) n (xs.map (Value.int .i64)) := by have := hown; unfold OwI at this; rwa [hn] at this
  have HOW := Lib.hid how; have HN := Lib.hid hn
  have HAF : Hid ((∀ (k : Nat) (hk : k < xs.length), k ≠ 0 → xs[k - 1]'(Nat.lt_of_le_of_lt (Nat.sub_le k 1) hk) ≠ xs[k]) → adjB xs = false) := Lib.hid adjB_false.2
  have HAT : Hid (∀ (k : Nat) (hk : k < xs.length), k ≠ 0 → xs[k - 1]'(Nat.lt_of_le_of_lt (Nat.sub_le k 1) hk) = xs[k] → adjB xs = true) := Lib.hid fun k hk h0 h => adjB_true hk h0 h
  clear hown how
  by_cases h2 : n < 2
  · have hAF : Hid (adjB xs = false) := Lib.hid (HAF.out fun k hk h0 => by have := HN.out; omega)
    have h2i : (n : Int) < 2 := by omega
    clear hn
    go_enter Try.func74, Try.ntmps74
    go_wp2
    go_ret
    exact ⟨n, c, rfl, by rw [hAF.out]; simp, Nat.le_refl _, GrS.refl _ _⟩
  · have h2i : ¬ (n : Int) < 2 := by omega
    have hln : xs.length ≤ 17592186044416 := hle
    rw [hn] at hle
    clear hn
    go_enter Try.func74, Try.ntmps74
    go_wp2
    go_loopw [3] (fun i wr => ∃ (k q : Nat), 1 ≤ k ∧ k ≤ n ∧ i = .int .i64 (k : Int) ∧ Hid (∀ (j : Nat) (hj : j < xs.length), j ≠ 0 → j < k → xs[j - 1]'(Nat.lt_of_le_of_lt (Nat.sub_le j 1) hj) ≠ xs[j]) ∧ wr = w.drewN q) (fun i _ => n - (intOf i).toNat)
    case atStart => exact ⟨1, 0, Nat.le_refl _, by omega, rfl, Lib.hid (fun j _ h1 h2 => by omega), rfl⟩
    case round =>
      obtain ⟨k, q, hk1, hk, rfl, hno, rfl⟩ := hrel
      by_cases hlt : k < n
      · have hki : (k : Int) < (n : Int) := by omega
        have hkx : k < xs.length := by rw [HN.out]; exact hlt
        have hcell := HOW.out.cell (k := k) (by rw [List.length_map]; exact hkx)
        have hcell0 := HOW.out.cell (k := k - 1) (by rw [List.length_map]; omega)
        rw [List.getElem_map] at hcell hcell0
        have hkm : ((k : Int) - 1).toNat = k - 1 := by omega
        have hkn : (0 : Int) ≤ (k : Int) - 1 := by omega
        have hkl : (k : Int) - 1 < (n : Int) := by omega
        have HNX : Hid (xs[k - 1]'(Nat.lt_of_le_of_lt (Nat.sub_le k 1) hkx) ≠ xs[k] → ∀ (j : Nat) (hj : j < xs.length), j ≠ 0 → j < k + 1 → xs[j - 1]'(Nat.lt_of_le_of_lt (Nat.sub_le j 1) hj) ≠ xs[j]) := Lib.hid fun h j hj h0 hjk => by
          by_cases e : j = k
          · subst e; exact h
          · exact hno.out j hj h0 (by omega)
        have HDU := Lib.hid (HAT.out k hkx (by omega))
        have HFR := Lib.hid (HOW.out.free)
        generalize xs[k] = x at hcell HNX HDU
        generalize xs[k - 1]'(Nat.lt_of_le_of_lt (Nat.sub_le k 1) hkx) = y at hcell0 HNX HDU
        by_cases hxy : x = y
        · have HA := Lib.hid (HDU.out hxy.symm)
          have hxb : (x == y) = true := by simpa using hxy
          clear hxy
          go_wp2
          go_quiet (fail)
          have HGR0 : Hid (GrS (fun j => j = g) w (w.drewN (q + nq))) := Lib.hid (GrS.drewN (GrS.refl _ _) _)
          have hkc : k < c := by omega
          go_wp2
          clear hcell hcell0 hxb
          go_loopg [3, 5] n (fun gg s3 s5 wr => ∃ (kk k2 : Nat) (zs : List Int), s3 = .int .i64 (kk : Int) ∧ s5 = .int .i64 (k2 : Int) ∧ 1 ≤ k2 ∧ k + k2 ≤ n ∧ kk + 1 ≤ k + k2 ∧ n - (k + k2) ≤ gg ∧ Hid (zs.length = n) ∧ Hid (Ow wr lo 2 1 (.slice (some ⟨g, 0, none⟩) n c) n (zs.map (Value.int .i64))) ∧ Hid (GrS (fun j => j = g) w wr))
          case atStart => exact ⟨k, 1, xs, rfl, rfl, Nat.le_refl _, by omega, by omega, by omega, HN, Lib.hid (Ow.drewN HOW.out _), HGR0⟩
          case round =>
            obtain ⟨kk, k2, zs, rfl, rfl, h21, h2n, hkk, hgg, hzn, hz, hgr⟩ := hrel
            by_cases hl2 : k + k2 < n
            · have hzl : k + k2 < zs.length := by rw [hzn.out]; exact hl2
              have hc1 := hz.out.cell (k := k + k2) (by rw [List.length_map]; exact hzl)
              have hc0 := hz.out.cell (k := k + (k2 - 1)) (by rw [List.length_map]; omega)
              rw [List.getElem_map] at hc1 hc0
              have hck := hz.out.cell (k := kk) (by rw [List.length_map]; omega)
              have hfk := hz.out.free kk
              have hkm2 : ((k2 : Int) - 1).toNat = k2 - 1 := by omega
              have hkn2 : (0 : Int) ≤ (k2 : Int) - 1 := by omega
              have hkl2 : (k2 : Int) - 1 < ((n - k : Nat) : Int) := by omega
              have hki2 : (k2 : Int) < ((n - k : Nat) : Int) := by omega
              have hkki : (kk : Int) < (n : Int) := by omega
              have HSET : Hid (∀ q, Ow ((wr.drewN q).setCell ⟨g, kk, none⟩ (.int .i64 zs[k + k2])) lo 2 1 (.slice (some ⟨g, 0, none⟩) n c) n ((zs.set kk zs[k + k2]).map (Value.int .i64))) := Lib.hid fun q => by
                rw [List.map_set]; exact (Ow.drewN hz.out q).set kk _
              have HZL : Hid ((zs.set kk zs[k + k2]).length = n) := Lib.hid (by rw [List.length_set]; exact hzn.out)
              have HCK := Lib.hid (fun q : Nat => show (wr.drewN q).cell? ⟨g, kk, none⟩ = some ((zs.map (Value.int .i64))[kk]'(by rw [List.length_map]; omega)) from hck)
              have HFK := Lib.hid (fun q : Nat => show (wr.drewN q).frozen? ⟨g, kk, none⟩ = false from hfk)
              have HC1 := Lib.hid (fun q : Nat => show (wr.drewN q).cell? ⟨g, k + k2, none⟩ = some (.int .i64 zs[k + k2]) from hc1)
              generalize (zs.map (Value.int .i64))[kk]'(by rw [List.length_map]; omega) = old at HCK
              generalize zs[k + k2] = u at hc1 HSET HZL HC1
              generalize zs[k + (k2 - 1)]'(by omega) = v at hc0
              clear hck hfk
              by_cases huv : u = v
              · have hub : (u != v) = false := by simpa using huv
                clear huv
                go_wp2
                go_quiet (fail)
                go_wp2
                go_roundg (n - (k + (k2 + 1)))
                case measure => omega
                case rel => exact ⟨kk, k2 + 1, zs, rfl, by go_num, by omega, by omega, by omega, Nat.le_refl _, hzn, Lib.hid (Ow.drewN hz.out _), Lib.hid (GrS.drewN hgr.out _)⟩
              · have hub : (u != v) = true := by simpa using huv
                clear huv
                go_wp2
                go_quiet (fail)
                have hck := HCK.out nq; have hfk := HFK.out nq
                have hc1' := HC1.out nq
                clear hc1 hc0
                go_wp2
                go_roundg (n - (k + (k2 + 1)))
                case measure => omega
                case rel => exact ⟨kk + 1, k2 + 1, _, by go_num, by go_num, by omega, by omega, by omega, Nat.le_refl _, HZL, Lib.hid (HSET.out nq), Lib.hid ((GrS.drewN hgr.out nq).trans (GrS.set (R := fun j => j = g) (p := ⟨g, kk, none⟩) rfl _))⟩
            · have hend : k + k2 = n := by omega
              have hkkn : kk < n := by omega
              have hkkc : kk < c := by omega
              have hcl : ∀ ty, (Builtin.clear_ #[31] ty #[.slice (some ⟨g, kk, none⟩) (n - kk) (c - kk)]).run Try.prog wr = .ok (.tuple #[]) (wr.setCells g kk (List.replicate (n - kk) (.int .i64 0))) :=
                fun ty => Lib.run_clear_slice wr _ _ ty _ Try.underlying31 zeroI rfl rfl g kk _ _ (by omega) (fun j hj => by rw [hz.out.cell (k := kk + j) (by rw [List.length_map, hzn.out]; omega)]; rfl) (fun j hj => hz.out.free _)
              have HGE : Hid (GrS (fun j => j = g) w (wr.setCells g kk (List.replicate (n - kk) (.int .i64 0)))) := Lib.hid (hgr.out.trans (GrS.setCells wr g kk _))
              have hki2 : ¬ (k2 : Int) < ((n - k : Nat) : Int) := by omega
              go_wp2_with (simp only [hcl])
              go_ret
              exact ⟨kk, ⟨c, rfl⟩, by rw [HA.out]; simp; omega, by omega, HGE.out⟩
        · have HNN := Lib.hid (HNX.out (fun e => hxy e.symm))
          have hxb : (x == y) = false := by simpa using hxy
          clear hxy
          go_wp2
          go_quiet (fail)
          go_wp2
          go_roundw
          case rel => exact ⟨k + 1, q + nq, by omega, by omega, by go_num, HNN, rfl⟩
          case measure => simp [intOf]; omega
      · have hkn : k = n := by omega
        have HAA := Lib.hid (HAF.out (fun j hj h0 => hno.out j hj h0 (by rw [HN.out] at hj; omega)))
        subst hkn
        go_wp2
        go_ret
        exact ⟨k, c, rfl, by rw [HAA.out]; simp, Nat.le_refl _, GrS.drewN (GrS.refl _ _) _⟩
end Go.Proofs.Ytegabdhmfemgkaa
