/-
GoOrder of the program and of the reference: the same order. Condition: the slices read as lists.
-/
import Derived.Test.YtedoibgclplnaaaRoomO
namespace Go.Proofs.Ytedoibgclplnaaa
open Go.RowKit
set_option linter.unusedVariables false

theorem ordR_ok {rooms : List Int} {ts : List Guest} (hok : roomsOk rooms ts = true) : ordR rooms ts = (match fosS rooms ts 0 with | some l => (l, 0) | none => ([], 10)) := by unfold ordR; rw [hok]; rfl
theorem ordR_bad {rooms : List Int} {ts : List Guest} (hok : roomsOk rooms ts = false) : ordR rooms ts = ([], 1) := by unfold ordR; rw [hok]; rfl

set_option maxHeartbeats 1000000 in
theorem implOrder_any (v u : Value) (rooms : List Int) (ts : List Guest) (w : World) (hv : SlI w v rooms) (hu : SlGuest w u ts) :
    Calls Try.prog 42 #[v, u] w fun e w' => ∃ A c, e = .returned (.tuple #[.slice A (ordR rooms ts).1.length c, .int .i64 (ordR rooms ts).2]) ∧ OwI w' w.heap.size (.slice A (ordR rooms ts).1.length c) (ordR rooms ts).1 ∧ Below w.heap.size w w' := by
  have HV := Lib.hid hv; have HU := Lib.hid hu
  obtain ⟨B, d, rfl, hlb, _⟩ := hu.op
  clear hv hu
  have HNIL := Lib.hid (fun w' : World => owI_nilR w' w.heap.size)
  go_enter Try.func42, Try.ntmps42
  go_wp2_with fail
  refine (validRooms_any _ _ rooms ts _ HV.out HU.out).mono ?_
  rintro e w1 ⟨rfl, hb1⟩
  cases hok : roomsOk rooms ts with
  | false =>
    have E := Lib.hid (ordR_bad hok)
    go_wp2
    go_ret2
    exact ⟨none, 0, by rw [E.out]; rfl, by rw [E.out]; exact HNIL.out _, hb1⟩
  | true =>
    have E := Lib.hid (ordR_ok hok)
    have HOK := Lib.hid hok
    obtain ⟨-, -, h4, -, -⟩ := roomsOk_at hok
    have hp8 := pow_le8 h4
    have HB1 := Lib.hid hb1
    clear hok hb1
    have HRS := Lib.hid (reachedSets_any _ _ rooms ts w1 (HV.out.ex HB1.out) (HU.out.ex HB1.out) HOK.out)
    have hML := mov_lt h4 (Nat.le_refl _)
    have HM0 : Hid (movL ts ts.length ^^^ 0 = movL ts ts.length) := Lib.hid (Nat.xor_zero _)
    have HMV := Lib.hid (fun W (hW : Below w.heap.size w W) => moving_any _ ts W (HU.out.ex hW) h4)
    have HFO := Lib.hid (fun W (hW : Below w.heap.size w W) => firstOrder_any v rooms ts B d w HV.out HU.out HOK.out 256 0 .zero (by omega) W hW)
    rw [HM0.out] at HFO
    have HIFF : Hid ((fosS rooms ts 0).isSome = rchB ts.length (canS rooms ts) (movL ts ts.length)) := Lib.hid (by
      rw [Bool.eq_iff_iff, rchB_iff]; exact order_iff)
    obtain ⟨N, HN⟩ : ∃ N : Nat, Hid (2 ^ ts.length = N) := ⟨_, Lib.hid rfl⟩
    rw [HN.out] at hp8 HRS hML
    have HRL : Hid (∀ h, (rchL ts.length (canS rooms ts))[movL ts ts.length]'h = rchB ts.length (canS rooms ts) (movL ts ts.length)) := Lib.hid fun h => rchL_at h
    generalize movL ts ts.length = M at HMV HFO HIFF hML HM0 HRL
    have hMi : (M : Int) < (N : Int) := by omega
    go_wp2_with fail
    refine HRS.out.mono ?_
    rintro e w2 ⟨A, c, rfl, hown, hb2⟩
    have HB2 := Lib.hid (below_next0 HB1.out hb2)
    have HO := Lib.hid hown
    clear hown hb2
    go_wp2_with fail
    refine (HMV.out _ HB2.out).mono ?_
    rintro e w3 ⟨rfl, hb3⟩
    have HB3 := Lib.hid (below_next0 HB2.out hb3)
    obtain ⟨g, rfl, hlo, hgl, hcell, -⟩ := owB_at (HO.out.ex hb3) (by rw [rchL_len, HN.out]) hML
    rw [HRL.out, ← HIFF.out] at hcell
    clear hb3
    cases hf : fosS rooms ts 0 with
    | none =>
      rw [hf] at hcell E
      simp only [Option.isSome_none] at hcell
      go_wp2
      go_ret2
      exact ⟨none, 0, by rw [E.out]; rfl, by rw [E.out]; exact HNIL.out _, HB3.out⟩
    | some l =>
      rw [hf] at hcell E HFO
      simp only [Option.isSome_some] at hcell
      simp only [ordV] at HFO
      clear hf
      go_wp2_with fail
      refine (HMV.out _ HB3.out).mono ?_
      rintro e w4 ⟨rfl, hb4⟩
      have HB4 := Lib.hid (below_next0 HB3.out hb4)
      clear hb4 hcell
      go_wp2_with fail
      refine (HFO.out _ HB4.out).mono ?_
      rintro e w5 ⟨A5, n5, c5, rfl, hn5, hown5, hb5⟩
      have hs4 := HB4.out.size
      have HO5 := Lib.hid (hown5.mono hs4); have HB5 := Lib.hid (below_next0 HB4.out hb5); have HN5 := Lib.hid hn5
      clear hn5 hown5 hb5
      go_wp2
      go_ret2
      exact ⟨A5, c5, by rw [E.out]; simp only [HN5.out]; rfl, by rw [E.out]; simp only [HN5.out]; exact HO5.out, HB5.out⟩

set_option maxHeartbeats 1000000 in
theorem specOrder_any (v u : Value) (rooms : List Int) (ts : List Guest) (w : World) (hv : SlI w v rooms ∧ rooms.length ≤ 1048576) (hu : SlGuest w u ts ∧ ts.length ≤ 1048576) :
    Calls Try.prog 41 #[v, u] w fun e w' => ∃ A c, e = .returned (.tuple #[.slice A (ordR rooms ts).1.length c, .int .i64 (ordR rooms ts).2]) ∧ OwI w' w.heap.size (.slice A (ordR rooms ts).1.length c) (ordR rooms ts).1 ∧ Below w.heap.size w w' := by
  obtain ⟨hv, hl⟩ := hv
  obtain ⟨hu, hts⟩ := hu
  have HV := Lib.hid hv; have HU := Lib.hid hu
  obtain ⟨B, d, rfl, hlb, _⟩ := hu.op
  clear hv hu
  have HNIL := Lib.hid (fun w' : World => owI_nilR w' w.heap.size)
  go_enter Try.func41, Try.ntmps41
  go_wp2_with fail
  refine (l10Ok_any _ _ rooms ts _ HV.out HU.out hl hts).mono ?_
  rintro e w1 ⟨rfl, hb1⟩
  cases hok : roomsOk rooms ts with
  | false =>
    have E := Lib.hid (ordR_bad hok)
    go_wp2
    go_ret2
    exact ⟨none, 0, by rw [E.out]; rfl, by rw [E.out]; exact HNIL.out _, hb1⟩
  | true =>
    have E := Lib.hid (ordR_ok hok)
    have HOK := Lib.hid hok
    obtain ⟨-, -, h4, -, -⟩ := roomsOk_at hok
    have HB1 := Lib.hid hb1
    clear hok hb1
    have HOF : Hid (0 < ((gn ts 0).flatMap Guest.vals).length → Off (fun k => k = w1.heap.size) (.slice B ts.length d)) := Lib.hid (by rw [gn_zero]; exact Sl.offOld HU.out (fun k hk => by rw [hk]; exact HB1.out.size))
    have HBO : Hid (BOk rooms ts (List.replicate 256 false)) := Lib.hid ⟨List.length_replicate, fun S h hb => by rw [List.getElem_replicate] at hb; cases hb⟩
    go_wp2_with (at_make; refine wpList_make1 _ rfl (.const (.int .i64 256)) (.const (.int .i64 256)) _ rfl w1.heap.size 4 (.bool false) 1 Try.underlying60 infoB rfl .i64 .i64 256 ?_ ?_ (by omega) (by omega) (Nat.le_refl _) ?_; rfl; rfl; intro w2 hown hb2 hsz; have HO := Lib.hid hown; have HB2 := Lib.hid (below_next0 HB1.out hb2); clear hown hb2)
    have HU0 : Hid (SlGuest w2 (.slice B ts.length d) (gn ts 0)) := Lib.hid (by rw [gn_zero]; exact HU.out.ex HB2.out)
    have HC := Lib.hid (l10Order_any v rooms ts w HV.out HOK.out w1.heap.size 256 HB1.out.size 256 0 .zero (by omega) B d (List.replicate 256 false) w2 HU0.out HOF.out HB2.out (by rw [List.map_replicate]; exact Ow.mono HO.out HB1.out.size) HBO.out)
    refine HC.out.mono ?_
    rintro e w5 ⟨A5, n5, c5, bs5, rfl, hn5, hown5, -, -, hgr⟩
    have HB5 := Lib.hid (HB2.out.trans (hgr.below (B := w.heap.size) (fun j _ hj => by rw [hj]; exact HB1.out.size) HB2.out.size))
    have hs2 := HB2.out.size
    have HO5 := Lib.hid (hown5.mono hs2); have HN5 := Lib.hid hn5
    clear hn5 hown5 hgr
    cases hf : fosS rooms ts 0 with
    | none =>
      rw [hf] at E
      simp only [ordV]
      go_wp2
      go_ret2
      exact ⟨none, 0, by rw [E.out]; rfl, by rw [E.out]; exact HNIL.out _, HB5.out⟩
    | some l =>
      rw [hf] at E HO5 HN5
      simp only [ordV] at HO5 HN5 ⊢
      go_wp2
      go_ret2
      exact ⟨A5, c5, by rw [E.out]; simp only [HN5.out]; rfl, by rw [E.out]; simp only [HN5.out]; exact HO5.out, HB5.out⟩
end Go.Proofs.Ytedoibgclplnaaa
