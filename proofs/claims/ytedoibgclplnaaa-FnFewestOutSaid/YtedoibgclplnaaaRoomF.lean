/-
Guests after some have gone: gone of the program, l10Gone of the reference; GoOne of both. Condition: the slices read as lists, valid rooms.
-/
import Derived.Test.YtedoibgclplnaaaRoomE
namespace Go.Proofs.Ytedoibgclplnaaa
open Go.RowKit
set_option linter.unusedVariables false

theorem flat_set0 (g' : Guest) : ∀ (l : List Guest) (k : Nat) (hk : k < l.length), g'.wants = l[k].wants → (l.flatMap Guest.vals).set (k * 2) (.int .i64 g'.here) = (l.set k g').flatMap Guest.vals
  | x :: l, 0, _, h => by
    simp only [List.getElem_cons_zero] at h
    simp [Guest.vals, h]
  | x :: l, k + 1, hk, h => by
    have ih := flat_set0 g' l k (by simpa using hk) (by simpa using h)
    rw [List.flatMap_cons, List.set_cons_succ, List.flatMap_cons, ← ih]
    have : (k + 1) * 2 = k * 2 + 2 := by omega
    rw [this]
    simp [Guest.vals]
/-- the first k guests of a set have gone -/
def go1 (g : Guest) : Guest := ⟨g.wants, g.wants⟩
def goneK (ts : List Guest) (s : Nat) (k : Nat) : List Guest := (ts.take k).mapIdx (fun i g => if s.testBit i then go1 g else g) ++ ts.drop k
theorem goneK_len (ts : List Guest) (s k : Nat) : (goneK ts s k).length = ts.length := by simp [goneK]; omega
theorem goneK_at {ts : List Guest} {s k : Nat} (hk : k < ts.length) : (goneK ts s k)[k]'(by rw [goneK_len]; exact hk) = ts[k] := by
  unfold goneK
  rw [List.getElem_append_right (by simp; omega)]
  simp only [List.length_mapIdx, List.length_take, List.getElem_drop]
  congr 1; omega
theorem goneK_yes {ts : List Guest} {s k : Nat} (hk : k < ts.length) (h : s.testBit k = true) : goneK ts s (k + 1) = (goneK ts s k).set k (go1 ts[k]) := by
  unfold goneK
  rw [List.take_succ_eq_append_getElem hk, List.mapIdx_append, List.set_append_right _ _ (by simp; omega)]
  have h1 : ts.drop k = ts[k] :: ts.drop (k + 1) := List.drop_eq_getElem_cons hk
  have hl : ((ts.take k).mapIdx (fun i g => if s.testBit i then go1 g else g)).length = k := by simp; omega
  have hl2 : (ts.take k).length = k := by simp; omega
  rw [hl, h1, List.append_assoc]
  simp [hl2, h]
  rw [h1]; rfl
theorem goneK_no {ts : List Guest} {s k : Nat} (hk : k < ts.length) (h : s.testBit k = false) : goneK ts s (k + 1) = goneK ts s k := by
  unfold goneK
  rw [List.take_succ_eq_append_getElem hk, List.mapIdx_append]
  have h1 : ts.drop k = ts[k] :: ts.drop (k + 1) := List.drop_eq_getElem_cons hk
  have hl2 : (ts.take k).length = k := by simp; omega
  rw [h1, List.append_assoc]
  simp [hl2, h]
theorem bitsU : ∀ s : Nat, s < 256 → ∀ k : Nat, k < 8 → (bits .and .u64 ((s : Int) / 2 ^ k) 1 == 1) = Nat.testBit s k := by decide +kernel

theorem cloneG_any (v : Value) (ts : List Guest) (w : World) (hv : SlGuest w v ts) (hl : ts.length ≤ 1048576) :
    Calls Try.prog 48 #[v] w fun e w' => ∃ A c, e = .returned (.slice A ts.length c) ∧ OwGuest w' w.heap.size (.slice A ts.length c) ts ∧ Below w.heap.size w w' := by
  have HV := Lib.hid (hv.ex (below_alloc w (.cells #[] 34)))
  have HEM := Lib.hid (ow_empty w w.heap.size 34 2 (Nat.le_refl _))
  obtain ⟨A, c, rfl, hla, hcs⟩ := hv.op
  have q22 : ∀ (w : World) (a : Option Addr) (n c n' c' : Nat), (binOp .eql 25 (.slice a n c) (.slice none n' c')).run Try.prog w = .ok (.bool a.isNone) w := fun w a n c n' c' => Lib.run_eql_slice_nil w _ _ a n c n' c' Try.underlying25
  cases A with
  | none =>
    have hx : ts = [] := by
      rcases Nat.eq_zero_or_pos ts.length with h0 | h0
      · exact List.eq_nil_of_length_eq_zero h0
      · obtain ⟨_, _, hA, _⟩ := hcs 0 h0; cases hA
    subst hx
    have HN : Hid (OwGuest w w.heap.size (.slice none 0 0) []) := Lib.hid ⟨World.ownsRow_nil _ _ _ _, by simp⟩
    clear hv hcs
    go_enter Try.func48, Try.ntmps48
    go_wp2
    go_ret
    exact ⟨none, 0, rfl, HN.out, Below.refl _ _⟩
  | some ad =>
    clear hv hcs
    go_enter Try.func48, Try.ntmps48
    go_wp2_with (first | (at_builtin; refine wpList_cat (w.alloc (.cells #[] 34)) rfl (.tmp 5) (.tmp 6) _ rfl w.heap.size 34 (.agg #[.int .i64 0, .int .i64 0]) 2 16 Try.underlying25 infoGuest rfl (by omega) (.slice (some ⟨w.heap.size, 0, none⟩) 0 0) 0 [] rfl HEM.out (.slice (some ad) ts.length c) ts.length _ rfl HV.out ?_ (by omega) (by omega) (by simp) ?_; rotate_left; intro A3 c3 w3 _ hown3 hg3 hsz3) | fail)
    · simp only [Nat.zero_add, List.nil_append] at hown3 ⊢
      have HO := Lib.hid hown3
      have HB := Lib.hid ((below_alloc w (.cells #[] 34)).grown hg3 (by simp) (fun k hk => by simp [Value.ownBlock] at hk; omega))
      clear hown3 hg3 hsz3
      go_wp2
      go_ret
      exact ⟨A3, c3, rfl, HO.out, HB.out⟩
    · intro u hu
      obtain ⟨g, _, hg⟩ := List.mem_flatMap.1 hu
      simp [Guest.vals] at hg
      rcases hg with rfl | rfl <;> rfl

theorem gone_any (u : Value) (ts : List Guest) (s : Nat) (w : World) (hu : SlGuest w u ts) (hl : ts.length ≤ 8) (hs : s < 256) :
    Calls Try.prog 67 #[u, .int .u64 s] w fun e w' => ∃ A c, e = .returned (.slice A ts.length c) ∧ OwGuest w' w.heap.size (.slice A ts.length c) (goneK ts s ts.length) ∧ Below w.heap.size w w' := by
  have HU := Lib.hid hu
  clear hu
  have H0 : Hid (goneK ts s 0 = ts) := Lib.hid (by simp [goneK])
  go_enter Try.func67, Try.ntmps67
  go_wp2_with fail
  refine (cloneG_any _ ts _ HU.out (by omega)).mono ?_
  rintro e w1 ⟨A1, c1, rfl, hown, hb⟩
  have hown2 : Ow w1 w.heap.size 34 2 (.slice A1 ts.length c1) ts.length ((goneK ts s 0).flatMap Guest.vals) := by rw [H0.out]; exact hown
  have HO := Lib.hid hown2; have HB := Lib.hid hb
  clear hown hown2 hb
  go_wp2
  go_loopw [6, 11] (fun q i wr => ∃ k : Nat, k ≤ ts.length ∧ i = .int .i64 k ∧ Ow wr w.heap.size 34 2 (.slice A1 ts.length c1) ts.length ((goneK ts s k).flatMap Guest.vals) ∧ Below w.heap.size w wr) (fun _ i _ => ts.length - (intOf i).toNat)
  case atStart => exact ⟨0, Nat.zero_le _, rfl, HO.out, HB.out⟩
  case round =>
    obtain ⟨k, hk, rfl, hown, hb⟩ := hrel
    by_cases hlt : k < ts.length
    · have hlti : (k : Int) < (ts.length : Int) := by omega
      have HBIT := Lib.hid (bitsU s hs k (by omega))
      cases hbit : s.testBit k with
      | false =>
        have hbe : (bits .and .u64 ((s : Int) / 2 ^ k) 1 == 1) = false := HBIT.out.trans hbit
        have HE := Lib.hid (goneK_no hlt hbit)
        have HO2 := Lib.hid hown; have HB2 := Lib.hid hb
        clear hown hb
        go_wp2
        go_roundw
        case rel => exact ⟨k + 1, by omega, by go_num, by rw [HE.out]; exact HO2.out, HB2.out⟩
        case measure => simp [intOf]; omega
      | true =>
        have hbe : (bits .and .u64 ((s : Int) / 2 ^ k) 1 == 1) = true := HBIT.out.trans hbit
        have HE := Lib.hid (goneK_yes hlt hbit)
        have hgl := goneK_len ts s k
        have hga : ∀ (h : k < (goneK ts s k).length), (goneK ts s k)[k]'h = ts[k] := fun _ => goneK_at hlt
        generalize goneK ts s k = l at hown HE hgl hga
        have hkl : k < l.length := by omega
        have hS := flat_set0 (go1 ts[k]) l k hkl (by rw [hga hkl]; rfl)
        rw [← HE.out] at hS
        have hga' : l[k]'hkl = ts[k] := hga hkl
        clear hga
        generalize ts[k] = x at hga' hS
        obtain ⟨x0, x1⟩ := x
        rcases Ow.form hown with ⟨_, h0, _⟩ | ⟨g, c4, hA2, hlo, hltg, hcl⟩
        · omega
        · injection hA2 with hA2 _ hc2
          subst hA2 hc2
          have hc1 : wr.cell? ⟨g, k * 2 + 1, none⟩ = some (.int .i64 x1) := by
            rw [Ow.cell hown (k := k * 2 + 1) (by omega)]
            have h9 := flat_get Guest.vals 2 Guest.vals_len l k hkl 1 (by omega)
            rw [List.getElem?_eq_getElem (by omega)] at h9
            injection h9 with h9
            rw [h9, hga']
          have hc0 : wr.cell? ⟨g, k * 2, none⟩ = some (.int .i64 x0) := by
            rw [Ow.cell hown (k := k * 2) (by omega)]
            have h9 := flat_get Guest.vals 2 Guest.vals_len l k hkl 0 (by omega)
            simp only [Nat.add_zero] at h9
            rw [List.getElem?_eq_getElem (by omega)] at h9
            injection h9 with h9
            rw [h9, hga']
          have hf0 := Ow.free hown (k * 2)
          have hn := Ow.set hown (k * 2) (.int .i64 x1)
          have hS' : (l.flatMap Guest.vals).set (k * 2) (.int .i64 x1) = (goneK ts s (k + 1)).flatMap Guest.vals := hS
          rw [hS'] at hn
          have HN := Lib.hid hn
          have HB2 := Lib.hid (hb.setCell (p := ⟨g, k * 2, none⟩) hlo (.int .i64 x1))
          clear hown hb hS hS' hga' hn hcl
          go_wp2
          go_roundw
          case rel => exact ⟨k + 1, by omega, by go_num, HN.out, HB2.out⟩
          case measure => simp [intOf]; omega
    · have hkn : k = ts.length := by omega
      subst hkn
      have HO2 := Lib.hid hown; clear hown
      go_wp2
      go_ret
      exact ⟨A1, c1, rfl, (by unfold OwGuest; rw [goneK_len]; exact HO2.out), hb⟩

theorem goneK_one {ts : List Guest} {k : Nat} (hk : k < ts.length) : goneK ts (2 ^ k) ts.length = ts.set k (go1 ts[k]) := by
  unfold goneK
  rw [List.take_of_length_le (Nat.le_refl _), List.drop_of_length_le (Nat.le_refl _), List.append_nil]
  apply List.ext_getElem (by simp)
  intro i h1 h2
  rw [List.getElem_mapIdx, List.getElem_set, Nat.testBit_two_pow]
  by_cases h : k = i
  · subst h; simp
  · simp [h]

set_option maxHeartbeats 1000000 in
theorem l10Gone_any (u : Value) (ts : List Guest) (k : Nat) (w : World) (hu : SlGuest w u ts) (hl : ts.length ≤ 8) (hk : k < ts.length) :
    Calls Try.prog 65 #[u, .int .i64 k] w fun e w' => ∃ A c, e = .returned (.slice A ts.length c) ∧ Ow w' w.heap.size 34 2 (.slice A ts.length c) ts.length ((ts.set k (go1 ts[k])).flatMap Guest.vals) ∧ Below w.heap.size w w' := by
  have HV := Lib.hid (hu.ex (below_alloc w (.cells #[] 34)))
  have HEM := Lib.hid (ow_empty w w.heap.size 34 2 (Nat.le_refl _))
  obtain ⟨A, c, rfl, hla, hcs⟩ := hu.op
  obtain ⟨b, o, rfl, hbs, hc0, hc1⟩ := hcs k hk
  have hki : (k : Int) < (ts.length : Int) := by omega
  clear hu hcs
  go_enter Try.func65, Try.ntmps65
  go_wp2_with (first | (at_builtin; refine wpList_cat (w.alloc (.cells #[] 34)) rfl (.tmp 6) (.tmp 7) _ rfl w.heap.size 34 (.agg #[.int .i64 0, .int .i64 0]) 2 16 Try.underlying25 infoGuest rfl (by omega) (.slice (some ⟨w.heap.size, 0, none⟩) 0 0) 0 [] rfl HEM.out (.slice (some ⟨b, o, none⟩) ts.length c) ts.length _ rfl HV.out ?_ (by omega) (by omega) (by simp) ?_; rotate_left; intro A3 c3 w3 _ hown3 hg3 hsz3) | fail)
  · simp only [Nat.zero_add, List.nil_append] at hown3 ⊢
    have hb := (below_alloc w (.cells #[] 34)).grown hg3 (by simp) (fun k hk => by simp [Value.ownBlock] at hk; omega)
    rcases Ow.form hown3 with ⟨_, h0, _⟩ | ⟨g, c4, hA2, hlo, hltg, hcl⟩
    · omega
    · injection hA2 with hA2 _ hc2
      subst hA2 hc2
      have hx0 := (hb.cell (p := ⟨b, o + k * 2, none⟩) hbs).trans hc0
      have hx1 := (hb.cell (p := ⟨b, o + k * 2 + 1, none⟩) hbs).trans hc1
      have hf0 := Ow.free hown3 (k * 2); have hf1 := Ow.free hown3 (k * 2 + 1)
      have hy0 := Ow.cell hown3 (k := k * 2) (by omega); have hy1 := Ow.cell hown3 (k := k * 2 + 1) (by omega)
      have hS := flat_set0 (go1 ts[k]) ts k hk rfl
      have hn := Ow.set (Ow.set hown3 (k * 2) (.int .i64 ts[k].wants)) (k * 2 + 1) (.int .i64 ts[k].wants)
      have hS' : (ts.flatMap Guest.vals).set (k * 2) (.int .i64 ts[k].wants) = (ts.set k (go1 ts[k])).flatMap Guest.vals := hS
      have hS2 : ((ts.set k (go1 ts[k])).flatMap Guest.vals).set (k * 2 + 1) (.int .i64 ts[k].wants) = (ts.set k (go1 ts[k])).flatMap Guest.vals := by
        have h9 := flat_get Guest.vals 2 Guest.vals_len (ts.set k (go1 ts[k])) k (by simpa using hk) 1 (by omega)
        have hlen : k * 2 + 1 < ((ts.set k (go1 ts[k])).flatMap Guest.vals).length := by rw [flat_len _ _ Guest.vals_len]; simp; omega
        rw [List.getElem?_eq_getElem hlen] at h9
        injection h9 with h9
        have h10 : ((ts.set k (go1 ts[k])).flatMap Guest.vals)[k * 2 + 1]'hlen = .int .i64 ts[k].wants := by rw [h9]; simp [go1]
        rw [← h10, List.set_getElem_self]
      rw [hS', hS2] at hn
      have HN := Lib.hid hn
      have HB2 := Lib.hid ((hb.setCell (p := ⟨g, k * 2, none⟩) hlo (.int .i64 ts[k].wants)).setCell (p := ⟨g, k * 2 + 1, none⟩) hlo (.int .i64 ts[k].wants))
      generalize (ts.flatMap Guest.vals)[k * 2]'(by omega) = z0 at hy0
      generalize (ts.flatMap Guest.vals)[k * 2 + 1]'(by omega) = z1 at hy1
      generalize ts[k].here = x0 at hx0
      generalize ts[k].wants = x1 at hx1 HN HB2
      clear hown3 hg3 hsz3 hb hS hS' hS2 hn hcl hc0 hc1
      go_wp2
      go_region
      go_wp2
      go_ret
      exact ⟨_, c3, rfl, Ow.drewN HN.out 1, HB2.out.drew⟩
  · intro u hu
    obtain ⟨g, _, hg⟩ := List.mem_flatMap.1 hu
    simp [Guest.vals] at hg
    rcases hg with rfl | rfl <;> rfl

def goR (rooms : List Int) (ts : List Guest) (k : Int) : List Guest × Int :=
  if roomsOk rooms ts = true then (if inB k 0 ((ts.length : Int) - 1) = true then (match ts[k.toNat]? with
    | some g => if restB g = true then ([], 6) else (if canP rooms ts g = true then (ts.set k.toNat (go1 g), 0) else ([], 5))
    | none => ([], 2)) else ([], 2)) else ([], 1)
theorem owG_nil (w : World) (lo : Nat) : OwGuest w lo (.slice none 0 0) [] := ⟨World.ownsRow_nil _ _ _ _, by simp⟩
theorem shl8 : ∀ k : Nat, k < 8 → IntKind.u64.wrap (2 ^ k) = ((2 ^ k : Nat) : Int) := by decide +kernel

set_option maxHeartbeats 1000000 in
theorem implGoOne_any (v u : Value) (rooms : List Int) (ts : List Guest) (kb : Int) (w : World) (hv : SlI w v rooms) (hu : SlGuest w u ts) (hkb : -9223372036854775808 ≤ kb ∧ kb ≤ 9223372036854775807) :
    Calls Try.prog 36 #[v, u, .int .i64 kb] w fun e w' => ∃ A c, e = .returned (.tuple #[.slice A (goR rooms ts kb).1.length c, .int .i64 (goR rooms ts kb).2]) ∧ OwGuest w' w.heap.size (.slice A (goR rooms ts kb).1.length c) (goR rooms ts kb).1 ∧ Below w.heap.size w w' := by
  have HV := Lib.hid hv; have HU := Lib.hid hu
  obtain ⟨B, d, rfl, hlb, hcs⟩ := hu.op
  have HA := Lib.hid hcs
  clear hv hu hcs
  have HNIL := Lib.hid (fun w' : World => owG_nil w' w.heap.size)
  go_enter Try.func36, Try.ntmps36
  go_wp2_with fail
  refine (validRooms_any _ _ rooms ts _ HV.out HU.out).mono ?_
  rintro e w1 ⟨rfl, hb1⟩
  cases hok : roomsOk rooms ts with
  | false =>
    have E : Hid (goR rooms ts kb = ([], 1)) := Lib.hid (by unfold goR; rw [hok]; rfl)
    go_wp2
    go_ret2
    exact ⟨none, 0, by rw [E.out]; rfl, by rw [E.out]; exact HNIL.out _, hb1⟩
  | true =>
    have HOK := Lib.hid hok
    obtain ⟨-, -, h4, -, -⟩ := roomsOk_at hok
    have HB1 := Lib.hid hb1
    cases hin : inB kb 0 ((ts.length : Int) - 1) with
    | false =>
      have E : Hid (goR rooms ts kb = ([], 2)) := Lib.hid (by unfold goR; rw [hok, hin]; rfl)
      clear hok
      go_wp2_with (go_at_call 66; refine (within_any _ _ _ _).mono ?_; rintro e w' ⟨rfl, rfl⟩; rw [hin])
      go_ret2
      exact ⟨none, 0, by rw [E.out]; rfl, by rw [E.out]; exact HNIL.out _, hb1⟩
    | true =>
      have hkk := inB_iff.1 hin
      obtain ⟨k, rfl⟩ := Int.eq_ofNat_of_zero_le hkk.1
      have hk : k < ts.length := by omega
      have hki : (k : Int) < (ts.length : Int) := by omega
      obtain ⟨b, o, rfl, hbs, hc0, hc1⟩ := HA.out k hk
      have hx0 := (hb1.cell (p := ⟨b, o + k * 2, none⟩) hbs).trans hc0
      have hx1 := (hb1.cell (p := ⟨b, o + k * 2 + 1, none⟩) hbs).trans hc1
      have HG : Hid (goR rooms ts k = if restB ts[k] = true then ([], 6) else (if canP rooms ts ts[k] = true then (ts.set k (go1 ts[k]), 0) else ([], 5))) := Lib.hid (by unfold goR; rw [hok, hin]; simp [hk])
      have HCAN := Lib.hid (fun W (hW : Below w.heap.size w W) => canGo_any _ _ rooms ts k W (HV.out.ex hW) (HU.out.ex hW) HOK.out hk)
      have hs8 : 2 ^ k < 256 := by
        have : (2 : Nat) ^ k ≤ 2 ^ 7 := Nat.pow_le_pow_right (by omega) (by omega)
        omega
      have HGONE := Lib.hid (fun W (hW : Below w.heap.size w W) => gone_any _ ts (2 ^ k) W (HU.out.ex hW) h4 hs8)
      have HONE := Lib.hid (goneK_one hk)
      have hne : ¬ (ts.set k (go1 ts[k])).length ≠ ts.length := by simp
      have HLN : Hid ((ts.set k (go1 ts[k])).length = ts.length) := Lib.hid (by simp)
      rw [HONE.out] at HGONE
      generalize hP : canP rooms ts ts[k] = p at HG HCAN
      generalize hT : ts.set k (go1 ts[k]) = ts' at HG HGONE HLN
      have HR : Hid (∀ W, Calls Try.prog 62 #[.agg #[.int .i64 ts[k].here, .int .i64 ts[k].wants]] W fun e w' => e = .returned (.bool (restB ts[k])) ∧ Below W.heap.size W w') := Lib.hid fun W => rests_any _ _ W
      generalize restB ts[k] = r at HG HR
      generalize ts[k].here = x0 at hx0 HR
      generalize ts[k].wants = x1 at hx1 HR
      clear hok hb1 hc0 hc1 hP hT hne HONE
      go_wp2_with fail
      refine (within_any _ _ _ _).mono ?_
      rintro e w' ⟨rfl, rfl⟩
      rw [hin]
      clear hin
      go_wp2_with fail
      refine (HR.out _).mono ?_
      rintro e w2 ⟨rfl, hb2⟩
      have HB2 := Lib.hid (below_next0 HB1.out hb2)
      clear hb2
      cases r with
      | true =>
        have E : Hid (goR rooms ts k = ([], 6)) := Lib.hid (by rw [HG.out]; rfl)
        go_wp2
        go_ret2
        exact ⟨none, 0, by rw [E.out]; rfl, by rw [E.out]; exact HNIL.out _, HB2.out⟩
      | false =>
        go_wp2_with fail
        refine (HCAN.out _ HB2.out).mono ?_
        rintro e w3 ⟨rfl, hb3⟩
        have HB3 := Lib.hid (below_next0 HB2.out hb3)
        clear hb3
        cases p with
        | false =>
          have E : Hid (goR rooms ts k = ([], 5)) := Lib.hid (by rw [HG.out]; rfl)
          go_wp2
          go_ret2
          exact ⟨none, 0, by rw [E.out]; rfl, by rw [E.out]; exact HNIL.out _, HB3.out⟩
        | true =>
          have E : Hid (goR rooms ts k = (ts', 0)) := Lib.hid (by rw [HG.out]; rfl)
          have HSH := Lib.hid (shl8 k (by omega))
          go_wp2_with fail
          rw [HSH.out]
          refine (HGONE.out _ HB3.out).mono ?_
          rintro e w4 ⟨A4, c4, rfl, hown, hb4⟩
          have hs3 := HB3.out.size
          have HO := Lib.hid hown; have HB4 := Lib.hid (below_next0 HB3.out hb4)
          clear hown hb4
          go_wp2
          go_ret2
          exact ⟨A4, c4, by rw [E.out]; simp only [HLN.out]; rfl, by rw [E.out]; simp only [HLN.out]; exact Ow.mono (by have := HO.out; unfold OwGuest at this; rwa [HLN.out] at this) hs3, HB4.out⟩

set_option maxHeartbeats 1000000 in
theorem specGoOne_any (v u : Value) (rooms : List Int) (ts : List Guest) (kb : Int) (w : World) (hv : SlI w v rooms ∧ rooms.length ≤ 1048576) (hu : SlGuest w u ts ∧ ts.length ≤ 1048576) (hkb : -9223372036854775808 ≤ kb ∧ kb ≤ 9223372036854775807) :
    Calls Try.prog 35 #[v, u, .int .i64 kb] w fun e w' => ∃ A c, e = .returned (.tuple #[.slice A (goR rooms ts kb).1.length c, .int .i64 (goR rooms ts kb).2]) ∧ OwGuest w' w.heap.size (.slice A (goR rooms ts kb).1.length c) (goR rooms ts kb).1 ∧ Below w.heap.size w w' := by
  obtain ⟨hv, hl⟩ := hv
  obtain ⟨hu, hts⟩ := hu
  have HV := Lib.hid hv; have HU := Lib.hid hu
  obtain ⟨B, d, rfl, hlb, hcs⟩ := hu.op
  have HA := Lib.hid hcs
  clear hv hu hcs
  have HNIL := Lib.hid (fun w' : World => owG_nil w' w.heap.size)
  go_enter Try.func35, Try.ntmps35
  go_wp2_with fail
  refine (l10Ok_any _ _ rooms ts _ HV.out HU.out hl hts).mono ?_
  rintro e w1 ⟨rfl, hb1⟩
  cases hok : roomsOk rooms ts with
  | false =>
    have E : Hid (goR rooms ts kb = ([], 1)) := Lib.hid (by unfold goR; rw [hok]; rfl)
    go_wp2
    go_ret2
    exact ⟨none, 0, by rw [E.out]; rfl, by rw [E.out]; exact HNIL.out _, hb1⟩
  | true =>
    have HOK := Lib.hid hok
    obtain ⟨-, -, h4, -, -⟩ := roomsOk_at hok
    have HB1 := Lib.hid hb1
    cases hin : inB kb 0 ((ts.length : Int) - 1) with
    | false =>
      have E : Hid (goR rooms ts kb = ([], 2)) := Lib.hid (by unfold goR; rw [hok, hin]; rfl)
      clear hok
      go_wp2_with (go_at_call 64; refine (l00In_any _ _ _ _).mono ?_; rintro e w' ⟨rfl, rfl⟩; rw [hin])
      go_ret2
      exact ⟨none, 0, by rw [E.out]; rfl, by rw [E.out]; exact HNIL.out _, hb1⟩
    | true =>
      have hkk := inB_iff.1 hin
      obtain ⟨k, rfl⟩ := Int.eq_ofNat_of_zero_le hkk.1
      have hk : k < ts.length := by omega
      have hki : (k : Int) < (ts.length : Int) := by omega
      obtain ⟨b, o, rfl, hbs, hc0, hc1⟩ := HA.out k hk
      have hx0 := (hb1.cell (p := ⟨b, o + k * 2, none⟩) hbs).trans hc0
      have hx1 := (hb1.cell (p := ⟨b, o + k * 2 + 1, none⟩) hbs).trans hc1
      have HG : Hid (goR rooms ts k = if restB ts[k] = true then ([], 6) else (if canP rooms ts ts[k] = true then (ts.set k (go1 ts[k]), 0) else ([], 5))) := Lib.hid (by unfold goR; rw [hok, hin]; simp [hk])
      have HCAN := Lib.hid (fun W (hW : Below w.heap.size w W) => l10Can_any _ _ rooms ts k W (HV.out.ex hW) (HU.out.ex hW) HOK.out hk)
      have HGONE := Lib.hid (fun W (hW : Below w.heap.size w W) => l10Gone_any _ ts k W (HU.out.ex hW) h4 hk)
      have hne : ¬ (ts.set k (go1 ts[k])).length ≠ ts.length := by simp
      have HLN : Hid ((ts.set k (go1 ts[k])).length = ts.length) := Lib.hid (by simp)
      generalize hP : canP rooms ts ts[k] = p at HG HCAN
      generalize hT : ts.set k (go1 ts[k]) = ts' at HG HGONE HLN
      have HRB : Hid (restB ts[k] = (ts[k].here == ts[k].wants)) := Lib.hid rfl
      generalize restB ts[k] = r at HG HRB
      generalize ts[k].here = x0 at hx0 HRB
      generalize ts[k].wants = x1 at hx1 HRB
      clear hok hb1 hc0 hc1 hP hT hne
      go_wp2_with fail
      refine (l00In_any _ _ _ _).mono ?_
      rintro e w' ⟨rfl, rfl⟩
      rw [hin]
      clear hin
      go_wp2
      go_quiet (fail)
      have HB2 := Lib.hid (below_drewN HB1.out nq)
      cases hrr : (x0 == x1) with
      | true =>
        have E : Hid (goR rooms ts k = ([], 6)) := Lib.hid (by rw [HG.out, HRB.out, hrr]; rfl)
        go_wp2
        go_ret2
        exact ⟨none, 0, by rw [E.out]; rfl, by rw [E.out]; exact HNIL.out _, HB2.out⟩
      | false =>
        rw [HRB.out, hrr] at HG
        go_wp2_with fail
        refine (HCAN.out _ HB2.out).mono ?_
        rintro e w3 ⟨rfl, hb3⟩
        have HB3 := Lib.hid (below_next0 HB2.out hb3)
        clear hb3
        cases p with
        | false =>
          have E : Hid (goR rooms ts k = ([], 5)) := Lib.hid (by rw [HG.out]; rfl)
          go_wp2
          go_ret2
          exact ⟨none, 0, by rw [E.out]; rfl, by rw [E.out]; exact HNIL.out _, HB3.out⟩
        | true =>
          have E : Hid (goR rooms ts k = (ts', 0)) := Lib.hid (by rw [HG.out]; rfl)
          go_wp2_with fail
          refine (HGONE.out _ HB3.out).mono ?_
          rintro e w4 ⟨A4, c4, rfl, hown, hb4⟩
          have hs3 := HB3.out.size
          have HO := Lib.hid hown; have HB4 := Lib.hid (below_next0 HB3.out hb4)
          clear hown hb4
          go_wp2
          go_ret2
          exact ⟨A4, c4, by rw [E.out]; simp only [HLN.out]; rfl, by rw [E.out]; simp only [HLN.out]; unfold OwGuest; rw [HLN.out]; exact Ow.mono HO.out hs3, HB4.out⟩
end Go.Proofs.Ytedoibgclplnaaa
