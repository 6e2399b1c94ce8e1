/-
The reference's source of choices: l00From, next, pick, one, each by its contract: a number of a range; the source goes on, and nothing else changes. Conditions: the source is a block of its own, its code a slice of bytes in another one; few choices were taken.
-/
import Derived.Test.YtlgeddbgbcineaaGrs
import Derived.Laws.Bits64b
import Derived.Laws.Closers25b
import Derived.IntWalk
namespace Go.Proofs.Ytlgeddbgbcineaa
open Go.RowKit
set_option linter.unusedVariables false
set_option linter.unusedSimpArgs false

theorem Ow.lay (W : World) {lo sz : Nat} (e : TypeId) (cur : Array Value) (k : Nat) (hlo : lo ≤ W.heap.size) (hk : k ≤ 1048576) (hs : cur.size = k * sz) : Ow (W.alloc (.cells cur e)) lo e sz (.slice (some ⟨W.heap.size, 0, none⟩) k k) k cur.toList := by
  refine ⟨⟨by simp [hs], .inr ⟨W.heap.size, k, cur, rfl, hlo, (MapKept.heap_alloc W _).1, Nat.le_refl _, by unfold maxLen; omega, hs, ?_⟩⟩, by omega⟩
  exact List.take_of_length_le (by simp [hs])

theorem OwI.ow {W : World} {lo n : Nat} {v : Value} {xs : List Int} (h : OwI W lo v xs) (hl : xs.length = n) : Ow W lo 2 1 v n (xs.map (Value.int .i64)) := by
  unfold OwI at h; rwa [hl] at h
/-- a cell of a row of one-cell elements -/
theorem Ow.at1 {W : World} {lo n c i : Nat} {e : TypeId} {A : Option Addr} {us : List Value} (h : Ow W lo e 1 (.slice A n c) n us) (hi : i < us.length) : ∃ g, A = some ⟨g, 0, none⟩ ∧ g < W.heap.size ∧ W.cell? ⟨g, i, none⟩ = some us[i] := by
  have hlen := h.len
  rcases Ow.form h with ⟨_, h0, _⟩ | ⟨g, c', hA, _, hg, hl⟩
  · omega
  injection hA with hA hn9 hc
  subst hA hc
  exact ⟨g, rfl, hg, Ow.cell h hi⟩
structure SrcW (w : World) (g hi m : Nat) (v : Value) (bs : List Int) (k : Nat) (sd : Int) : Prop where
  cell : Ow w 0 93 3 (.slice (some ⟨g, 0, none⟩) 1 1) 1 [v, .int .i64 (k : Int), .int .u64 sd]
  sl : Sl w 1 v bs.length (bs.map (Value.int .u8))
  off : 0 < bs.length → ∀ b, v.ownBlock = some b → b < hi ∧ b ≠ g
  gh : g < hi
  hw : hi ≤ w.heap.size
  by8 : ∀ b ∈ bs, 0 ≤ b ∧ b ≤ 255
  km : k ≤ m
  s0 : 0 ≤ sd
  s1 : sd ≤ 18446744073709551615
/-- block g is a source from which at most m choices were taken; it and its code lie below hi -/
def Src (w : World) (g hi m : Nat) : Prop := ∃ v bs k sd, SrcW w g hi m v bs k sd
/-- of what was there block g alone may have changed -/
abbrev Gr1 (g : Nat) (w w' : World) : Prop := GrS (fun k => k = g) w w'
section
variable {w w' : World} {g hi m m' : Nat}
theorem Src.mono (h : Src w g hi m) (hm : m ≤ m') : Src w g hi m' := by
  obtain ⟨v, bs, k, sd, h⟩ := h
  exact ⟨v, bs, k, sd, { h with km := Nat.le_trans h.km hm }⟩
theorem Src.gh (h : Src w g hi m) : g < hi := by obtain ⟨v, bs, k, sd, h⟩ := h; exact h.gh
theorem Src.hw (h : Src w g hi m) : hi ≤ w.heap.size := by obtain ⟨v, bs, k, sd, h⟩ := h; exact h.hw
theorem Src.gr {R : Nat → Prop} (h : Src w g hi m) (hg : GrS R w w') (hR : ∀ k, R k → hi ≤ k) : Src w' g hi m := by
  obtain ⟨v, bs, k, sd, h⟩ := h
  refine ⟨v, bs, k, sd, { h with cell := h.cell.off hg ?_, sl := h.sl.off hg ?_, hw := Nat.le_trans h.hw hg.size }⟩
  · intro b hb hr
    have e : b = g := by simpa [Value.ownBlock] using hb.symm
    have := hR b hr; have := h.gh; omega
  · intro h0 b hb hr
    have h1 := hR b hr; have h2 := (h.off (by simpa using h0) b hb).1; omega
theorem Src.ex (h : Src w g hi m) (hb : Below w.heap.size w w') : Src w' g hi m := h.gr (GrS.ofBelow (R := fun _ => False) hb) (fun _ hr => hr.elim)
theorem grS_below {B : Nat} (hb : Below B w w') : GrS (fun i => B ≤ i) w w' := ⟨hb.os, hb.tape, hb.output, hb.size, fun k hk hn => hb.block k (by omega)⟩
theorem Src.bl {B : Nat} (h : Src w g hi m) (hb : Below B w w') (hB : hi ≤ B) : Src w' g hi m := h.gr (grS_below hb) (fun _ hk => Nat.le_trans hB hk)
theorem GrS.bl {w0 : World} {B : Nat} (h : Gr1 g w0 w) (hb : Below B w w') (hB : w0.heap.size ≤ B) : Gr1 g w0 w' := h.transNew (grS_below hb) (fun i hi hr => absurd hr (by omega))
theorem Ow.gr1 {v : Value} {lo sz n : Nat} {e : TypeId} {cs : List Value} (h : Ow w lo e sz v n cs) (hg : Gr1 g w w') (hl : g < lo) : Ow w' lo e sz v n cs := h.off hg (Off.new h (fun k hk => by omega))
theorem Sl.gr1 {v : Value} {sz n : Nat} {cs : List Value} (h : Sl w sz v n cs) (hg : Gr1 g w w') (ho : 0 < cs.length → Off (fun k => k = g) v) : Sl w' sz v n cs := h.off hg ho
/-- the source is new: nothing that was there has changed -/
theorem GrS.belowNew {w0 : World} (h : Gr1 g w w') (hg : w0.heap.size ≤ g) (hb : Below w0.heap.size w0 w) : Below w0.heap.size w0 w' := hb.trans (GrS.below h (fun k _ hk => by omega) hb.size)
theorem Src.row {v : Value} {lo sz n : Nat} {e : TypeId} {cs : List Value} (h : Src w g hi m) (hg : w.grownBy w' v.ownBlock) (hv : Ow w lo e sz v n cs) (hl : hi ≤ lo) : Src w' g hi m :=
  h.gr (GrS.ofGrown (R := fun k => v.ownBlock = some k) hg (fun _ hk => hk)) (fun k hk => by have := (hv.lt k hk).1; omega)
end
/-- a number is chosen -/
def Cho (P : Int → Prop) (g hi m : Nat) (w : World) (e : Ending) (w' : World) : Prop := ∃ x : Int, P x ∧ e = .returned (.int .i64 x) ∧ Src w' g hi m ∧ Gr1 g w w'

theorem gr1_next (w : World) (g : Nat) (x y : Value) (a b : Nat) : Gr1 g w ((((w.drewN a).setCell ⟨g, 1, none⟩ x).setCell ⟨g, 2, none⟩ y).drewN b) :=
  GrS.drewN (GrS.trans (GrS.trans (GrS.drewN (GrS.refl (fun k => k = g) w) a) (GrS.set (R := fun k => k = g) (p := ⟨g, 1, none⟩) rfl x)) (GrS.set (R := fun k => k = g) (p := ⟨g, 2, none⟩) rfl y)) b
/-- one choice, as the source is left behind it -/
theorem SrcW.next {w : World} {g hi m : Nat} {v : Value} {bs : List Int} {k : Nat} {sd sd' : Int} (h : SrcW w g hi m v bs k sd) (h0 : 0 ≤ sd') (h1 : sd' ≤ 18446744073709551615) (a b : Nat) :
    Src ((((w.drewN a).setCell ⟨g, 1, none⟩ (.int .i64 ((k : Int) + 1))).setCell ⟨g, 2, none⟩ (.int .u64 sd')).drewN b) g hi (m + 1) := by
  have hc : Ow ((((w.drewN a).setCell ⟨g, 1, none⟩ (.int .i64 ((k : Int) + 1))).setCell ⟨g, 2, none⟩ (.int .u64 sd')).drewN b) 0 93 3 (.slice (some ⟨g, 0, none⟩) 1 1) 1 [v, .int .i64 ((k : Int) + 1), .int .u64 sd'] :=
    (((h.cell.drewN a).set 1 (.int .i64 ((k : Int) + 1))).set 2 (.int .u64 sd')).drewN b
  have hg := gr1_next w g (.int .i64 ((k : Int) + 1)) (.int .u64 sd') a b
  exact ⟨v, bs, k + 1, sd', { cell := hc, sl := h.sl.off hg (fun h0 b hb hr => (h.off (by simpa using h0) b hb).2 hr), off := h.off, gh := h.gh, hw := Nat.le_trans h.hw hg.size, by8 := h.by8, km := Nat.succ_le_succ h.km, s0 := h0, s1 := h1 }⟩
theorem wrap64u (x : Int) : 0 ≤ IntKind.u64.wrap x ∧ IntKind.u64.wrap x ≤ 18446744073709551615 := by rw [IntKind.wrap_u64]; omega
theorem and255 (x : Int) (h0 : 0 ≤ x) (h1 : x ≤ 18446744073709551615) : 0 ≤ bits .and .u64 x 255 ∧ bits .and .u64 x 255 ≤ 255 := by
  obtain ⟨n, rfl⟩ := Int.eq_ofNat_of_zero_le h0
  have h := bits_and_u64_nat n 255 (by omega) (by omega)
  have h2 : n &&& 255 ≤ 255 := Nat.and_le_right
  rw [show ((255 : Nat) : Int) = 255 from rfl] at h
  rw [h]; omega

theorem last255 (y : Int) (h0 : 0 ≤ y) (h1 : y ≤ 18446744073709551615) : 0 ≤ wrap64 (bits .and .u64 (y / 1099511627776) 255) ∧ wrap64 (bits .and .u64 (y / 1099511627776) 255) ≤ 255 := by
  obtain ⟨a, b⟩ := and255 (y / 1099511627776) (by omega) (by omega)
  generalize bits .and .u64 (y / 1099511627776) 255 = z at a b ⊢
  have e : wrap64 z = z := by unfold wrap64; omega
  rw [e]; exact ⟨a, b⟩
set_option maxHeartbeats 1000000 in
theorem next_any (g hi m : Nat) (w : World) (h : Src w g hi m) (hm : m ≤ 1048576) :
    Calls Try.prog 89 #[.pointer (some ⟨g, 0, none⟩)] w (Cho (fun x => 0 ≤ x ∧ x ≤ 255) g hi (m + 1) w) := by
  obtain ⟨v, bs, k, sd, hS⟩ := h
  have HS := Lib.hid hS
  have hkm := hS.km
  have hs0 := hS.s0; have hs1 := hS.s1
  have hv := hS.sl
  have c0 := Ow.cell hS.cell (k := 0) (by simp); have c1 := Ow.cell hS.cell (k := 1) (by simp); have c2 := Ow.cell hS.cell (k := 2) (by simp)
  have f1 := Ow.free hS.cell 1; have f2 := Ow.free hS.cell 2
  simp only [List.getElem_cons_zero, List.getElem_cons_succ] at c0 c1 c2
  clear hS
  obtain ⟨A, c, rfl, hl, hn, hc⟩ := hv
  by_cases hk : k < bs.length
  · obtain ⟨b, o, rfl, hb, hcell⟩ := hc (by rw [hl]; omega)
    have hx := hcell k (by rw [hl]; omega)
    have hki : (k : Int) < (bs.length : Int) := by omega
    have hkle : (k : Int) + 1 ≤ (bs.length : Int) := by omega
    rw [List.getElem_map] at hx
    obtain ⟨hb0, hb1⟩ := HS.out.by8 _ (List.getElem_mem hk)
    generalize bs[k] = y at hx hb0 hb1
    clear hcell hc hl
    go_enter Try.func89, Try.ntmps89
    go_wp2
    go_quiet (fail)
    go_wp2
    go_quiet (fail)
    go_wp2
    go_quiet (fail)
    go_wp2
    go_ret
    exact ⟨_, ⟨hb0, hb1⟩, rfl, HS.out.next (wrap64u _).1 (wrap64u _).2 _ _, gr1_next _ _ _ _ _ _⟩
  · have hki : ¬ ((k : Int) < (bs.length : Int)) := by omega
    have hkle : ¬ ((k : Int) + 1 ≤ (bs.length : Int)) := by omega
    clear hc hl
    go_enter Try.func89, Try.ntmps89
    go_wp2
    go_quiet (fail)
    go_wp2
    go_quiet (fail)
    go_wp2
    go_ret
    exact ⟨_, last255 _ (wrap64u _).1 (wrap64u _).2, rfl, HS.out.next (wrap64u _).1 (wrap64u _).2 _ _, gr1_next _ _ _ _ _ _⟩

theorem cho_mono {P P' : Int → Prop} {g hi m m' : Nat} {w : World} {e : Ending} {w' : World} (h : Cho P g hi m w e w') (hP : ∀ x, P x → P' x) (hm : m ≤ m') : Cho P' g hi m' w e w' := by
  obtain ⟨x, hx, he, hs, hg⟩ := h
  exact ⟨x, hP x hx, he, hs.mono hm, hg⟩
/-- pick: a number from 0 to n - 1, 0 where n is 1 or less -/
def Pck (n x : Int) : Prop := 0 ≤ x ∧ (x < n ∨ x = 0)
set_option maxHeartbeats 1000000 in
theorem pick_any (g hi m : Nat) (n : Int) (w : World) (h : Src w g hi m) (hm : m ≤ 1048000) :
    Calls Try.prog 79 #[.pointer (some ⟨g, 0, none⟩), .int .i64 n] w (Cho (Pck n) g hi (m + 2) w) := by
  have HS := Lib.hid h; clear h
  by_cases h1 : n ≤ 1
  · go_enter Try.func79, Try.ntmps79
    go_wp2
    go_ret
    exact ⟨0, ⟨Int.le_refl _, .inr rfl⟩, rfl, HS.out.mono (by omega), GrS.refl _ _⟩
  · by_cases h2 : 200 < n
    · go_enter Try.func79, Try.ntmps79
      go_wp2_with fail
      refine (next_any g hi m _ HS.out (by omega)).mono ?_
      rintro e w1 ⟨x, ⟨hx0, hx1⟩, rfl, hs1, hg1⟩
      have HS1 := Lib.hid hs1; have HG1 := Lib.hid hg1
      clear hs1 hg1
      go_wp2_with fail
      refine (next_any g hi (m + 1) _ HS1.out (by omega)).mono ?_
      rintro e w2 ⟨y, ⟨hy0, hy1⟩, rfl, hs2, hg2⟩
      have HS2 := Lib.hid hs2; have HG2 := Lib.hid (HG1.out.trans hg2)
      clear hs2 hg2
      go_wp2
      go_ret
      refine ⟨_, ⟨?_, .inl ?_⟩, rfl, HS2.out, HG2.out⟩
      · exact Int.emod_nonneg _ (by omega)
      · exact Int.emod_lt_of_pos _ (by omega)
    · go_enter Try.func79, Try.ntmps79
      go_wp2_with fail
      refine (next_any g hi m _ HS.out (by omega)).mono ?_
      rintro e w1 ⟨x, ⟨hx0, hx1⟩, rfl, hs1, hg1⟩
      have HS1 := Lib.hid hs1; have HG1 := Lib.hid hg1
      clear hs1 hg1
      go_wp2
      go_ret
      refine ⟨_, ⟨?_, .inl ?_⟩, rfl, HS1.out.mono (by omega), HG1.out⟩
      · exact Int.emod_nonneg _ (by omega)
      · exact Int.emod_lt_of_pos _ (by omega)
/-- pick of a positive number -/
theorem pick_pos (g hi m : Nat) (n : Int) (w : World) (h : Src w g hi m) (hm : m ≤ 1048000) (hn : 1 ≤ n) :
    Calls Try.prog 79 #[.pointer (some ⟨g, 0, none⟩), .int .i64 n] w (Cho (fun x => 0 ≤ x ∧ x < n) g hi (m + 2) w) :=
  (pick_any g hi m n w h hm).mono fun _ _ hc => cho_mono hc (fun x hx => ⟨hx.1, by rcases hx.2 with h | h <;> omega⟩) (Nat.le_refl _)
/-- a Bool is chosen -/
def ChoB (g hi m : Nat) (w : World) (e : Ending) (w' : World) : Prop := ∃ b : Bool, e = .returned (.bool b) ∧ Src w' g hi m ∧ Gr1 g w w'
theorem one_any (g hi m : Nat) (n : Int) (w : World) (h : Src w g hi m) (hm : m ≤ 1048000) :
    Calls Try.prog 80 #[.pointer (some ⟨g, 0, none⟩), .int .i64 n] w (ChoB g hi (m + 2) w) := by
  have HS := Lib.hid h; clear h
  go_enter Try.func80, Try.ntmps80
  go_wp2_with fail
  refine (pick_any g hi m n _ HS.out (by omega)).mono ?_
  rintro e w1 ⟨x, hx, rfl, hs1, hg1⟩
  have HS1 := Lib.hid hs1; have HG1 := Lib.hid hg1
  clear hs1 hg1 hx
  go_wp2
  go_ret
  exact ⟨_, rfl, HS1.out, HG1.out⟩
/-- a slice of bytes, of whatever length -/
def SlB (w : World) (v : Value) (bs : List Int) : Prop := (∃ A c, v = .slice A bs.length c ∧ bs.length ≤ 140737488355328 ∧ Cel w A (bs.map (Value.int .u8))) ∧ ∀ b ∈ bs, 0 ≤ b ∧ b ≤ 255
theorem SlB.ex {w w' : World} {v : Value} {bs : List Int} (h : SlB w v bs) (hb : Below w.heap.size w w') : SlB w' v bs := by
  obtain ⟨⟨A, c, h1, h2, h3⟩, h4⟩ := h
  exact ⟨⟨A, c, h1, h2, h3.ex hb⟩, h4⟩
theorem SlB.sl {w : World} {v : Value} {bs : List Int} (h : SlB w v bs) (hl : bs.length ≤ 1048576) : Sl w 1 v bs.length (bs.map (Value.int .u8)) := by
  obtain ⟨⟨A, c, h1, h2, h3⟩, _⟩ := h
  exact ⟨A, c, h1, by simp, by omega, h3⟩
theorem SlB.op {w : World} {v : Value} {bs : List Int} (h : SlB w v bs) : ∃ A c, v = .slice A bs.length c ∧ bs.length ≤ 140737488355328 := by
  obtain ⟨⟨A, c, h1, h2, _⟩, _⟩ := h
  exact ⟨A, c, h1, h2⟩
/-- a source is made -/
def NewSrc (w : World) (e : Ending) (w' : World) : Prop := e = .returned (.pointer (some ⟨w.heap.size, 0, none⟩)) ∧ Src w' w.heap.size (w.heap.size + 1) 0 ∧ Below w.heap.size w w'
theorem from_any (v : Value) (bs : List Int) (w : World) (hv : SlB w v bs) (hl : bs.length ≤ 1048576) : Calls Try.prog 55 #[v] w (NewSrc w) := by
  have HV := Lib.hid (hv.sl hl)
  have HR := Lib.hid hv.2
  obtain ⟨A, c, rfl, _⟩ := hv.op
  clear hv
  go_enter Try.func55, Try.ntmps55
  go_wp2
  go_ret
  have hb := below_alloc w (.cells #[.slice A bs.length c, .int .i64 0, .int .u64 0] 93)
  have hc := Ow.lay w (lo := 0) (sz := 3) 93 #[.slice A bs.length c, .int .i64 0, .int .u64 0] 1 (Nat.zero_le _) (by omega) rfl
  refine ⟨rfl, ⟨_, bs, 0, 0, { cell := hc, sl := HV.out.ex hb, off := ?_, gh := Nat.lt_succ_self _, hw := by simp, by8 := HR.out, km := Nat.le_refl _, s0 := Int.le_refl _, s1 := by omega }⟩, hb⟩
  intro h0 b hb2
  obtain ⟨A', c', hv, _, _, hcell⟩ := HV.out
  injection hv with hA _ _
  obtain ⟨b', o', hA', hlt, _⟩ := hcell (by simpa using h0)
  rw [hA, hA'] at hb2
  have e : b' = b := by simpa [Value.ownBlock] using hb2
  omega
end Go.Proofs.Ytlgeddbgbcineaa
