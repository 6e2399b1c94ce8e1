/-
What the reference's search for all states has gathered: the states' rows, what was before each, by which move, and what was seen: plain laws, and that all of it stays. No condition beyond the premises.
-/
import Derived.Test.YtegabdhmfemgkaaPolS
import Derived.Test.YtegabdhmfemgkaaBools
import Derived.Test.YtegabdhmfemgkaaSrc
namespace Go.Proofs.Ytegabdhmfemgkaa
open Go.RowKit
set_option linter.unusedVariables false

/-- each state but the first has one before it, from which a move leads to it -/
structure Lnk (acc : Rch) (bf mv : List Int) : Prop where
  lb : bf.length = acc.length
  lm : mv.length = acc.length
  pos : 0 < acc.length
  ln : ∀ i, (h : i < acc.length) → (0 < i → ∃ p, ∃ hp : p < i, bf.getD i 0 = (p : Int) ∧ acc[i].2 = acc[p].2 ++ [mv.getD i 0]) ∧ (i = 0 → acc[i].2 = [])
theorem getD_left {l m : List Int} {i : Nat} (h : i < l.length) : (l ++ m).getD i 0 = l.getD i 0 := by
  simp [List.getD_eq_getElem?_getD, List.getElem?_append_left h]
theorem getD_last (l : List Int) (x : Int) : (l ++ [x]).getD l.length 0 = x := by simp [List.getD_eq_getElem?_getD]
theorem Lnk.snoc {acc : Rch} {bf mv : List Int} (h : Lnk acc bf mv) {k : Nat} (hk : k < acc.length) {s path : List Int} (hsp : acc[k] = (s, path)) (t : List Int) (c : Int) : Lnk (acc ++ [(t, path ++ [c])]) (bf ++ [(k : Int)]) (mv ++ [c]) := by
  refine ⟨by simp [h.lb], by simp [h.lm], by simp, fun i hi => ?_⟩
  by_cases e : i < acc.length
  · rw [List.getElem_append_left e]
    refine ⟨fun h0 => ?_, fun h0 => (h.ln i e).2 h0⟩
    obtain ⟨p, hp, h1, h2⟩ := (h.ln i e).1 h0
    refine ⟨p, hp, ?_, ?_⟩
    · rw [getD_left (by rw [h.lb]; exact e)]; exact h1
    · rw [List.getElem_append_left (by omega), getD_left (by rw [h.lm]; exact e)]; exact h2
  · have hil : i = acc.length := by simp at hi; omega
    subst hil
    refine ⟨fun _ => ⟨k, hk, ?_, ?_⟩, fun h0 => by have := h.pos; omega⟩
    · rw [← h.lb, getD_last]
    · have e1 : (acc ++ [(t, path ++ [c])])[acc.length]'hi = (t, path ++ [c]) := by simp
      rw [e1, List.getElem_append_left hk, hsp, ← h.lm, getD_last]
theorem Lnk.zero (z : List Int) : Lnk [(z, [])] [-1] [-1] := ⟨rfl, rfl, by simp, fun i hi => ⟨fun h0 => by simp at hi; omega, fun h0 => by subst h0; rfl⟩⟩

/-- what was seen -/
structure SeenOk (ls : List Nat) (acc : Rch) (bs : List Bool) : Prop where
  len : bs.length = 2401
  ok : ∀ t, Good ls t → bs.getD (numS t).toNat false = hasS acc t
theorem hasS_snoc (acc : Rch) (t path u : List Int) : hasS (acc ++ [(t, path)]) u = (hasS acc u || decide (t = u)) := by
  unfold hasS; rw [List.any_append]; simp
theorem SeenOk.snoc {ls : List Nat} (h5 : ∀ l ∈ ls, l ≤ 5) (h4 : ls.length ≤ 4) {acc : Rch} {bs : List Bool} (h : SeenOk ls acc bs) {t : List Int} (ht : Good ls t) (path : List Int) : SeenOk ls (acc ++ [(t, path)]) (bs.set (numS t).toNat true) := by
  refine ⟨by rw [List.length_set]; exact h.len, fun u hu => ?_⟩
  have n1 := ht.num h5 h4; have n2 := hu.num h5 h4
  rw [hasS_snoc]
  by_cases e : t = u
  · subst e
    have hl : (numS t).toNat < bs.length := by rw [h.len]; omega
    simp [List.getD_eq_getElem?_getD, hl]
  · have hne : (numS t).toNat ≠ (numS u).toNat := fun he => e (ht.num_inj hu h5 (by omega))
    rw [decide_eq_false e, Bool.or_false, ← h.ok u hu]
    simp only [List.getD_eq_getElem?_getD]
    rw [List.getElem?_set_ne hne]
theorem numS_zero : ∀ n : Nat, numS (zeroS n) = 0
  | 0 => rfl
  | n + 1 => numS_zero n
theorem SeenOk.zero {ls : List Nat} (h5 : ∀ l ∈ ls, l ≤ 5) (h4 : ls.length ≤ 4) : SeenOk ls [(zeroS ls.length, [])] ((List.replicate 2401 false).set 0 true) := by
  have h0 : SeenOk ls [] (List.replicate 2401 false) := ⟨List.length_replicate, fun t ht => by
    have n1 := ht.num h5 h4
    have hl : (numS t).toNat < 2401 := by omega
    rw [List.getD_eq_getElem?_getD, List.getElem?_replicate, if_pos hl]; rfl⟩
  have h1 := h0.snoc h5 h4 (good_zero ls) []
  rw [numS_zero] at h1
  exact h1
theorem SeenOk.get {ls : List Nat} {acc : Rch} {bs : List Bool} (h : SeenOk ls acc bs) {t : List Int} (ht : Good ls t) {N : Nat} (hN : numS t = (N : Int)) (hl : N < bs.length) : bs[N] = hasS acc t := by
  have h1 := h.ok t ht
  rw [hN] at h1
  simpa [List.getD_eq_getElem?_getD, hl] using h1

def RowsZ (W : World) (lo : Nat) (us : List Value) (xss : List (List Int)) : Prop := ∀ (i : Nat) (h : i < us.length) (h' : i < xss.length), OwI W lo us[i] xss[i]
/-- what lies in memory -/
structure AllS (w : World) (vs : Value) (n9 : Nat) (us : List Value) (sts : List (List Int)) (vb : Value) (n10 : Nat) (bf : List Int) (vm : Value) (n11 : Nat) (mv : List Int) (g : Nat) (bs : List Bool) (W : World) : Prop where
  st : Ow W w.heap.size 31 1 vs n9 us
  rows : RowsZ W w.heap.size us sts
  sep : ∀ (i : Nat) (h : i < us.length), i < sts.length → Sep us[i] vm
  be : Ow W w.heap.size 3 1 vb n10 (bf.map (Value.int .i64))
  mo : Ow W w.heap.size 2 1 vm n11 (mv.map (Value.int .i64))
  se : Ow W w.heap.size 4 1 (.slice (some ⟨g, 0, none⟩) 2401 2401) 2401 (bs.map Value.bool)
  below : Below w.heap.size w W
section
variable {w W W' : World} {vs vb vm vc : Value} {n9 n10 n11 g : Nat} {us : List Value} {sts : List (List Int)} {bf mv cs : List Int} {bs : List Bool}
theorem sep_hor {w : World} {lo lo' sz n sz' n' : Nat} {e e' : TypeId} {u v v' : Value} {ds : List Value} (h : Ow w lo e sz u n ds) (hs : Sep u v) (hor : v'.ownBlock = v.ownBlock ∨ ∀ g, v'.ownBlock = some g → w.heap.size ≤ g) : Sep u v' := by
  rcases hs with hs | hs
  · exact .inl hs
  · rcases hor with hor | hor
    · exact .inr (by rw [hor]; exact hs)
    · cases hu : u.ownBlock with
      | none => exact .inl hu
      | some j =>
        refine .inr fun hq => ?_
        rw [hu] at hq
        have h1 := hor j hq.symm
        have h2 := (h.lt j hu).2
        omega
theorem AllS.ex (h : AllS w vs n9 us sts vb n10 bf vm n11 mv g bs W) (hb : Below W.heap.size W W') : AllS w vs n9 us sts vb n10 bf vm n11 mv g bs W' :=
  ⟨h.st.ex hb, fun i h1 h2 => (h.rows i h1 h2).ex hb, h.sep, h.be.ex hb, h.mo.ex hb, h.se.ex hb, below_next0 h.below hb⟩
theorem AllS.see (h : AllS w vs n9 us sts vb n10 bf vm n11 mv g bs W) (k : Nat) : AllS w vs n9 us sts vb n10 bf vm n11 mv g (bs.set k true) (W.setCell ⟨g, k, none⟩ (.bool true)) := by
  have hg := Ow.grow (k := k) h.se (.bool true)
  have hs := Ow.set h.se k (.bool true)
  rw [← List.map_set] at hs
  exact ⟨h.st.keptS (u := .slice (some ⟨g, 0, none⟩) 2401 2401) hg (Ow.sep_type h.st h.se (by decide)), fun i h1 h2 => OwI.keptS (u := .slice (some ⟨g, 0, none⟩) 2401 2401) (h.rows i h1 h2) hg (Ow.sep_type (h.rows i h1 h2) h.se (by decide)), h.sep,
    h.be.keptS (u := .slice (some ⟨g, 0, none⟩) 2401 2401) hg (Ow.sep_type h.be h.se (by decide)), h.mo.keptS (u := .slice (some ⟨g, 0, none⟩) 2401 2401) hg (Ow.sep_type h.mo h.se (by decide)), hs, below_own h.below h.se hg h.below.size (Nat.le_refl _)⟩
theorem AllS.apS (h : AllS w vs n9 us sts vb n10 bf vm n11 mv g bs W) (hl : us.length = sts.length) {vs' u : Value} {s : List Int} (hu : OwI W w.heap.size u s) (hsu : Sep u vm) (ho : Ow W' w.heap.size 31 1 vs' (n9 + 1) (us ++ [u])) (hg : W.grownBy W' vs.ownBlock) :
    AllS w vs' (n9 + 1) (us ++ [u]) (sts ++ [s]) vb n10 bf vm n11 mv g bs W' := by
  refine ⟨ho, fun i h1 h2 => ?_, fun i h1 h2 => ?_, h.be.keptS hg (Ow.sep_type h.be h.st (by decide)), h.mo.keptS hg (Ow.sep_type h.mo h.st (by decide)), h.se.keptS hg (Ow.sep_type h.se h.st (by decide)), below_own h.below h.st hg h.below.size (Nat.le_refl _)⟩
  · by_cases e : i < us.length
    · rw [List.getElem_append_left e, List.getElem_append_left (by omega)]
      have h3 := h.rows i e (by omega)
      exact OwI.keptS h3 hg (Ow.sep_type h3 h.st (by decide))
    · have hi : i = us.length := by simp at h1; omega
      subst hi
      have e1 : (us ++ [u])[us.length]'h1 = u := by simp
      have e2 : (sts ++ [s])[us.length]'h2 = s := by simp [hl]
      rw [e1, e2]
      exact OwI.keptS hu hg (Ow.sep_type hu h.st (by decide))
  · by_cases e : i < us.length
    · rw [List.getElem_append_left e]
      exact h.sep i e (by omega)
    · have hi : i = us.length := by simp at h1; omega
      subst hi
      have e1 : (us ++ [u])[us.length]'h1 = u := by simp
      rw [e1]; exact hsu
theorem AllS.apB (h : AllS w vs n9 us sts vb n10 bf vm n11 mv g bs W) {vb' : Value} {x : Int} (ho : Ow W' w.heap.size 3 1 vb' (n10 + 1) (bf.map (Value.int .i64) ++ [.int .i64 x])) (hg : W.grownBy W' vb.ownBlock) :
    AllS w vs n9 us sts vb' (n10 + 1) (bf ++ [x]) vm n11 mv g bs W' :=
  ⟨h.st.keptS hg (Ow.sep_type h.st h.be (by decide)), fun i h1 h2 => OwI.keptS (h.rows i h1 h2) hg (Ow.sep_type (h.rows i h1 h2) h.be (by decide)), h.sep, by rw [List.map_append]; exact ho, h.mo.keptS hg (Ow.sep_type h.mo h.be (by decide)), h.se.keptS hg (Ow.sep_type h.se h.be (by decide)), below_own h.below h.be hg h.below.size (Nat.le_refl _)⟩
theorem AllS.apM (h : AllS w vs n9 us sts vb n10 bf vm n11 mv g bs W) {vm' : Value} {x : Int} (ho : Ow W' w.heap.size 2 1 vm' (n11 + 1) (mv.map (Value.int .i64) ++ [.int .i64 x])) (hg : W.grownBy W' vm.ownBlock) (hor : vm'.ownBlock = vm.ownBlock ∨ ∀ g, vm'.ownBlock = some g → W.heap.size ≤ g) :
    AllS w vs n9 us sts vb n10 bf vm' (n11 + 1) (mv ++ [x]) g bs W' :=
  ⟨h.st.keptS hg (Ow.sep_type h.st h.mo (by decide)), fun i h1 h2 => OwI.keptS (h.rows i h1 h2) hg (h.sep i h1 h2), fun i h1 h2 => sep_hor (sz' := 0) (n' := 0) (lo' := 0) (e' := 0) (h.rows i h1 h2) (h.sep i h1 h2) hor, h.be.keptS hg (Ow.sep_type h.be h.mo (by decide)), by rw [List.map_append]; exact ho, h.se.keptS hg (Ow.sep_type h.se h.mo (by decide)), below_own h.below h.mo hg h.below.size (Nat.le_refl _)⟩
end
/-- beside it the moves that are gone through -/
structure AllD (w : World) (vs : Value) (n9 : Nat) (us : List Value) (sts : List (List Int)) (vb : Value) (n10 : Nat) (bf : List Int) (vm : Value) (n11 : Nat) (mv : List Int) (g : Nat) (bs : List Bool) (vc : Value) (cs : List Int) (W : World) : Prop where
  c : AllS w vs n9 us sts vb n10 bf vm n11 mv g bs W
  m : OwI W w.heap.size vc cs
  ms : Sep vc vm
section
variable {w W W' : World} {vs vb vm vc : Value} {n9 n10 n11 g : Nat} {us : List Value} {sts : List (List Int)} {bf mv cs : List Int} {bs : List Bool}
theorem AllD.ex (h : AllD w vs n9 us sts vb n10 bf vm n11 mv g bs vc cs W) (hb : Below W.heap.size W W') : AllD w vs n9 us sts vb n10 bf vm n11 mv g bs vc cs W' := ⟨h.c.ex hb, h.m.ex hb, h.ms⟩
theorem AllD.see (h : AllD w vs n9 us sts vb n10 bf vm n11 mv g bs vc cs W) (k : Nat) : AllD w vs n9 us sts vb n10 bf vm n11 mv g (bs.set k true) vc cs (W.setCell ⟨g, k, none⟩ (.bool true)) :=
  ⟨h.c.see k, OwI.keptS (u := .slice (some ⟨g, 0, none⟩) 2401 2401) h.m (Ow.grow (k := k) h.c.se (.bool true)) (Ow.sep_type h.m h.c.se (by decide)), h.ms⟩
theorem AllD.apS (h : AllD w vs n9 us sts vb n10 bf vm n11 mv g bs vc cs W) (hl : us.length = sts.length) {vs' u : Value} {s : List Int} (hu : OwI W w.heap.size u s) (hsu : Sep u vm) (ho : Ow W' w.heap.size 31 1 vs' (n9 + 1) (us ++ [u])) (hg : W.grownBy W' vs.ownBlock) :
    AllD w vs' (n9 + 1) (us ++ [u]) (sts ++ [s]) vb n10 bf vm n11 mv g bs vc cs W' := ⟨h.c.apS hl hu hsu ho hg, OwI.keptS h.m hg (Ow.sep_type h.m h.c.st (by decide)), h.ms⟩
theorem AllD.apB (h : AllD w vs n9 us sts vb n10 bf vm n11 mv g bs vc cs W) {vb' : Value} {x : Int} (ho : Ow W' w.heap.size 3 1 vb' (n10 + 1) (bf.map (Value.int .i64) ++ [.int .i64 x])) (hg : W.grownBy W' vb.ownBlock) :
    AllD w vs n9 us sts vb' (n10 + 1) (bf ++ [x]) vm n11 mv g bs vc cs W' := ⟨h.c.apB ho hg, OwI.keptS h.m hg (Ow.sep_type h.m h.c.be (by decide)), h.ms⟩
theorem AllD.apM (h : AllD w vs n9 us sts vb n10 bf vm n11 mv g bs vc cs W) {vm' : Value} {x : Int} (ho : Ow W' w.heap.size 2 1 vm' (n11 + 1) (mv.map (Value.int .i64) ++ [.int .i64 x])) (hg : W.grownBy W' vm.ownBlock) (hor : vm'.ownBlock = vm.ownBlock ∨ ∀ g, vm'.ownBlock = some g → W.heap.size ≤ g) :
    AllD w vs n9 us sts vb n10 bf vm' (n11 + 1) (mv ++ [x]) g bs vc cs W' := ⟨h.c.apM ho hg hor, OwI.keptS h.m hg h.ms, sep_hor (sz' := 0) (n' := 0) (lo' := 0) (e' := 0) h.m h.ms hor⟩
end
theorem keepZ {w1 w2 : World} {g gm i j : Nat} {a b : Value} (h : w1.cell? ⟨g, i, none⟩ = some a ∧ w1.cell? ⟨gm, j, none⟩ = some b) (hg : Below w1.heap.size w1 w2) : w2.cell? ⟨g, i, none⟩ = some a ∧ w2.cell? ⟨gm, j, none⟩ = some b := by
  obtain ⟨h1, h2⟩ := h
  exact ⟨(hg.cell (World.block_lt_of_cell? _ _ h1)).trans h1, (hg.cell (World.block_lt_of_cell? _ _ h2)).trans h2⟩
end Go.Proofs.Ytegabdhmfemgkaa
