/-
How a statement of this seat is closed: the law answers true and only makes new memory; and how its arguments open: slices of int64, of bytes, slices of slices, structs of int64. Conditions: the form's own reach.
-/
import Derived.Test.YtlgeddbgbcineaaBase
import Derived.ProofKit
import Derived.SizedLaws
import Derived.OpenShut
import Derived.Deep.Slices
import Derived.Deep.Fields
import Derived.Lib.SmallJoins
namespace Go.Proofs.Ytlgeddbgbcineaa
open Go.ChangeShapes Go.WideShapes Go.ChangeAt Go.RowKit Go.Deep Go.Joins
set_option linter.unusedVariables false

theorem own : ownKnob Try.prog.godebug = none := by kernel_rfl
theorem laidOut : laidOutB Try.prog = true := by kernel_rfl

/-- every argument reads behind the call as it read before -/
theorem trodAll_below {H : Type} {enc : TypeId × Value → H} {P : Program} (hl : laidOutB P = true) {W W' : World} (hb : Below W.heap.size W W') :
    ∀ (ts : List TypeId) (vs : List Value) (ds : List (DataW H)) (ps : List MemPlace), (∀ t ∈ ts, P.readableRec t = true ∧ t < P.types.size) →
      DataW.TrodAll enc P W 0 (fun _ => true) true ts vs ds ps → (∀ x ∈ ps, x.block < W.heap.size) → DataW.TrodAll enc P W' 0 (fun b => decide (b < W.heap.size)) true ts vs ds ps
  | [], _, _, _, _, h, _ => by obtain ⟨rfl, rfl, rfl⟩ := trodAll_nil h; exact trodAll_mk0
  | t :: ts, _, _, _, ht, h, hlt => by
    obtain ⟨v, vs, d, ds, p, q, rfl, rfl, rfl, h0, hr⟩ := trodAll_cons h
    exact ⟨p, q, Below.trod hl (ht t (by simp)).1 (ht t (by simp)).2 h0 hb (fun x hx => hlt x (by simp [hx])),
      trodAll_below hl hb ts vs ds q (fun u hu => ht u (by simp [hu])) hr (fun x hx => hlt x (by simp [hx])), rfl⟩

theorem trodAll_length {H : Type} {enc : TypeId × Value → H} {P : Program} {W : World} {base : Nat} {sp : Nat → Bool} {hd : Bool} :
    ∀ (ts : List TypeId) (vs : List Value) (ds : List (DataW H)) (ps : List MemPlace), DataW.TrodAll enc P W base sp hd ts vs ds ps → ds.length = ts.length
  | [], _, _, _, h => by obtain ⟨rfl, rfl, rfl⟩ := trodAll_nil h; rfl
  | t :: ts, _, _, _, h => by
    obtain ⟨v, vs, d, ds, p, q, rfl, rfl, rfl, h0, hr⟩ := trodAll_cons h
    simp [trodAll_length ts vs ds q hr]

set_option maxRecDepth 100000 in
/-- WHAT A LAW's STATEMENT WANTS OF ITS WALK: from the readings of the arguments, 'it returns true and only makes new memory'. -/
theorem law_lifted {f : FuncId} {fn : Func} {s : ChangeSpec} {conds : List PathCond} (os : Os) (started : os.Started) (H : Type) (enc : TypeId × Value → H)
    (noInit : Try.checked.prog.inits.idxOf? f = none) (hfn : Try.checked.prog.funcs[f]? = some fn)
    (witness : ∃ (w : World) (tape : Tape) (i : Input), w.os = os ∧ (w.forCall tape i).Shaped Try.checked.prog ∧ i.vars = [] ∧ Input.okWide Try.checked.prog (w.forCall tape i) .any w.heap.size f i ∧
      s.pre6 enc Try.checked.prog fn conds false (w.forCall tape i).memory i.args ∧ ({} : Assume).holds Try.checked.prog (lone (Frame.enter Try.checked.prog f i.args .normal) [] (w.forCall tape i)))
    (hvars : s.vars = []) (hvt : s.plain.varTypes Try.checked.prog = []) (hrt : fn.resultTypes = #[4]) (hread : ∀ t ∈ fn.params.toList, Try.prog.readableRec t = true ∧ t < Try.prog.types.size)
    (hspec : ∀ ds : List (DataW H), ds.length = fn.params.toList.length → (s.fn H ds).results = [.lit (.bool true)] ∧ (s.fn H ds).args = ds ∧ (s.fn H ds).vars = [])
    (contract : ∀ (W : World) (base : Nat) (args : Array Value) (ds : List (DataW H)) (p : List MemPlace),
      (∀ (j : Nat) t v, fn.params[j]? = some t → args[j]? = some v → Value.okWide Try.prog W .any base t v) →
      DataW.TrodAll enc Try.prog W 0 (fun _ => true) true fn.params.toList args.toList ds p → (∀ x ∈ p, x.block < W.heap.size) →
      (DataW.weightsEach Try.prog fn.params.toList ds).all (· ≤ reachBytes) = true →
      Calls Try.prog f args W fun e W' => e = .returned (.bool true) ∧ Below W.heap.size W W') :
    ReturnsInHanded {} Try.checked os f .any (s.pre6 enc Try.checked.prog fn conds false) (s.post enc Try.checked.prog fn false true false false) := by
  refine returnsInHanded_of_change_sized (C := Try.checked) own started noInit hfn witness ?_
  intro W base args ds gs before hval hW _ hsz _
  have hW' := hW
  obtain ⟨p, q, hA, hV, rfl, _, _⟩ := hW
  rw [hvars] at hV
  obtain ⟨rfl, rfl⟩ := trodVars_none hV
  have hlt : ∀ x ∈ p, x.block < W.heap.size := fun x hx => by
    have := hW'.lt x (by simp [hx])
    simpa using this
  have hsz' : (DataW.weightsEach Try.prog fn.params.toList ds).all (· ≤ reachBytes) = true := by
    rw [hvt] at hsz
    simp only [List.append_nil] at hsz
    exact hsz
  have hval' : ∀ (j : Nat) t v, fn.params[j]? = some t → args[j]? = some v → Value.okWide Try.prog W .any base t v := hval
  have hA' : DataW.TrodAll enc Try.prog W 0 (fun _ => true) true fn.params.toList args.toList ds p := hA
  have hcall : Calls Try.checked.prog f args W fun e W' => e = .returned (.bool true) ∧ Below W.heap.size W W' := contract W base args ds p hval' hA' hlt hsz'
  refine hcall.mono fun e W' ⟨he, hb⟩ => ?_
  subst he
  obtain ⟨hr, ha, hv⟩ := hspec ds (trodAll_length _ _ _ _ hA)
  refine ⟨_, rfl, ds, [], _, [], p, [], hW', ?_, ?_, ?_, hb.frame _, fun h => by cases h⟩
  · simp only [List.append_nil]; rw [hr, hrt]
    exact trodAll_cons_mk (shut_bool Try.underlying4 true) trodAll_mk0
  · simp only [List.append_nil]; rw [ha]
    exact trodAll_below laidOut hb _ _ _ _ hread hA hlt
  · simp only [List.append_nil]; rw [hv, hvars]
    exact rfl

theorem cell_there {w : World} {a : Addr} {v : Value} (h : w.cell? a = some v) : a = ⟨a.block, a.off, none⟩ ∧ a.block < w.heap.size := by
  have hb : a.block < w.heap.size := by
    rcases Nat.lt_or_ge a.block w.heap.size with h1 | h1
    · exact h1
    · simp [World.cell?, Array.getElem?_eq_none h1] at h
  refine ⟨?_, hb⟩
  obtain ⟨b, o, s⟩ := a
  cases s with
  | none => rfl
  | some x => simp [World.cell?] at h; split at h <;> simp_all
theorem cel_of_add {w : World} {a : Addr} {cs : List Value} (h : ∀ (i : Nat) (hi : i < cs.length), w.cell? (a.add i) = some cs[i]) : Cel w (some a) cs := fun h0 => by
  have h1 := h 0 h0
  have ha : a.add 0 = a := by simp [Addr.add]
  rw [ha] at h1
  obtain ⟨he, hb⟩ := cell_there h1
  refine ⟨a.block, a.off, by rw [← he], hb, fun k hk => ?_⟩
  rw [← h k hk]
  by_cases hk0 : k = 0
  · subst hk0; rw [ha, Nat.add_zero, ← he]
  · simp [Addr.add, hk0]

section
variable {H : Type} {enc : TypeId × Value → H} {P : Program} {W : World} {base : Nat} {fuel : Nat} {t e : TypeId} {v : Value} {d : DataW H} {p : List MemPlace}

theorem openI (hu : P.underlying t = some (.slice e)) (he : P.underlying e = some (.int .i64)) (hc : P.cellsOf e = 1) (hby : P.bytesOf e = 8)
    (h : DataW.trod enc P W base (fun _ => true) true fuel t [v] = some (d, p)) (hw : ∀ n ∈ d.weights P t, n ≤ reachBytes) : ∃ xs, SlI W v xs := by
  rcases open_ints hu he hc h with ⟨hcs, _⟩ | ⟨a, len, cap, zs, hcs, _, hl, hm, hz, hx, hcell, _⟩
  · injection hcs with hv _
    subst hv
    exact ⟨[], none, 0, rfl, rfl, by simp, fun h => absurd h (by simp)⟩
  · injection hcs with hv _
    subst hv
    simp only [if_true] at hz
    injection hx with hd _
    subst hd
    have h1 := hw _ (by simp only [DataW.weights, hu]; exact List.mem_cons_self)
    simp only [lits, List.length_map, List.length_take, List.length_drop, hby, hz, reachBytes] at h1
    have hlen : (zs.take len).length = len := by rw [List.length_take]; omega
    refine ⟨zs.take len, some a, cap, by rw [hlen], by simp, by omega, cel_of_add fun i hi => ?_⟩
    have hi' : i < len := by rw [List.length_map, hlen] at hi; exact hi
    rw [hcell i (by omega)]
    simp [List.getD_eq_getElem?_getD, show i < zs.length from by omega]

theorem openII {e2 : TypeId} (hu : P.underlying t = some (.slice e)) (hue : P.underlying e = some (.slice e2)) (he : P.underlying e2 = some (.int .i64)) (hce : P.cellsOf e = 1) (hc : P.cellsOf e2 = 1) (hbe : P.bytesOf e = 24) (hby : P.bytesOf e2 = 8)
    (h : DataW.trod enc P W base (fun _ => true) true fuel t [v] = some (d, p)) (hw : ∀ n ∈ d.weights P t, n ≤ reachBytes) : ∃ xss, SlII W v xss := by
  rcases open_slice hu h with ⟨hcs, _⟩ | ⟨a, len, cap, m, n, D, Pl, hcs, _, hl, hm, hmm, hx, hi⟩
  · injection hcs with hv _
    subst hv
    exact ⟨[], [], ⟨none, 0, rfl, rfl, by simp, fun h => absurd h (by simp)⟩, fun i h _ => absurd h (by simp)⟩
  · injection hcs with hv _
    subst hv
    simp only [if_true] at hmm
    subst hmm
    injection hx with hd _
    subst hd
    have h1 := hw _ (by simp only [DataW.weights, hu]; exact List.mem_cons_self)
    simp only [List.length_map, List.length_range, hbe, reachBytes] at h1
    have hall : ∀ i, i < len → ∃ u xs, W.cell? (a.add i) = some u ∧ SlI W u xs := by
      intro i hil
      obtain ⟨cs', hc1, ht⟩ := hi i (by omega)
      rw [hce] at hc1
      obtain ⟨_, hcl, hat⟩ := World.cells?_some hc1
      match cs', hcl with
      | [u], _ =>
        have h2 := hat 0 (by omega)
        have ha : (a.add (i * 1)).add 0 = a.add i := by simp [Addr.add]
        rw [ha] at h2
        obtain ⟨xs, hxs⟩ := openI hue he hc hby ht (fun k hk => hw k (by
          simp only [DataW.weights, hu]
          refine List.mem_cons_of_mem _ (List.mem_append_left _ ?_)
          have : ∀ (l : List Nat), i ∈ l → k ∈ DataW.weightsAll P e (l.map D) := by
            intro l
            induction l with
            | nil => intro h; cases h
            | cons x r ih =>
              intro h
              simp only [List.map_cons, DataW.weightsAll, List.mem_append]
              rcases List.mem_cons.1 h with rfl | h
              · exact .inl hk
              · exact .inr (ih h)
          exact this _ (by simpa using hil)))
        exact ⟨u, xs, h2, hxs⟩
    have hex : ∃ us : List Value, ∃ xss : List (List Int), us.length = len ∧ xss.length = len ∧ ∀ i (h1 : i < us.length) (h2 : i < xss.length), W.cell? (a.add i) = some us[i] ∧ SlI W us[i] xss[i] := by
      clear hi h hw hl hm h1
      induction len with
      | zero => exact ⟨[], [], rfl, rfl, fun i h => absurd h (by simp)⟩
      | succ k ih =>
        obtain ⟨us, xss, hu1, hx1, hi1⟩ := ih (fun i hi => hall i (by omega))
        obtain ⟨u, xs, hcu, hxs⟩ := hall k (by omega)
        refine ⟨us ++ [u], xss ++ [xs], by simp [hu1], by simp [hx1], fun i h1 h2 => ?_⟩
        by_cases hik : i < k
        · have := hi1 i (by omega) (by omega)
          rw [List.getElem_append_left (by omega), List.getElem_append_left (by omega)]; exact this
        · have hik' : i = k := by simp [hu1] at h1; omega
          subst hik'
          have e1 : (us ++ [u])[i] = u := by simp [List.getElem_append_right, hu1]
          have e2 : (xss ++ [xs])[i] = xs := by simp [List.getElem_append_right, hx1]
          rw [e1, e2]; exact ⟨hcu, hxs⟩
    obtain ⟨us, xss, hu1, hx1, hi1⟩ := hex
    refine ⟨xss, us, ⟨some a, _, by rw [hx1], by omega, by omega, cel_of_add fun i hil => (hi1 i hil (by omega)).1⟩, fun i h1 h2 => (hi1 i h1 h2).2⟩

theorem argI {r : Reach} {b0 : Nat} (hu : P.underlying t = some (.slice e)) (he : P.underlying e = some (.int .i64)) (hc : P.cellsOf e = 1) (hby : P.bytesOf e = 8)
    (hv : Value.okWide P W r b0 t v) (h : DataW.Trod enc P W base (fun _ => true) true t v d p) (hw : ∀ n ∈ d.weights P t, n ≤ reachBytes) : ∃ xs, SlI W v xs := by
  obtain ⟨a0, len, cap, rfl⟩ := okWide_slice hu hv
  obtain ⟨fuel, hf⟩ := h
  exact openI hu he hc hby (by simpa [Value.cells] using hf) hw
theorem argII {e2 : TypeId} {r : Reach} {b0 : Nat} (hu : P.underlying t = some (.slice e)) (hue : P.underlying e = some (.slice e2)) (he : P.underlying e2 = some (.int .i64)) (hce : P.cellsOf e = 1) (hc : P.cellsOf e2 = 1) (hbe : P.bytesOf e = 24) (hby : P.bytesOf e2 = 8)
    (hv : Value.okWide P W r b0 t v) (h : DataW.Trod enc P W base (fun _ => true) true t v d p) (hw : ∀ n ∈ d.weights P t, n ≤ reachBytes) : ∃ xss, SlII W v xss := by
  obtain ⟨a0, len, cap, rfl⟩ := okWide_slice hu hv
  obtain ⟨fuel, hf⟩ := h
  exact openII hu hue he hce hc hbe hby (by simpa [Value.cells] using hf) hw
end
theorem wf_bd {x : Int} (h : (Lit.int .i64 x).wf = true) : -9223372036854775808 ≤ x ∧ x ≤ 9223372036854775807 := by
  have h1 : IntKind.i64.min = -9223372036854775808 := rfl
  have h2 : IntKind.i64.max = 9223372036854775807 := rfl
  simp only [Lit.wf, Bool.and_eq_true, decide_eq_true_eq] at h
  omega
/-- a weight of one argument is bounded by the reach -/
theorem weight_arg {H : Type} {P : Program} {ts : List TypeId} {ds : List (DataW H)} (h : (DataW.weightsEach P ts ds).all (· ≤ reachBytes) = true) {j : Nat} {t : TypeId} {d : DataW H} (ht : ts[j]? = some t) (hd : ds[j]? = some d) : ∀ n ∈ d.weights P t, n ≤ reachBytes :=
  fun n hn => by simpa using List.all_eq_true.1 h n (DataW.weights_mem_each ht hd n hn)
end Go.Proofs.Ytlgeddbgbcineaa
