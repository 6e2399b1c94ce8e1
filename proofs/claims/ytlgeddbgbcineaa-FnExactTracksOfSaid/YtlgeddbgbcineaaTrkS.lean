/-
l14Has, l14Follow of the reference. Condition: valid readings.
-/
import Derived.Test.YtlgeddbgbcineaaTrkI
import Derived.Test.YtlgeddbgbcineaaPrs
namespace Go.Proofs.Ytlgeddbgbcineaa
open Go.RowKit
set_option linter.unusedVariables false

theorem l14Has_any (x : Value) (fs : List Int) (j : Int) (w : World) (hx : SlI w x fs) (hl : fs.length ≤ 1048576) :
    Calls Try.prog 74 #[x, .int .i64 j] w fun e w' => e = .returned (.bool (fs.contains j)) ∧ w = w' := by
  obtain ⟨A, c, rfl, _, ha⟩ := hx.op
  have HA := Lib.hid ha
  clear hx ha
  go_enter Try.func74, Try.ntmps74
  go_wp2
  go_loop [5] (fun i => ∃ k : Nat, k ≤ fs.length ∧ i = .int .i64 k ∧ Hid (fs.contains j = (fs.drop k).contains j)) (fun i => fs.length - (intOf i).toNat)
  case atStart => exact ⟨0, Nat.zero_le _, rfl, Lib.hid rfl⟩
  case round =>
    obtain ⟨k, hk, rfl, HC⟩ := hrel
    by_cases hlt : k < fs.length
    · have hki : (k : Int) < (fs.length : Int) := by omega
      obtain ⟨b, o, rfl, hb, hc⟩ := HA.out k hlt
      have hx := hc k hlt
      have HD : Hid ((fs.drop k).contains j = ((j == fs[k]) || (fs.drop (k + 1)).contains j)) := Lib.hid (by rw [List.drop_eq_getElem_cons hlt, List.contains_cons])
      generalize fs[k] = y at hx HD
      clear hc
      by_cases e : y = j
      · have hb1 : (y == j) = true := by simpa using e
        have HE : Hid (fs.contains j = true) := Lib.hid (by rw [HC.out, HD.out, e]; simp)
        clear e
        go_wp2
        go_ret
        exact ⟨ret_bool (by have h := HE.out; simpa using h.symm), rfl⟩
      · have hb1 : (y == j) = false := by simpa using e
        have HE : Hid (fs.contains j = (fs.drop (k + 1)).contains j) := Lib.hid (by
          rw [HC.out, HD.out]
          have : (j == y) = false := by simpa using fun h => e h.symm
          rw [this]; rfl)
        clear e
        go_wp2
        go_round
        case rel => exact ⟨k + 1, by omega, by go_num, HE⟩
        case measure => simp [intOf]; omega
    · have hki : ¬ ((k : Int) < (fs.length : Int)) := by omega
      have HE : Hid (fs.contains j = false) := Lib.hid (by rw [HC.out, List.drop_eq_nil_of_le (by omega)]; rfl)
      go_wp2
      go_ret
      exact ⟨ret_bool (by have h := HE.out; simpa using h), rfl⟩
/-- append of one int -/
theorem wpList_appN (wr : World) {ops : Array Oper} {rest : List Oper} {o : Oper} {a : Act} {Q : Exit → Act → World → Prop} (hgd : o.guard = none) (s x : Operand)
    (ho : o.op = .call { callee := .builtin .append, args := #[s, x], argTypes := #[80, 80] })
    (lo B : Nat) (w0 : World) (A : Option Addr) (n c : Nat) (xs : List Int) (u : Int) (e' : TypeId) (cx : Nat) (hs : a.eval s = .slice A n c) (hown : OwN wr lo (.slice A n c) xs) (hlen : xs.length = n)
    (hx : a.eval x = .slice (some ⟨wr.heap.size, 0, none⟩) 1 cx) (hb : Below B w0 wr) (hB : B ≤ lo) (hlo : lo ≤ wr.heap.size) (hn : n + 1 ≤ 17592186044416)
    (h : ∀ A3 c3 w3, OwN w3 lo (.slice A3 (n + 1) c3) (xs ++ [u]) → wr.heap.size < w3.heap.size → Below B w0 w3 → wpList Try.prog ops Q rest (a.put o.dst (.slice A3 (n + 1) c3)) w3) :
    wpList Try.prog ops Q (o :: rest) a (wr.alloc (.cells #[.int .i64 u] e')) := by
  subst hlen
  refine wpList_app wr hgd s x 80 ho lo 3 (.int .i64 0) 1 8 Try.underlying80 infoN rfl (by omega) (.slice A xs.length c) xs.length _ hs hown #[.int .i64 u] e' cx hx rfl ?_ hn (by omega) hlo ?_
  · intro v hv; simp at hv; subst hv; rfl
  · intro A3 c3 w3 hown3 hg3 hsz3 _
    refine h A3 c3 w3 ?_ hsz3 (below_own hb hown hg3 (Nat.le_trans hB hlo) hB)
    unfold OwN
    simpa using hown3

set_option maxRecDepth 100000 in
set_option maxHeartbeats 2000000 in
theorem l14Follow_any (v u : Value) (gs : List (List Int)) (ts : List Reading) (w : World) (hv : SlII w v gs) (hu : SlReading w u ts) (hok : readsOk gs ts = true) :
    Calls Try.prog 73 #[v, u] w fun e w' => ∃ A c, e = .returned (.slice A ts.length c) ∧ OwN w' w.heap.size (.slice A ts.length c) (fsG gs ts) ∧ Below w.heap.size w w' := by
  have HV := Lib.hid hv; have HU := Lib.hid hu
  obtain ⟨Ag, cg, rfl, hlg, _⟩ := hv.op
  obtain ⟨Ar, cr, rfl, hlr, har⟩ := hu.op
  obtain ⟨hgk, h14, hfit⟩ := readsOk_ok hok
  have HAR := Lib.hid har
  obtain ⟨n, hn⟩ : ∃ n, n = ts.length := ⟨_, rfl⟩
  have HN := Lib.hid hn
  have HPR : Hid (∀ (x : Value) (fs : List Int) (W : World), Below w.heap.size w W → SlI W x fs → FsOk (edG gs ts) n fs → Calls Try.prog 69 #[.slice Ag gs.length cg, .slice Ar ts.length cr, x] W fun e w' => e = .returned (.int .i64 ((mostK (ER (edG gs ts) fs) n : Nat) : Int)) ∧ Below W.heap.size W w') :=
    Lib.hid (fun x fs W hW hx hf => by subst hn; rw [← pairs_most hf]; exact l14Pairs_any _ _ x gs ts fs W (HV.out.ex hW) (HU.out.ex hW) hx hok hf)
  have HMAY : Hid (∀ W (i j : Nat) (hi : i < ts.length) (hj : j < ts.length), Below w.heap.size w W → Calls Try.prog 60 #[.slice Ag gs.length cg, .agg #[.int .i64 ts[i].sensor, .int .i64 ts[i].tick], .agg #[.int .i64 ts[j].sensor, .int .i64 ts[j].tick]] W fun e w' => e = .returned (.bool (edG gs ts i j)) ∧ Below W.heap.size W w') :=
    Lib.hid fun W i j hi hj hW => by rw [edG_at hi hj]; exact l14May_any _ gs _ _ _ _ W (HV.out.ex hW) hgk (hfit _ (List.getElem_mem hi)) (hfit _ (List.getElem_mem hj))
  have HFS : Hid (fsG gs ts = folK (edG gs ts) ts.length ts.length) := Lib.hid rfl
  have HME : Hid (mostK (ER (edG gs ts) []) ts.length = mostK (edG gs ts) ts.length) := Lib.hid (most_cong (fun i b _ _ => ER_nil _ i b))
  generalize hE0 : edG gs ts = E at HPR HMAY HFS HME
  clear hE0
  rw [← hn] at HFS HME h14
  have HKL0 := Lib.hid (fol_len E n)
  have HKO : Hid (∀ k, k ≤ n → FsOk E n (folK E n k)) := Lib.hid (fun k hk => fol_ok E n k hk)
  have HKS : Hid (∀ k, folK E n (k + 1) = folK E n k ++ [firstK (testK E n (folK E n k)) n n]) := Lib.hid (fun _ => rfl)
  have HK0 : Hid (folK E n 0 = []) := Lib.hid rfl
  generalize folK E n = FK at HKL0 HKO HKS HK0 HFS
  generalize fsG gs ts = FL at HFS
  have hmq := most_le E n
  obtain ⟨mq, HMQ⟩ : ∃ mq : Nat, Hid (mostK E n = mq) := ⟨_, Lib.hid rfl⟩
  rw [HMQ.out] at hmq HME
  clear hv hu hok hfit har hn
  go_enter Try.func73, Try.ntmps73
  have hal := below_alloc w (.cells #[] 3)
  have HSE := Lib.hid (show SlI (w.alloc (.cells #[] 3)) (.slice (some ⟨w.heap.size, 0, none⟩) 0 0) [] from ⟨_, 0, rfl, rfl, by simp, fun h => absurd h (by simp)⟩)
  go_wp2_with fail
  refine (HPR.out _ [] _ hal HSE.out (FsOk.nil _ _)).mono ?_
  rintro e w1 ⟨rfl, hb1⟩
  rw [HME.out]
  have HB1 := Lib.hid (below_next0 hal hb1)
  clear hal hb1 HSE
  have HO0 := Lib.hid (owN_empty w1 w1.heap.size (Nat.le_refl _))
  have HX0 := Lib.hid (below_next0 HB1.out (below_alloc w1 (.cells #[] 3)))
  have hs1 := HB1.out.size
  go_wp2
  go_loopw [6, 7, 8, 9, 10] (fun v6 v7 _ _ _ wr => ∃ (k c : Nat) (A : Option Addr), v6 = .slice A k c ∧ v7 = .int .i64 k ∧ k ≤ n ∧ Hid (OwN wr w.heap.size (.slice A k c) (FK k)) ∧ Hid (Below w.heap.size w wr)) (fun _ v7 _ _ _ _ => n - (intOf v7).toNat)
  case atStart => exact ⟨0, 0, _, rfl, rfl, by omega, by rw [HK0.out]; exact Lib.hid (HO0.out.mono hs1), HX0⟩
  case round =>
    clear HO0 HX0
    obtain ⟨k, c, A, rfl, rfl, hk, HO, HB⟩ := hrel
    obtain ⟨wK, hwK⟩ : ∃ x : World, x = wr := ⟨wr, rfl⟩
    subst hwK
    by_cases hlt : k < n
    · have hki : (k : Int) < (ts.length : Int) := by have := HN.out; omega
      have hkt : k < ts.length := by have := HN.out; omega
      have HKL := Lib.hid (HKL0.out k)
      have HKSK := Lib.hid (HKS.out k)
      have HKOK := Lib.hid (HKO.out k hk)
      have HBR := Lib.hid (Below.refl wK.heap.size wK)
      have hsK := HB.out.size
      go_wp2
      go_loopw [8, 9, 10] (fun v8 v9 _ wr => ∃ (j : Nat) (best : Int), v8 = .int .i64 best ∧ v9 = .int .i64 j ∧ j ≤ n ∧ Hid ((best = -1 ∧ firstK (testK E n (FK k)) n (n - j) = firstK (testK E n (FK k)) n n) ∨ (0 ≤ best ∧ best = firstK (testK E n (FK k)) n n)) ∧ Hid (Below wK.heap.size wK wr)) (fun _ v9 _ _ => n - (intOf v9).toNat)
      case atStart => exact ⟨0, -1, rfl, rfl, by omega, Lib.hid (.inl ⟨rfl, rfl⟩), HBR⟩
      case round =>
        clear HBR
        obtain ⟨j, best, rfl, rfl, hj, HF, HBW⟩ := hrel
        by_cases hgo : j < n ∧ best = -1
        · obtain ⟨hltj, hbest⟩ := hgo
          have hji : (j : Int) < (ts.length : Int) := by have := HN.out; omega
          have hjt : j < ts.length := by have := HN.out; omega
          have HFA := Lib.hid (firstK_at (t := testK E n (FK k)) hltj)
          have HFF : Hid (firstK (testK E n (FK k)) n (n - j) = firstK (testK E n (FK k)) n n) := Lib.hid (by rcases HF.out with h | h <;> omega)
          clear HF
          subst hbest
          have HTT : Hid (testK E n (FK k) j = (E k j && !((FK k).contains (j : Int)) && decide (mostK (ER E (FK k ++ [(j : Int)])) n = mostK E n))) := Lib.hid (by unfold testK; rw [HKL.out])
          rw [HMQ.out] at HTT
          have HOJ := Lib.hid (HO.out.ex HBW.out)
          have HBJ := Lib.hid (below_next0 HB.out HBW.out)
          have HM2 := Lib.hid (fun e => plus_below (HMAY.out (plus wr e) k j hkt hjt (below_next0 HBJ.out (below_plus wr e))))
          have HH := Lib.hid (fun e => plus_same (l14Has_any (.slice A k c) (FK k) (j : Int) (plus wr e) (HOJ.out.ex (below_plus wr e)).sl (by rw [HKL.out]; omega)))
          obtain ⟨b1, o1, rfl, hb1, hc0, hc1⟩ := HAR.out k hkt
          obtain ⟨b2, o2, hA2, hb2, hd0, hd1⟩ := HAR.out j hjt
          injection hA2 with hA2
          injection hA2 with h8 h9 _
          subst h8 h9
          have hp0 := cell_plus ((HBJ.out.cell (p := ⟨b1, o1 + k * 2, none⟩) hb1).trans hc0)
          have hp1 := cell_plus ((HBJ.out.cell (p := ⟨b1, o1 + k * 2 + 1, none⟩) hb1).trans hc1)
          have hq0 := cell_plus ((HBJ.out.cell (p := ⟨b1, o1 + j * 2, none⟩) hb2).trans hd0)
          have hq1 := cell_plus ((HBJ.out.cell (p := ⟨b1, o1 + j * 2 + 1, none⟩) hb2).trans hd1)
          clear hc0 hc1 hd0 hd1
          generalize ts[k].sensor = x0 at hp0 HM2
          generalize ts[k].tick = x1 at hp1 HM2
          generalize ts[j].sensor = y0 at hq0 HM2
          generalize ts[j].tick = y1 at hq1 HM2
          cases hE : E k j with
          | false =>
            rw [hE] at HM2 HTT
            have HNX : Hid (firstK (testK E n (FK k)) n (n - (j + 1)) = firstK (testK E n (FK k)) n n) := Lib.hid (by rw [← HFF.out, HFA.out, if_neg (by rw [HTT.out]; simp)])
            clear hE
            go_wp2
            refine wp_region_plus (by kernel_rfl) (by kernel_rfl) ?_
            repeat (go_big_quiet_step (((first | (go_at_call 60; exact HM2.out _) | (go_at_call 74; exact HH.out _)))))
            refine wpQuiet_nil ?_
            intro wq hwq
            replace hwq := below_of_plus hwq
            clear hp0 hp1 hq0 hq1
            have HBQ := Lib.hid (below_next0 HBW.out hwq)
            go_wp2
            go_roundw
            case rel => exact ⟨j + 1, -1, rfl, by go_num, by omega, Lib.hid (.inl ⟨rfl, HNX.out⟩), HBQ⟩
            case measure => simp [intOf]; omega
          | true =>
            rw [hE] at HM2 HTT
            cases hcb : (FK k).contains (j : Int) with
            | true =>
              rw [hcb] at HH HTT
              have HNX : Hid (firstK (testK E n (FK k)) n (n - (j + 1)) = firstK (testK E n (FK k)) n n) := Lib.hid (by rw [← HFF.out, HFA.out, if_neg (by rw [HTT.out]; simp)])
              clear hE hcb
              go_wp2
              refine wp_region_plus (by kernel_rfl) (by kernel_rfl) ?_
              repeat (go_big_quiet_step (((first | (go_at_call 60; exact HM2.out _) | (go_at_call 74; exact HH.out _)))))
              refine wpQuiet_nil ?_
              intro wq hwq
              replace hwq := below_of_plus hwq
              clear hp0 hp1 hq0 hq1
              have HBQ := Lib.hid (below_next0 HBW.out hwq)
              go_wp2
              go_roundw
              case rel => exact ⟨j + 1, -1, rfl, by go_num, by omega, Lib.hid (.inl ⟨rfl, HNX.out⟩), HBQ⟩
              case measure => simp [intOf]; omega
            | false =>
              rw [hcb] at HH HTT
              have HFOK : Hid (FsOk E n (FK k ++ [(j : Int)])) := Lib.hid (HKOK.out.snoc (by rw [HKL.out]; exact hlt) hltj (by rw [HKL.out]; exact hE) (by intro h; rw [List.contains_iff_mem.2 h] at hcb; cases hcb))
              have HTU : Hid (testK E n (FK k) j = decide (mostK (ER E (FK k ++ [(j : Int)])) n = mq)) := Lib.hid (by rw [HTT.out]; simp)
              clear hE hcb HTT
              go_wp2
              refine wp_region_plus (by kernel_rfl) (by kernel_rfl) ?_
              repeat (go_big_quiet_step (((first | (go_at_call 60; exact HM2.out _) | (go_at_call 74; exact HH.out _)))))
              refine wpQuiet_nil ?_
              intro wq hwq
              replace hwq := below_of_plus hwq
              clear hp0 hp1 hq0 hq1 HM2 HH
              have HBQ := Lib.hid (below_next0 HBJ.out hwq)
              have HEM := Lib.hid (owN_empty wq wq.heap.size (Nat.le_refl _))
              have HSQ : Hid (Sl (wq.alloc (.cells #[] 3)) 1 (.slice A k c) k ((FK k).map (Value.int .i64))) := Lib.hid (by
                have h : SlI (wq.alloc (.cells #[] 3)) (.slice A k c) (FK k) := ((HOJ.out.ex hwq).ex (below_alloc wq _)).sl
                unfold SlI at h
                rw [HKL.out] at h; exact h)
              have HW1 := Lib.hid hwq
              clear hwq
              go_wp2_with (first
                | (at_builtin; refine wpList_cat (wq.alloc (.cells #[] 3)) rfl (.tmp 48) (.tmp 49) _ rfl wq.heap.size 3 (.int .i64 0) 1 8 Try.underlying80 infoN rfl (by omega) (.slice (some ⟨wq.heap.size, 0, none⟩) 0 0) 0 [] rfl HEM.out (.slice A k c) k _ rfl HSQ.out (by intro u hu; obtain ⟨x, _, rfl⟩ := List.mem_map.1 hu; rfl) (by omega) (by omega) (by simp) ?_; intro A3 c3 w3 _ hown3 hg3 hsz3; simp only [Nat.zero_add, List.nil_append] at hown3 ⊢; have HO3 : Hid (OwN w3 wq.heap.size (.slice A3 k c3) (FK k)) := Lib.hid (by unfold OwN; rw [HKL.out]; exact hown3); have HB3 := Lib.hid ((below_alloc wq (.cells #[] 3)).grown hg3 (by simp) (fun k hk => by simp [Value.ownBlock] at hk; omega)); have hs3 := HB3.out.size; clear hown3 hg3 hsz3)
                | (at_builtin; refine wpList_appN w3 rfl (.tmp 53) (.tmp 55) rfl wq.heap.size wq.heap.size wq A3 k c3 (FK k) (j : Int) 3 1 rfl HO3.out HKL.out rfl HB3.out (Nat.le_refl _) hs3 (by omega) ?_; intro A4 c4 w4 ho4 hs4 hb4; have HO4 := Lib.hid ho4; have HB4 := Lib.hid hb4; clear ho4 hs4 hb4)
                | fail)
              refine (HPR.out _ (FK k ++ [(j : Int)]) _ (below_next0 HBQ.out HB4.out) HO4.out.sl HFOK.out).mono ?_
              rintro e w5 ⟨rfl, hb5⟩
              have HB5 := Lib.hid (below_next0 HBW.out (below_next0 HW1.out (below_next0 HB4.out hb5)))
              clear hb5
              generalize mostK (ER E (FK k ++ [(j : Int)])) n = q at HTU
              by_cases hq : q = mq
              · have hqb : ((q : Int) == (mq : Int)) = true := by subst hq; simp
                have HNX : Hid ((j : Int) = firstK (testK E n (FK k)) n n) := Lib.hid (by rw [← HFF.out, HFA.out, if_pos (by rw [HTU.out]; exact decide_eq_true hq)])
                clear hq
                go_wp2
                go_roundw
                case rel => exact ⟨j + 1, (j : Int), rfl, by go_num, by omega, Lib.hid (.inr ⟨by omega, HNX.out⟩), HB5⟩
                case measure => simp [intOf]; omega
              · have hqb : ((q : Int) == (mq : Int)) = false := by rw [beq_eq_false_iff_ne]; omega
                have HNX : Hid (firstK (testK E n (FK k)) n (n - (j + 1)) = firstK (testK E n (FK k)) n n) := Lib.hid (by rw [← HFF.out, HFA.out, if_neg (by rw [HTU.out]; simpa using hq)])
                clear hq
                go_wp2
                go_roundw
                case rel => exact ⟨j + 1, -1, rfl, by go_num, by omega, Lib.hid (.inl ⟨rfl, HNX.out⟩), HB5⟩
                case measure => simp [intOf]; omega
        · have HBE : Hid (best = firstK (testK E n (FK k)) n n) := Lib.hid (by
            rcases HF.out with ⟨h1, h2⟩ | ⟨h1, h2⟩
            · have : j = n := by omega
              rw [this, Nat.sub_self] at h2
              rw [h1, ← h2]; rfl
            · exact h2)
          have HJB : Hid ((¬ (j : Int) < (ts.length : Int)) ∨ ((j : Int) < (ts.length : Int) ∧ decide (best < 0) = false)) := Lib.hid (by
            have hnn := HN.out
            rcases HF.out with ⟨h1, h2⟩ | ⟨h1, h2⟩
            · left; omega
            · by_cases h9 : j < n
              · exact .inr ⟨by omega, decide_eq_false (by omega)⟩
              · left; omega)
          have HFK1 : Hid (FK (k + 1) = FK k ++ [best]) := Lib.hid (by rw [HKSK.out, ← HBE.out])
          have HOJ := Lib.hid (HO.out.ex HBW.out)
          have HBJ := Lib.hid (below_next0 HB.out HBW.out)
          have hsJ := HBJ.out.size
          clear hgo HF
          rcases HJB.out with hjb | ⟨hjb1, hjb2⟩
          all_goals
            clear HJB
            go_wp2_with (first
              | (at_builtin; refine wpList_appN wr rfl (.tmp 61) (.tmp 63) rfl w.heap.size w.heap.size w A k c (FK k) best 3 1 rfl HOJ.out HKL.out rfl HBJ.out (Nat.le_refl _) hsJ (by omega) ?_; intro A4 c4 w4 ho4 hs4 hb4; have HO4 := Lib.hid ho4; have HB4 := Lib.hid hb4; clear ho4 hs4 hb4)
              | fail)
            go_roundw
            case rel => exact ⟨k + 1, c4, A4, rfl, by go_num, by omega, by rw [HFK1.out]; exact HO4, HB4⟩
            case measure => simp [intOf]; omega
    · have hkn : k = n := by omega
      have hki : ¬ ((k : Int) < (ts.length : Int)) := by have := HN.out; omega
      have HOF : Hid (OwN wK w.heap.size (.slice A ts.length c) FL) := Lib.hid (by rw [HFS.out, ← hkn]; have h := HO.out; rw [hkn, HN.out] at h ⊢; exact h)
      have HKT : Hid (k = ts.length) := Lib.hid (by rw [hkn, HN.out])
      clear hkn
      go_wp2
      go_ret
      exact ⟨A, c, by rw [HKT.out]; rfl, HOF.out, HB.out⟩
end Go.Proofs.Ytlgeddbgbcineaa
