/-
All states that the program reaches: the walk. Condition: the slices read as lists; valid halls and ways.
-/
import Derived.Test.YtegabdhmfemgkaaMapZ
import Derived.Deep.CutRange
namespace Go.Proofs.Ytegabdhmfemgkaa
open Go.RowKit
set_option linter.unusedVariables false
set_option linter.unusedSimpArgs false

def knownF (acc : Rch) : List Int → Option Bool := fun s => if hasS acc s = true then some true else none
def RowsI (W : World) (lo : Nat) (us : List Value) (pss : List (List Int)) : Prop := ∀ (i : Nat) (h : i < us.length) (h' : i < pss.length), OwI W lo us[i] pss[i]
/-- each list of moves is shorter than what is reached -/
def PthOk (acc : Rch) : Prop := ∀ q ∈ acc, q.2.length < acc.length
theorem PthOk.step {acc : Rch} (h : PthOk acc) {s path : List Int} (hp : path.length < acc.length) (c : Int) : PthOk (stepN s path acc c) := by
  unfold stepN
  split
  · exact h
  · intro q hq
    rcases List.mem_append.1 hq with hq | hq
    · have := h q hq; simp; omega
    · obtain rfl := List.mem_singleton.1 hq
      simp; omega
theorem PthOk.steps {s path : List Int} : ∀ (cs : List Int) {acc : Rch}, PthOk acc → path.length < acc.length → PthOk (stepsN s path acc cs)
  | [], _, h, _ => h
  | c :: cs, acc, h, hp => PthOk.steps cs (h.step hp c) (Nat.lt_of_lt_of_le hp (stepN_pre s path acc c).length_le)
theorem bfs_pth (mv : List Int → List Int) (z : List Int) : ∀ i, PthOk (bfs mv z i)
  | 0 => by intro q hq; obtain rfl := List.mem_singleton.1 hq; simp [bfs]
  | i + 1 => by
    show PthOk (roundN mv (bfs mv z i) i)
    unfold roundN
    split
    · rename_i hi
      exact PthOk.steps _ (bfs_pth mv z i) (bfs_pth mv z i _ (List.getElem_mem hi))
    · exact bfs_pth mv z i
theorem keepM {w0 w1 w2 : World} {g g4 i : Nat} {x y m a b c d : Value}
    (h : w1.cell? ⟨g, 0, none⟩ = some x ∧ w1.cell? ⟨g, 1, none⟩ = some y ∧ w1.cell? ⟨g, 2, none⟩ = some m ∧ w1.cell? ⟨g4, i, none⟩ = some a ∧ w1.cell? ⟨g4, i + 1, none⟩ = some b ∧ w1.cell? ⟨g4, i + 2, none⟩ = some c ∧ w1.cell? ⟨g4, i + 3, none⟩ = some d ∧ Below w0.heap.size w0 w1)
    (hg : Below w1.heap.size w1 w2) :
    w2.cell? ⟨g, 0, none⟩ = some x ∧ w2.cell? ⟨g, 1, none⟩ = some y ∧ w2.cell? ⟨g, 2, none⟩ = some m ∧ w2.cell? ⟨g4, i, none⟩ = some a ∧ w2.cell? ⟨g4, i + 1, none⟩ = some b ∧ w2.cell? ⟨g4, i + 2, none⟩ = some c ∧ w2.cell? ⟨g4, i + 3, none⟩ = some d ∧ Below w0.heap.size w0 w2 := by
  obtain ⟨h1, h2, h3, h4, h5, h6, h7, h8⟩ := h
  have l1 : g < w1.heap.size := World.block_lt_of_cell? _ _ h1
  have l2 : g4 < w1.heap.size := World.block_lt_of_cell? _ _ h4
  exact ⟨(hg.cell l1).trans h1, (hg.cell l1).trans h2, (hg.cell l1).trans h3, (hg.cell l2).trans h4, (hg.cell l2).trans h5, (hg.cell l2).trans h6, (hg.cell l2).trans h7, below_next0 h8 hg⟩
theorem boxS (W : World) (s : List Int) : Ow (W.alloc (.cells #[.int .i64 (plc s 0), .int .i64 (plc s 1), .int .i64 (plc s 2), .int .i64 (plc s 3)] 86)) W.heap.size 86 4 (.slice (some ⟨W.heap.size, 0, none⟩) 1 1) 1 (stC s) ∧
    Below W.heap.size W (W.alloc (.cells #[.int .i64 (plc s 0), .int .i64 (plc s 1), .int .i64 (plc s 2), .int .i64 (plc s 3)] 86)) :=
  ⟨Ow.made (lo := W.heap.size) (sz := 4) W 86 #[.int .i64 (plc s 0), .int .i64 (plc s 1), .int .i64 (plc s 2), .int .i64 (plc s 3)] W.heap.size 1 rfl (Nat.le_refl _) (by omega) rfl, below_alloc W _⟩
theorem knownF_put (ac : Rch) (t path : List Int) (u : List Int) : putS (knownF ac) t true u = knownF (ac ++ [(t, path)]) u := by
  unfold putS knownF
  by_cases e : u = t
  · subst e; simp [hasS]
  · have e2 : ¬ t = u := fun h => e h.symm
    rw [if_neg e]
    unfold hasS
    rw [List.any_append]
    rw [List.any_cons, List.any_nil, Bool.or_false, decide_eq_false e2, Bool.or_false]
theorem knownF_get (ac : Rch) (t : List Int) : (knownF ac t).getD false = hasS ac t := by
  unfold knownF
  cases hasS ac t <;> rfl
/-- what a call has gathered, beside the moves it goes through -/
structure RchD (ls : List Nat) (w : World) (x y : Value) (mo : Int) (A4 : Option Addr) (n4 c4 : Nat) (sts : List (List Int)) (A5 : Option Addr) (n5 c5 : Nat) (us : List Value) (pss : List (List Int)) (b n : Nat) (f : List Int → Option Bool) (vm : Value) (ms : List Int) (W : World) : Prop where
  c : RchC ls w x y mo A4 n4 c4 sts A5 n5 c5 us pss b n f W
  m : OwN W w.heap.size vm ms
section
variable {ls : List Nat} {w W W' : World} {x y vm : Value} {mo : Int} {A4 A5 : Option Addr} {n4 c4 n5 c5 b n : Nat} {sts pss : List (List Int)} {us : List Value} {f : List Int → Option Bool} {ms : List Int}
theorem RchD.ex (h : RchD ls w x y mo A4 n4 c4 sts A5 n5 c5 us pss b n f vm ms W) (hb : Below W.heap.size W W') : RchD ls w x y mo A4 n4 c4 sts A5 n5 c5 us pss b n f vm ms W' := ⟨h.c.ex hb, h.m.ex hb⟩
theorem RchD.stApp (h : RchD ls w x y mo A4 n4 c4 sts A5 n5 c5 us pss b n f vm ms W) {g' c' : Nat} {s : List Int} (ho : Ow W' w.heap.size 86 4 (.slice (some ⟨g', 0, none⟩) (n4 + 1) c') (n4 + 1) (sts.flatMap stC ++ stC s)) (hg : W.grownBy W' (Value.slice A4 n4 c4).ownBlock) :
    RchD ls w x y mo (some ⟨g', 0, none⟩) (n4 + 1) c' (sts ++ [s]) A5 n5 c5 us pss b n f vm ms W' := ⟨h.c.stApp ho hg, Ow.keptS h.m hg (Ow.sep_type h.m h.c.st (by decide))⟩
theorem RchD.liApp (h : RchD ls w x y mo A4 n4 c4 sts A5 n5 c5 us pss b n f vm ms W) (hl : us.length = pss.length) {g' c' : Nat} {v : Value} {p : List Int} (hv : OwI W w.heap.size v p) (ho : Ow W' w.heap.size 31 1 (.slice (some ⟨g', 0, none⟩) (n5 + 1) c') (n5 + 1) (us ++ [v])) (hg : W.grownBy W' (Value.slice A5 n5 c5).ownBlock) :
    RchD ls w x y mo A4 n4 c4 sts (some ⟨g', 0, none⟩) (n5 + 1) c' (us ++ [v]) (pss ++ [p]) b n f vm ms W' := ⟨h.c.liApp hl hv ho hg, Ow.keptS h.m hg (Ow.sep_type h.m h.c.li (by decide))⟩
theorem RchD.put (h : RchD ls w x y mo A4 n4 c4 sts A5 n5 c5 us pss b n f vm ms W) (hb : w.heap.size ≤ b) {n' : Nat} {f' : List Int → Option Bool} (hm : MapB ls W' b n' f') (hg : W.grownBy W' (some b)) : RchD ls w x y mo A4 n4 c4 sts A5 n5 c5 us pss b n' f' vm ms W' :=
  ⟨h.c.put hb hm hg, Ow.kept h.m hg (.inr (Ne.symm (h.c.mp.ne_row h.m)))⟩
end
set_option maxRecDepth 100000 in
set_option maxHeartbeats 40000000 in
theorem reached_any (v u : Value) (halls : List Int) (ways : List (List Int)) (most : Int) (w : World) (hv : SlI w v halls) (hu : SlII w u ways) (ht : travOk halls ways = true) :
    Calls Try.prog 76 #[.agg #[v, u, .int .i64 most]] w fun e w' => ∃ (A4 A5 : Option Addr) (c4 c5 : Nat) (us : List Value), e = .returned (.tuple #[.slice A4 (reachT halls ways most).length c4, .slice A5 (reachT halls ways most).length c5]) ∧
      Ow w' w.heap.size 86 4 (.slice A4 (reachT halls ways most).length c4) (reachT halls ways most).length (((reachT halls ways most).map Prod.fst).flatMap stC) ∧ us.length = (reachT halls ways most).length ∧
      Ow w' w.heap.size 31 1 (.slice A5 (reachT halls ways most).length c5) (reachT halls ways most).length us ∧ RowsI w' w.heap.size us ((reachT halls ways most).map Prod.snd) ∧ Below w.heap.size w w' := by
  have HV := Lib.hid hv; have HU := Lib.hid hu; have HTR := Lib.hid ht
  obtain ⟨_, _, h4, hway⟩ := travOk_at ht
  obtain ⟨A, d, rfl, hla, ha⟩ := hv.op
  obtain ⟨B, e, rfl, hlb, hat⟩ := hu.op
  clear hv hu ha hat ht
  have hmm := @run_makeMap Try.prog
  go_enter Try.func76, Try.ntmps76
  go_upto_region 1 with fail
  go_cut [4, 5, 6] from 11 to 17 (fun t4 t5 t6 wx => ∃ (g4 g5 b : Nat) (v0 : Value), t4 = .slice (some ⟨g4, 0, none⟩) 1 1 ∧ t5 = .slice (some ⟨g5, 0, none⟩) 1 1 ∧ t6 = .map (some b) ∧ w.heap.size ≤ b ∧
    Hid (RchC (lensW ways) w (.slice A halls.length d) (.slice B ways.length e) most (some ⟨g4, 0, none⟩) 1 1 [zeroS ways.length] (some ⟨g5, 0, none⟩) 1 1 [v0] [[]] b 1 (knownF [(zeroS ways.length, [])]) wx))
  case first =>
    have hins0 : ∀ (W : World) (n : Nat), n = W.heap.size → _ := fun W n hn => insZ_run (W.alloc (.map #[] 0)).drew n (heap_new _ _ _ hn)
    have hins1 : ∀ (W : World) (o : Obj) (n : Nat), n = W.heap.size → _ := fun W o n hn => insZ_run ((W.alloc (.map #[] 0)).alloc o).drew n (heap_old _ _ _ _ (heap_new _ _ _ hn))
    have hins2 : ∀ (W : World) (o p : Obj) (n : Nat), n = W.heap.size → _ := fun W o p n hn => insZ_run (((W.alloc (.map #[] 0)).alloc o).alloc p).drew n (heap_old _ _ _ _ (heap_old _ _ _ _ (heap_new _ _ _ hn)))
    have hins3 : ∀ (W : World) (o p q : Obj) (n : Nat), n = W.heap.size → _ := fun W o p q n hn => insZ_run ((((W.alloc (.map #[] 0)).alloc o).alloc p).alloc q).drew n (heap_old _ _ _ _ (heap_old _ _ _ _ (heap_old _ _ _ _ (heap_new _ _ _ hn))))
    have hz0 : ∀ k, plc (zeroS ways.length) k = 0 := plc_zero _
    have hsz := insZ_size
    go_region
    all_goals
      clear hins0 hins1 hins2 hins3
      go_wp2_with fail
      go_meet
      apply Exists.intro
      apply Exists.intro
      apply Exists.intro
      apply Exists.intro
      refine ⟨rfl, rfl, rfl, ?le, Lib.hid ⟨?below, ?tb, ?st, ?li, ?rows, ?mp⟩⟩
      case li =>
        repeat' (first | exact Ow.made _ _ #[.slice (some ⟨_, 0, none⟩) 0 0] _ 1 (by (first | (simp [hsz]; done) | omega | (simp [hsz]; omega))) (by (first | (simp [hsz]; done) | omega | (simp [hsz]; omega))) (by omega) rfl | apply Ow.drew | apply Ow.insZ | refine Ow.alloc ?_ _)
      case le => (first | (simp [hsz]; done) | omega | (simp [hsz]; omega))
      case below => repeat' (first | exact Below.refl _ _ | apply Below.drew | (refine Below.alloc ?_ (by first | (simp [hsz]; done) | omega | (simp [hsz]; omega)) _) | (refine below_insZ ?_ (by first | (simp [hsz]; done) | omega | (simp [hsz]; omega)) (by first | (simp [hsz]; done) | omega | (simp [hsz]; omega))))
      case tb => repeat' (first | exact Ow.made _ _ #[.slice A halls.length d, .slice B ways.length e, .int .i64 most] _ 1 (by (first | (simp [hsz]; done) | omega | (simp [hsz]; omega))) (by (first | (simp [hsz]; done) | omega | (simp [hsz]; omega))) (by omega) rfl | apply Ow.drew | apply Ow.insZ | refine Ow.alloc ?_ _)
      case st =>
        have hc : [zeroS ways.length].flatMap stC = [.int .i64 0, .int .i64 0, .int .i64 0, .int .i64 0] := by simp [stC, hz0]
        rw [hc]
        repeat' (first | exact Ow.made _ _ #[.int .i64 0, .int .i64 0, .int .i64 0, .int .i64 0] _ 1 (by (first | (simp [hsz]; done) | omega | (simp [hsz]; omega))) (by (first | (simp [hsz]; done) | omega | (simp [hsz]; omega))) (by omega) rfl | apply Ow.drew | apply Ow.insZ | refine Ow.alloc ?_ _)
      case rows =>
        intro i h h'
        obtain rfl : i = 0 := by simp at h; exact h
        show Ow _ _ _ _ (.slice _ 0 _) 0 []
        repeat' (first | exact Ow.made _ _ #[] _ 0 (by (first | (simp [hsz]; done) | omega | (simp [hsz]; omega))) (by (first | (simp [hsz]; done) | omega | (simp [hsz]; omega))) (by omega) rfl | apply Ow.drew | apply Ow.insZ | refine Ow.alloc ?_ _)
      case mp =>
        have hls : (lensW ways).length = ways.length := lensW_len ways
        refine MapB.congr (f := putS (fun _ => none) (zeroS ways.length) true) ?_ (fun s _ => ?_)
        · repeat' (first | (rw [← hls]; refine mapB_insZ (lens5 HTR.out) (by omega) ?_; repeat (first | exact heap_new _ _ _ (by simp) | apply heap_old)) | (refine MapB.ex ?_ (below_alloc _ _)))
        · simp only [putS, knownF, hasS, List.any_cons, List.any_nil, Bool.or_false, decide_eq_true_eq]
          by_cases hq : s = zeroS ways.length
          · simp [hq]
          · simp [hq, Ne.symm hq]
  case rest =>
    obtain ⟨g4, g5, b, v0, rfl, rfl, rfl, hbw, HR0⟩ := hcut
    have HMV : Hid (∀ (s : List Int), Good (lensW ways) s → ∀ W, Below w.heap.size w W → Calls Try.prog 83 #[.agg #[.slice A halls.length d, .slice B ways.length e, .int .i64 most], stV s] W fun e w' => ∃ A c, e = .returned (.slice A (movesL halls ways most s).length c) ∧ OwN w' W.heap.size (.slice A (movesL halls ways most s).length c) (movesL halls ways most s) ∧ Below W.heap.size W w') := Lib.hid fun s hs W hW => moves_any _ _ halls ways s most W (HV.out.ex hW) (HU.out.ex hW) hs.at_.1 HTR.out (fun k hk => by
      have h1 := hs.at_.2 k hk; have := (wayOk_at (hway _ (List.getElem_mem hk))).1; omega)
    have HMD : Hid (∀ (s : List Int) (cn : Nat), Good (lensW ways) s → cn < ways.length → ∀ W, Calls Try.prog 78 #[stV s, .int .i64 cn] W fun e w' => e = .returned (stV (nxS s cn)) ∧ Below W.heap.size W w') := Lib.hid fun s cn hs hcn W => by
      have h1 := hs.at_.2 cn hcn; have := (wayOk_at (hway _ (List.getElem_mem hcn))).1
      exact moved_any s cn W (by rw [hs.at_.1]; exact hcn) (by omega) (by omega) (by omega)
    have HOK : Hid (∀ i, AccOk (lensW ways) (bfs (movesL halls ways most) (zeroS ways.length) i)) := Lib.hid fun i => by
      have h9 := bfs_ok (mvOk_moves (halls := halls) (ways := ways) (most := most)) i; rwa [lensW_len] at h9
    have H5 := Lib.hid (lens5 HTR.out); have H4 := Lib.hid (lens4 HTR.out)
    have HEND : Hid (∀ i, (bfs (movesL halls ways most) (zeroS ways.length) i).length = i → bfs (movesL halls ways most) (zeroS ways.length) i = reachT halls ways most) := Lib.hid fun i hi => by
      have h9 := bfs_end (mvOk_moves (halls := halls) (ways := ways) (most := most)) H5.out H4.out (i := i)
      rw [lensW_len] at h9; exact h9 hi
    clear hway
    go_wp2
    go_loopw [4, 5, 7] (fun v4 v5 i wr => ∃ (k c4 c5 : Nat) (A4 A5 : Option Addr) (acc : Rch) (us : List Value), v4 = .slice A4 acc.length c4 ∧ v5 = .slice A5 acc.length c5 ∧ i = .int .i64 k ∧ k ≤ acc.length ∧ Hid (acc = bfs (movesL halls ways most) (zeroS ways.length) k) ∧ Hid (us.length = acc.length) ∧
      Hid (RchC (lensW ways) w (.slice A halls.length d) (.slice B ways.length e) most A4 acc.length c4 (acc.map Prod.fst) A5 acc.length c5 us (acc.map Prod.snd) b acc.length (knownF acc) wr)) (fun _ _ i _ => 2402 - (intOf i).toNat)
    case atStart => exact ⟨0, 1, 1, _, _, [(zeroS ways.length, [])], [v0], rfl, rfl, rfl, by simp, Lib.hid rfl, Lib.hid rfl, HR0⟩
    case round =>
      obtain ⟨k, c4, c5, A4, A5, acc, us, rfl, rfl, rfl, hk, HACC, HUL, HR⟩ := hrel
      have HAO : Hid (AccOk (lensW ways) acc) := Lib.hid (by rw [HACC.out]; exact HOK.out k)
      have hl24 := HAO.out.len H5.out H4.out
      by_cases hlt : k < acc.length
      · have hki : (k : Int) < (acc.length : Int) := by omega
        obtain ⟨s, path, hsp⟩ : ∃ s path, acc[k] = (s, path) := ⟨_, _, rfl⟩
        have HGD : Hid (Good (lensW ways) s) := Lib.hid (by have h9 := HAO.out.good _ (List.getElem_mem hlt); rwa [hsp] at h9)
        have HSP := Lib.hid hsp
        obtain ⟨ga, rfl, _, hcell⟩ := HR.out.sc (i := k) (by simpa using hlt)
        rw [List.getElem_map, hsp] at hcell
        have hs0 := hcell 0 (by omega); have hs1 := hcell 1 (by omega); have hs2 := hcell 2 (by omega); have hs3 := hcell 3 (by omega)
        simp only [Nat.add_zero] at hs0
        have hb0 := Ow.cell HR.out.tb (k := 0) (by simp); have hb1 := Ow.cell HR.out.tb (k := 1) (by simp); have hb2 := Ow.cell HR.out.tb (k := 2) (by simp)
        simp only [List.getElem_cons_zero, List.getElem_cons_succ] at hb0 hb1 hb2
        have HCJ := Lib.hid (keepM (w0 := wr) ⟨hb0, hb1, hb2, hs0, hs1, hs2, hs3, Below.refl _ _⟩ (Below.refl _ _).drew)
        have HBD := Lib.hid (HR.out.ex (Below.refl _ _).drew).below
        clear hcell hsp
        go_wp2
        go_region_held3 (fun w' => w'.cell? ⟨w.heap.size, 0, none⟩ = some (.slice A halls.length d) ∧ w'.cell? ⟨w.heap.size, 1, none⟩ = some (.slice B ways.length e) ∧ w'.cell? ⟨w.heap.size, 2, none⟩ = some (.int .i64 most) ∧ w'.cell? ⟨ga, k * 4, none⟩ = some (.int .i64 (plc s 0)) ∧ w'.cell? ⟨ga, k * 4 + 1, none⟩ = some (.int .i64 (plc s 1)) ∧ w'.cell? ⟨ga, k * 4 + 2, none⟩ = some (.int .i64 (plc s 2)) ∧ w'.cell? ⟨ga, k * 4 + 3, none⟩ = some (.int .i64 (plc s 3)) ∧ Below wr.heap.size wr w') (first | (exact keepM (by assumption) hn7) | (exact HCJ.out)) (first | (go_at_call 83; refine (HMV.out s HGD.out _ HBD.out).mono ?_; rintro eA wA ⟨Am, cm, rfl, hM, hbA⟩; have hn7 := hbA))
        have HRA := Lib.hid (HR.out.ex (below_next0 (Below.refl _ _).drew hbA))
        have HM := Lib.hid hM
        have HPT : Hid (PthOk acc) := Lib.hid (by rw [HACC.out]; exact bfs_pth _ _ k)
        have HPL : Hid (path.length < acc.length) := Lib.hid (by have h9 := HPT.out _ (List.getElem_mem hlt); rw [HSP.out] at h9; exact h9)
        have HNXT : Hid (stepsN s path acc (movesL halls ways most s) = bfs (movesL halls ways most) (zeroS ways.length) (k + 1)) := Lib.hid (by
          show _ = roundN _ (bfs (movesL halls ways most) (zeroS ways.length) k) k
          rw [← HACC.out]; unfold roundN; rw [dif_pos hlt, HSP.out])
        clear hM hbA hn7 hs0 hs1 hs2 hs3 hb0 hb1 hb2
        have hml : (movesL halls ways most s).length ≤ 4 := by
          unfold movesL movesK; rw [List.length_map]; exact Nat.le_trans (List.length_filter_le _ _) (by simpa using h4)
        go_wp2
        go_loopw [4, 5, 31] (fun v4 v5 j wi => ∃ (q c4 c5 : Nat) (A4 A5 : Option Addr) (ac : Rch) (us : List Value), v4 = .slice A4 ac.length c4 ∧ v5 = .slice A5 ac.length c5 ∧ j = .int .i64 q ∧ q ≤ (movesL halls ways most s).length ∧ Hid (ac = stepsN s path acc ((movesL halls ways most s).take q)) ∧ Hid (us.length = ac.length) ∧
          Hid (OwN wi w.heap.size (.slice Am (movesL halls ways most s).length cm) (movesL halls ways most s)) ∧ Hid (RchC (lensW ways) w (.slice A halls.length d) (.slice B ways.length e) most A4 ac.length c4 (ac.map Prod.fst) A5 ac.length c5 us (ac.map Prod.snd) b ac.length (knownF ac) wi)) (fun _ _ j _ => (movesL halls ways most s).length - (intOf j).toNat)
        case atStart => exact ⟨0, _, _, _, _, acc, us, rfl, rfl, rfl, Nat.zero_le _, Lib.hid rfl, HUL, Lib.hid (HM.out.mono HBD.out.size), HRA⟩
        case round =>
          obtain ⟨q, e4, e5, P4, P5, ac, vs, rfl, rfl, rfl, hq, HAC, HVL, HMI, HRI⟩ := hrel
          by_cases hqt : q < (movesL halls ways most s).length
          · have hqi : (q : Int) < ((movesL halls ways most s).length : Int) := by omega
            obtain ⟨cn, hcn, hck, _⟩ := mem_moves.1 (List.getElem_mem hqt)
            have HSN : Hid (stepsN s path acc ((movesL halls ways most s).take (q + 1)) = stepN s path ac (cn : Int)) := Lib.hid (by rw [stepsN_snoc s path acc _ q hqt, ← HAC.out, hck])
            have HGN : Hid (Good (lensW ways) (nxS s (cn : Int))) := Lib.hid (good_nx mvOk_moves HGD.out (by rw [← hck]; exact List.getElem_mem hqt))
            have HPRE : Hid (acc <+: ac) := Lib.hid (by rw [HAC.out]; exact stepsN_pre _ _ _ _)
            have HAI : Hid (AccOk (lensW ways) ac) := Lib.hid (by rw [HAC.out]; exact AccOk.steps mvOk_moves HGD.out _ HAO.out (fun c hc => List.mem_of_mem_take hc))
            have hal := HAI.out.len H5.out H4.out
            have hpre := HPRE.out.length_le
            have HKQ : Hid (ac[k]'(by omega) = (s, path)) := Lib.hid (by rw [← HSP.out]; exact (HPRE.out.getElem hlt).symm)
            obtain ⟨ga2, rfl, _, hcell⟩ := HRI.out.sc (i := k) (by simp; omega)
            rw [List.getElem_map, HKQ.out] at hcell
            have hs0 := hcell 0 (by omega); have hs1 := hcell 1 (by omega); have hs2 := hcell 2 (by omega); have hs3 := hcell 3 (by omega)
            simp only [Nat.add_zero] at hs0
            rcases Ow.form HMI.out with ⟨_, h0, _⟩ | ⟨gm, c9, hA9, _, _, _⟩
            · omega
            injection hA9 with hA9 hn9 hc9
            clear hn9
            subst hA9 hc9
            have hcm := Ow.cell HMI.out (k := q) (by simpa using hqt)
            rw [List.getElem_map, hck] at hcm
            have hki2 : (k : Int) < (ac.length : Int) := by omega
            clear hcell hck
            have hMD := HMD.out s cn HGD.out hcn
            unfold stV at hMD
            have HMD2 := Lib.hid hMD
            have HFS : Hid ((knownF ac (nxS s (cn : Int))).getD false = hasS ac (nxS s (cn : Int))) := Lib.hid (knownF_get _ _)
            clear hMD
            go_wp2_with fail
            refine (HMD2.out _).mono ?_
            rintro eM wM ⟨rfl, hbM⟩
            have HBX := Lib.hid (boxS wM (nxS s (cn : Int)))
            have HD2 : Hid (RchD (lensW ways) w (.slice A halls.length d) (.slice B ways.length e) most (some ⟨ga2, 0, none⟩) ac.length e4 (ac.map Prod.fst) P5 ac.length e5 vs (ac.map Prod.snd) b ac.length (knownF ac) (.slice (some ⟨gm, 0, none⟩) (movesL halls ways most s).length cm) (movesL halls ways most s) _) := Lib.hid (RchD.ex ⟨HRI.out.ex hbM, HMI.out.ex hbM⟩ HBX.out.2)
            clear hbM hs0 hs1 hs2 hs3 hcm
            cases hh : hasS ac (nxS s (cn : Int)) with
            | true =>
              have HFT : Hid ((knownF ac (nxS s (cn : Int))).getD false = true) := Lib.hid (HFS.out.trans hh)
              have HSE : Hid (stepsN s path acc ((movesL halls ways most s).take (q + 1)) = ac) := Lib.hid (by rw [HSN.out]; unfold stepN; rw [if_pos hh])
              clear hh
              go_wp2_with (first | (at_lookup; refine wpList_lookB H5.out _ rfl _ _ rfl b ac.length (knownF ac) (nxS s (cn : Int)) rfl HD2.out.c.mp HGN.out rfl ?_; rw [HFT.out]) | fail)
              go_roundw
              case rel => exact ⟨q + 1, e4, e5, _, P5, ac, vs, rfl, rfl, by go_num, by omega, Lib.hid HSE.out.symm, HVL, Lib.hid HD2.out.m, Lib.hid HD2.out.c⟩
              case measure => simp [intOf]; omega
            | false =>
              have HFT : Hid ((knownF ac (nxS s (cn : Int))).getD false = false) := Lib.hid (HFS.out.trans hh)
              have HSE : Hid (stepsN s path acc ((movesL halls ways most s).take (q + 1)) = ac ++ [(nxS s (cn : Int), path ++ [(cn : Int)])]) := Lib.hid (by rw [HSN.out]; unfold stepN; rw [if_neg (by rw [hh]; decide)])
              clear hh
              go_wp2_with (first | (at_lookup; refine wpList_lookB H5.out _ rfl _ _ rfl b ac.length (knownF ac) (nxS s (cn : Int)) rfl HD2.out.c.mp HGN.out rfl ?_; rw [HFT.out]) | (at_mapUpdate; refine wpList_putB H5.out H4.out _ rfl _ _ _ rfl b ac.length (knownF ac) (nxS s (cn : Int)) true rfl HD2.out.c.mp (by omega) HGN.out rfl rfl ?_; intro w3 hm3 hg3) | fail)
              have HD3 := Lib.hid ((HD2.out.put hbw (hm3.congr (fun t _ => knownF_put ac (nxS s (cn : Int)) (path ++ [(cn : Int)]) t)) hg3))
              have HX3 := Lib.hid (HBX.out.1.kept hg3 (.inr (Ne.symm (HD2.out.c.mp.ne_row HBX.out.1))))
              have HSZ := Lib.hid HD3.out.c.below.size
              have hx0 := Ow.cell HX3.out (k := 0) (by simp [stC]); have hx1 := Ow.cell HX3.out (k := 1) (by simp [stC]); have hx2 := Ow.cell HX3.out (k := 2) (by simp [stC]); have hx3 := Ow.cell HX3.out (k := 3) (by simp [stC])
              simp only [stC, List.getElem_cons_zero, List.getElem_cons_succ] at hx0 hx1 hx2 hx3
              have hga2 : ga2 < w3.heap.size := (HD3.out.c.st.lt ga2 rfl).2
              have hkv : k < vs.length := by rw [HVL.out]; omega
              have hkp : k < (ac.map Prod.snd).length := by simp; omega
              obtain ⟨ga5, rfl, hl3⟩ := HD3.out.c.lc (i := k) hkv
              have HCO : Hid (∀ (W : World) (p : Addr) (v : Value), W.cell? p = some v → ∀ o, (W.alloc o).cell? p = some v) := Lib.hid (fun W p v h o => ((below_alloc W o).cell (World.block_lt_of_cell? _ _ h)).trans h)
              have hx0o := HCO.out _ _ _ hx0; have hx1o := HCO.out _ _ _ hx1; have hx2o := HCO.out _ _ _ hx2; have hx3o := HCO.out _ _ _ hx3
              have hl3o := HCO.out _ _ _ hl3
              have hl3oo : ∀ o p, ((w3.alloc o).alloc p).cell? ⟨ga5, k, none⟩ = some vs[k] := fun o p => HCO.out _ _ _ (hl3o o) p
              have HLC : Hid (∀ (W : World) (v : Value), (∃ g5 : Nat, (some (⟨ga5, 0, none⟩ : Addr)) = some (⟨g5, 0, none⟩ : Addr) ∧ W.cell? ⟨g5, k, none⟩ = some v) → W.cell? ⟨ga5, k, none⟩ = some v) := Lib.hid (fun W v h => by obtain ⟨g5, h1, h2⟩ := h; simp at h1; subst h1; exact h2)
              have HPK : Hid (PthOk ac) := Lib.hid (by rw [HAC.out]; exact PthOk.steps _ HPT.out HPL.out)
              have hpl : path.length ≤ 2401 := by have h9 := HPL.out; omega
              have HKP : Hid ((ac.map Prod.snd)[k] = path) := Lib.hid (by rw [List.getElem_map, HKQ.out])
              have HCL : Hid (∀ W, OwI W w.heap.size vs[k] (ac.map Prod.snd)[k] → ∀ W', Below W.heap.size W W' → Calls Try.prog 75 #[vs[k]] W' fun e w' => ∃ A c, e = .returned (.slice A path.length c) ∧ OwI w' W'.heap.size (.slice A path.length c) path ∧ Below W'.heap.size W' w') := Lib.hid (fun W h W' hW => cloneI_any _ path W' (by have h9 := (h.ex hW).sl; rwa [HKP.out] at h9) (by omega))
              clear hm3 hg3
              go_wp2
              go_region_law (first | (refine step_app1 _ (by rfl) _ _ _ (by rfl) w.heap.size 86 (.agg #[.int .i64 0, .int .i64 0, .int .i64 0, .int .i64 0]) 4 32 Try.underlying82 infoHS rfl (by omega) (.slice (some ⟨ga2, 0, none⟩) ac.length e4) ac.length _ (by rfl) (HD3.out.ex (by repeat' (first | exact Below.refl _ _ | apply Below.drew | refine Below.alloc ?_ (by first | omega | (simp; done) | (simp; omega)) _))).c.st _ _ (stC (nxS s (cn : Int))) (by rfl) rfl (by intro j u hj; match j, hj with | 0, hj => (simp [stC] at hj; subst hj; simp) | 1, hj => (simp [stC] at hj; subst hj; simp) | 2, hj => (simp [stC] at hj; subst hj; simp) | 3, hj => (simp [stC] at hj; subst hj; simp) | j + 4, hj => simp [stC] at hj) (by intro u hu; simp [stC] at hu; rcases hu with rfl | rfl | rfl | rfl <;> rfl) (by omega) (by omega) (by have h9 := HSZ.out; simp; omega) ?_; intro g7 c7 w7 ho7 hg7 hor7 hlt7; have HD7 := Lib.hid ((HD3.out.ex (by repeat' (first | exact Below.refl _ _ | apply Below.drew | refine Below.alloc ?_ (by first | omega | (simp; done) | (simp; omega)) _))).stApp ho7 hg7); have HSZ := Lib.hid HD7.out.c.below.size; have hl7 := HLC.out _ _ (HD7.out.c.lc (i := k) hkv); have hl7o := HCO.out _ _ _ hl7; have HK7 := Lib.hid (fun (p : Addr) (v : Value) (hne : p.block ≠ ga2) (h : World.cell? _ p = some v) => hg7.cell h (fun he => hne (Option.some.inj he))); clear ho7 hg7 hor7 hlt7) | (go_simp; go_at_call 75; refine Calls.mono (HCL.out _ (HD7.out.c.rows k hkv hkp) _ (by repeat' (first | exact Below.refl _ _ | apply Below.drew | refine Below.alloc ?_ (by first | omega | (simp; done) | (simp; omega)) _))) ?_; rintro eC wC ⟨Ac, cc, rfl, hoC, hbC⟩; have HOC := Lib.hid (OwI.mono (lo' := w7.heap.size) hoC (by first | exact Nat.le_refl _ | (simp; done) | (simp; omega))); have HBC : Hid (Below w7.heap.size w7 wC) := Lib.hid (below_next0 (b := _) (by repeat' (first | exact Below.refl _ _ | apply Below.drew | refine Below.alloc ?_ (by first | omega | (simp; done) | (simp; omega)) _)) hbC); have HSZ := Lib.hid (Nat.le_trans HSZ.out HBC.out.size); have HKC := Lib.hid (fun (p : Addr) (v : Value) (h : World.cell? _ p = some v) => (hbC.cell (World.block_lt_of_cell? _ _ h)).trans h); clear hoC hbC) | (refine step_app1 _ (by rfl) _ _ _ (by rfl) w7.heap.size 2 (.int .i64 0) 1 8 Try.underlying31 infoI64 rfl (by omega) (.slice Ac path.length cc) path.length _ (by rfl) (HOC.out.ex (by repeat' (first | exact Below.refl _ _ | apply Below.drew | refine Below.alloc ?_ (by first | omega | (simp; done) | (simp; omega)) _))) _ _ [.int .i64 cn] (by rfl) rfl (by intro j u hj; match j, hj with | 0, hj => (simp at hj; subst hj; first | (simp; done) | exact HKC.out _ _ (by simp) | exact HKC.out _ _ (HK7.out _ _ (by simp; omega) (by simp))) | j + 1, hj => simp at hj) (by intro u hu; simp at hu; subst hu; rfl) (by omega) (by omega) (by have h9 := HBC.out.size; simp; omega) ?_; intro g8 c8 w8 ho8 hg8 hor8 hlt8; have H8 : Hid (OwI w8 w7.heap.size (.slice (some ⟨g8, 0, none⟩) (path.length + 1) c8) (path ++ [(cn : Int)])) := Lib.hid (by unfold OwI; rw [List.map_append, show (path ++ [(cn : Int)]).length = path.length + 1 by simp]; exact ho8); have HB8 : Hid (Below w7.heap.size w7 w8) := Lib.hid (by refine below_own ?_ (HOC.out.ex ?_) hg8 ?_ (Nat.le_refl _); exact below_next0 HBC.out (by repeat' (first | exact Below.refl _ _ | apply Below.drew | refine Below.alloc ?_ (by first | omega | (simp; done) | (simp; omega)) _)); exact (by repeat' (first | exact Below.refl _ _ | apply Below.drew | refine Below.alloc ?_ (by first | omega | (simp; done) | (simp; omega)) _)); exact (below_next0 HBC.out (by repeat' (first | exact Below.refl _ _ | apply Below.drew | refine Below.alloc ?_ (by first | omega | (simp; done) | (simp; omega)) _))).size); have HSZ := Lib.hid (Nat.le_trans HD7.out.c.below.size HB8.out.size); clear ho8 hg8 hor8 hlt8) | (refine step_app1 _ (by rfl) _ _ _ (by rfl) w.heap.size 31 (.slice none 0 0) 1 24 Try.underlying32 infoSI rfl (by omega) (.slice (some ⟨ga5, 0, none⟩) ac.length e5) ac.length _ (by rfl) (HD7.out.ex (below_next0 HB8.out (by repeat' (first | exact Below.refl _ _ | apply Below.drew | refine Below.alloc ?_ (by first | omega | (simp; done) | (simp; omega)) _)))).c.li _ _ [.slice (some ⟨g8, 0, none⟩) (path.length + 1) c8] (by rfl) rfl (by intro j u hj; match j, hj with | 0, hj => (simp at hj; subst hj; simp) | j + 1, hj => simp at hj) (by intro u hu; simp at hu; subst hu; rfl) (by omega) (by omega) (by have h9 := HSZ.out; simp; omega) ?_; intro g9 c9 w9 ho9 hg9 hor9 hlt9; have HD9 := Lib.hid ((HD7.out.ex (below_next0 HB8.out (by repeat' (first | exact Below.refl _ _ | apply Below.drew | refine Below.alloc ?_ (by first | omega | (simp; done) | (simp; omega)) _)))).liApp (by rw [HVL.out]; simp) ((H8.out.ex (by repeat' (first | exact Below.refl _ _ | apply Below.drew | refine Below.alloc ?_ (by first | omega | (simp; done) | (simp; omega)) _))).mono HD7.out.c.below.size) ho9 hg9); clear ho9 hg9 hor9 hlt9))
              all_goals
                have hlen : (ac ++ [(nxS s (cn : Int), path ++ [(cn : Int)])]).length = ac.length + 1 := by simp
                have HLEN := Lib.hid hlen
                have HD10 : Hid (RchD (lensW ways) w (.slice A halls.length d) (.slice B ways.length e) most (some ⟨g7, 0, none⟩) (ac ++ [(nxS s (cn : Int), path ++ [(cn : Int)])]).length c7 ((ac ++ [(nxS s (cn : Int), path ++ [(cn : Int)])]).map Prod.fst) (some ⟨g9, 0, none⟩) (ac ++ [(nxS s (cn : Int), path ++ [(cn : Int)])]).length c9 (vs ++ [.slice (some ⟨g8, 0, none⟩) (path.length + 1) c8]) ((ac ++ [(nxS s (cn : Int), path ++ [(cn : Int)])]).map Prod.snd) b (ac ++ [(nxS s (cn : Int), path ++ [(cn : Int)])]).length (knownF (ac ++ [(nxS s (cn : Int), path ++ [(cn : Int)])])) (.slice (some ⟨gm, 0, none⟩) (movesL halls ways most s).length cm) (movesL halls ways most s) w9) := Lib.hid (by
                  rw [hlen, List.map_append, List.map_append]; exact HD9.out)
                have HVL2 : Hid ((vs ++ [Value.slice (some ⟨g8, 0, none⟩) (path.length + 1) c8]).length = (ac ++ [(nxS s (cn : Int), path ++ [(cn : Int)])]).length) := Lib.hid (by simp [HVL.out])
                clear hlen hx0 hx1 hx2 hx3 hx0o hx1o hx2o hx3o hl3 hl3o hl3oo hl7 hl7o
                go_wp2
                go_roundw
                case rel => exact ⟨q + 1, c7, c9, some ⟨g7, 0, none⟩, some ⟨g9, 0, none⟩, _, _, by rw [HLEN.out], by rw [HLEN.out], by go_num, by omega, Lib.hid HSE.out.symm, HVL2, Lib.hid HD10.out.m, Lib.hid HD10.out.c⟩
                case measure => simp [intOf]; omega
          · have hqi : ¬ ((q : Int) < ((movesL halls ways most s).length : Int)) := by omega
            have HAN : Hid (ac = bfs (movesL halls ways most) (zeroS ways.length) (k + 1)) := Lib.hid (by rw [HAC.out, List.take_of_length_le (by omega)]; exact HNXT.out)
            have hle : k + 1 ≤ ac.length := by
              have h9 : acc.length ≤ ac.length := by rw [HAC.out]; exact (stepsN_pre _ _ _ _).length_le
              omega
            go_wp2
            go_roundw
            case rel => exact ⟨k + 1, e4, e5, P4, P5, ac, vs, rfl, rfl, by go_num, hle, HAN, HVL, HRI⟩
            case measure => simp [intOf]; omega
      · have hki : ¬ ((k : Int) < (acc.length : Int)) := by omega
        have HEQ : Hid (acc = reachT halls ways most) := Lib.hid (by rw [HACC.out]; refine HEND.out k ?_; rw [← HACC.out]; omega)
        go_wp2
        go_ret2
        rw [← HEQ.out]
        exact ⟨A4, A5, c4, c5, rfl, HR.out.st, us, HUL.out, HR.out.li, HR.out.rows, HR.out.below⟩
end Go.Proofs.Ytegabdhmfemgkaa
