/- Wherever the power goes in a Save, or in adding records, and whatever stays, Open tells what the law says. Part 5 of its proof. -/
import Derived.Test.YtpjomofniedilaaGreatMirWp4
import Derived.WalkKit
import Derived.ProofKit
import Derived.OpenShut
import Derived.JoinedCond
import Derived.Below
set_option linter.unusedVariables false
set_option linter.unusedSimpArgs false
set_option maxRecDepth 100000
namespace Go.Mir.Tryz
open Go.Proofs Go.Mir.Q
def rowsP (tables : Nat) (r : Record) : Map × Bool :=
  if goodP tables 0 r.Writes = true then (groupT tables r.Writes, decide (r.Commit = 1) && okM (groupT tables r.Writes)) else ([], false)
theorem groupT_len (tables : Nat) (ws : List Write) : (groupT tables ws).length = tables := by simp [groupT]
theorem groupT_sm {tables : Nat} {ws : List Write} (ht : tables ≤ 1048576) (h : smW ws) : smM (groupT tables ws) := by
  refine ⟨by rw [groupT_len]; exact ht, fun l hl => ?_⟩
  simp only [groupT, List.mem_map, List.mem_range] at hl
  obtain ⟨t, _, rfl⟩ := hl
  refine ⟨?_, fun x hx => ?_⟩
  · rw [List.length_map]; exact Nat.le_trans (List.length_filter_le _ _) h.1
  · obtain ⟨w, hw, rfl⟩ := List.mem_map.1 hx
    exact h.2 w (List.mem_filter.1 hw).1
theorem goodP_pre {tables : Nat} : ∀ {ws k : List Write} {last : Int}, goodP tables last (ws ++ k) = true → goodP tables last ws = true
  | [], _, _, _ => rfl
  | w :: ws, k, last, h => by
    simp only [List.cons_append, goodP, Bool.and_eq_true] at h ⊢
    exact ⟨h.1, goodP_pre h.2⟩
theorem goodP_bad {tables : Nat} {ws : List Write} {last : Int} {k : Nat} (h : goodP tables last (ws.take k) = false) : goodP tables last ws = false := by
  rw [← Bool.not_eq_true]
  intro hh
  rw [← List.take_append_drop k ws] at hh
  rw [goodP_pre hh] at h
  cases h
theorem groupT_nil (tables : Nat) : groupT tables [] = List.replicate tables [] := by
  simp only [groupT, List.filter_nil, List.map_nil, List.map_const', List.length_range]
def lastT (ws : List Write) : Int := (ws.getLast?.map (·.Table)).getD 0
set_option maxHeartbeats 2000000 in
theorem f43 {n : Int} {l : List Write} {tables : Nat} (hs : smW l) (ht : tables ≤ 1048576) (h0 : ∀ w ∈ l, 0 ≤ w.Table) : Fun G 43 [.vs true [.d (.sc (.int .i64 n)), .d (.sl (l.map eW))], .int .i64 tables] (.tup [(false, [.own 79 ((rowsP tables ⟨n, l⟩).1.map oMp)]), (false, [.d (.sc (.bool (rowsP tables ⟨n, l⟩).2))])], []) := by
  refine Fun.of_run (g := g43) (pf := pf43) rfl rfl rfl rfl ?_
  have hs1 := hs.1
  simp (maxSteps := 1000000) (disch := first | assumption | ((try simp only [LEN, LEN2]); omega)) only [push_cast, Int.reduceToNat, Int.reduceEq, Int.reduceNe, Int.reduceLT, Int.reduceLE, Int.reduceAdd, Int.reduceSub, Int.reduceMul, Int.reduceNeg, Nat.reduceEqDiff, Nat.reduceBEq, Nat.reduceBNe, Nat.reduceAdd, Nat.reduceLeDiff, Nat.reduceLT, Nat.reduceMul, ↓reduceIte, reduceCtorEq, g43, pf43, b43]
  refine run_loop' (fun i : Nat => [(1, T.int .i64 tables), (2, T.one (.box [.d (.sc (.int .i64 n)), .d (.sl (l.map eW))])), (6, T.one (.own 79 ((groupT tables (l.take i)).map oMp))), (7, T.int .i64 (lastT (l.take i))), (13, T.one (.d (.sl (l.map eW)))), (14, T.int .i64 l.length), (15, T.int .i64 i)]) (fun i => i ≤ l.length ∧ goodP tables 0 (l.take i) = true) (fun i => l.length - i) 0 (by rw [List.take_zero, groupT_nil, List.map_replicate]; rfl) ⟨Nat.zero_le _, rfl⟩ (fun i hi => ?_)
  obtain ⟨hi, hg⟩ := hi
  by_cases h : (i : Int) < l.length
  · have hi' : i < l.length := by omega
    have ht0 := h0 l[i] (List.getElem_mem hi')
    obtain ⟨w, hw⟩ : ∃ w, w = l[i] := ⟨_, rfl⟩
    have hgs : goodP tables 0 (l.take (i + 1)) = decide (w.Table < tables ∧ lastT (l.take i) ≤ w.Table ∧ w.Gone = false) := by
      rw [List.take_succ_eq_append_getElem hi', goodP_snoc, hg, ← hw]; rfl
    have hno : decide (w.Table < tables ∧ lastT (l.take i) ≤ w.Table ∧ w.Gone = false) = false → rowsP tables ⟨n, l⟩ = ([], false) := fun hx => by
      rw [hx] at hgs
      unfold rowsP
      rw [if_neg (by rw [goodP_bad hgs]; simp)]
    rw [← hw] at ht0
    by_cases h1 : (tables : Int) ≤ w.Table
    · simp (maxSteps := 1000000) (disch := first | assumption | ((try simp only [LEN, LEN2]); omega)) only [push_cast, Int.reduceToNat, Int.reduceEq, Int.reduceNe, Int.reduceLT, Int.reduceLE, Int.reduceAdd, Int.reduceSub, Int.reduceMul, Int.reduceNeg, Nat.reduceEqDiff, Nat.reduceBEq, Nat.reduceBNe, Nat.reduceAdd, Nat.reduceLeDiff, Nat.reduceLT, Nat.reduceMul, ↓reduceIte, reduceCtorEq, g43, pf43, b43, h, eW, ← hw, h1, hno (by simp; omega)]
      done
    · by_cases h2 : w.Table < lastT (l.take i)
      · simp (maxSteps := 1000000) (disch := first | assumption | ((try simp only [LEN, LEN2]); omega)) only [push_cast, Int.reduceToNat, Int.reduceEq, Int.reduceNe, Int.reduceLT, Int.reduceLE, Int.reduceAdd, Int.reduceSub, Int.reduceMul, Int.reduceNeg, Nat.reduceEqDiff, Nat.reduceBEq, Nat.reduceBNe, Nat.reduceAdd, Nat.reduceLeDiff, Nat.reduceLT, Nat.reduceMul, ↓reduceIte, reduceCtorEq, g43, pf43, b43, h, eW, ← hw, h1, h2, hno (by simp; omega)]
        done
      · cases h3 : w.Gone with
        | true =>
          simp (maxSteps := 1000000) (disch := first | assumption | ((try simp only [LEN, LEN2]); omega)) only [push_cast, Int.reduceToNat, Int.reduceEq, Int.reduceNe, Int.reduceLT, Int.reduceLE, Int.reduceAdd, Int.reduceSub, Int.reduceMul, Int.reduceNeg, Nat.reduceEqDiff, Nat.reduceBEq, Nat.reduceBNe, Nat.reduceAdd, Nat.reduceLeDiff, Nat.reduceLT, Nat.reduceMul, ↓reduceIte, reduceCtorEq, g43, pf43, b43, h, eW, ← hw, h1, h2, h3, hno (by simp [h3])]
          done
        | false =>
          obtain ⟨k, hk⟩ : ∃ k : Nat, w.Table = k := Int.eq_ofNat_of_zero_le ht0
          have hkl : k < tables := by omega
          have h1' := h1
          have h2' := h2
          rw [hk] at h1' h2'
          obtain ⟨M, hM⟩ : ∃ M, M = groupT tables (l.take i) := ⟨_, rfl⟩
          have hML : M.length = tables := by rw [hM, groupT_len]
          have hMs := groupT_sm ht (ws := l.take i) ⟨by rw [List.length_take]; omega, fun x hx => hs.2 x (List.mem_of_mem_take hx)⟩
          rw [← hM] at hMs
          have hx := (hMs.2 (M[k]'(by omega)) (List.getElem_mem _)).1
          have hgn := group_snoc (tables := tables) (ws := l.take i) (w := w) (k := k) hk hkl
          rw [← hM, List.getElem?_eq_getElem (by omega), Option.getD_some] at hgn
          simp (maxSteps := 1000000) (disch := first | assumption | ((try simp only [LEN, LEN2]); omega)) only [push_cast, Int.reduceToNat, Int.reduceEq, Int.reduceNe, Int.reduceLT, Int.reduceLE, Int.reduceAdd, Int.reduceSub, Int.reduceMul, Int.reduceNeg, Nat.reduceEqDiff, Nat.reduceBEq, Nat.reduceBNe, Nat.reduceAdd, Nat.reduceLeDiff, Nat.reduceLT, Nat.reduceMul, ↓reduceIte, reduceCtorEq, g43, pf43, b43, h, eW, ← hw, h1', h2', h3, ← hM, hk, oMp]
          refine ⟨i + 1, ?_, ⟨by omega, by rw [hgs]; simp only [decide_eq_true_eq]; exact ⟨by omega, by omega, h3⟩⟩, by omega⟩
          rw [List.take_succ_eq_append_getElem hi', ← hw, hgn]
          rw [List.map_set]
          simp [oMp, oRow, lastT, hk]
  · obtain rfl : i = l.length := by omega
    rw [List.take_length] at hg ⊢
    have hsm := groupT_sm (tables := tables) ht hs
    have e : rowsP tables ⟨n, l⟩ = (groupT tables l, decide (n = 1) && okM (groupT tables l)) := by unfold rowsP; rw [if_pos hg]
    have hlen := hsm.1
    by_cases h1 : n = 1
    · subst h1
      simp (maxSteps := 1000000) (disch := first | assumption | ((try simp only [LEN, LEN2]); omega)) only [push_cast, Int.reduceToNat, Int.reduceEq, Int.reduceNe, Int.reduceLT, Int.reduceLE, Int.reduceAdd, Int.reduceSub, Int.reduceMul, Int.reduceNeg, Nat.reduceEqDiff, Nat.reduceBEq, Nat.reduceBNe, Nat.reduceAdd, Nat.reduceLeDiff, Nat.reduceLT, Nat.reduceMul, ↓reduceIte, reduceCtorEq, g43, pf43, b43, h, e]
      done
    · simp (maxSteps := 1000000) (disch := first | assumption | ((try simp only [LEN, LEN2]); omega)) only [push_cast, Int.reduceToNat, Int.reduceEq, Int.reduceNe, Int.reduceLT, Int.reduceLE, Int.reduceAdd, Int.reduceSub, Int.reduceMul, Int.reduceNeg, Nat.reduceEqDiff, Nat.reduceBEq, Nat.reduceBNe, Nat.reduceAdd, Nat.reduceLeDiff, Nat.reduceLT, Nat.reduceMul, ↓reduceIte, reduceCtorEq, g43, pf43, b43, h, h1, e]
      done
theorem f43c {n : Int} {l : List Write} {tables : Nat} (hs : smW l) (ht : tables ≤ 1048576) (h0 : ∀ w ∈ l, 0 ≤ w.Table) {g : VG} {F : Fn} {lk : Bool} {e : Env} {dst : Option Nat} {ops : List Ins} {keep : Option (List Nat)} {K : List Fr} : CallC G g F 43 [.vs true [.d (.sc (.int .i64 n)), .d (.sl (l.map eW))], .int .i64 tables] lk e dst ops keep K = ThenL G g F (if lk && !(T.noSl (.tup [(false, [.own 79 ((rowsP tables ⟨n, l⟩).1.map oMp)]), (false, [.d (.sc (.bool (rowsP tables ⟨n, l⟩).2))])])) then none else e.put g.un dst (.tup [(false, [.own 79 ((rowsP tables ⟨n, l⟩).1.map oMp)]), (false, [.d (.sc (.bool (rowsP tables ⟨n, l⟩).2))])])) ops keep K := callC_eq (f43 hs ht h0)
attribute [push_cast] f43c
def openP (S : List (List UInt8)) (W : List Put) (tables : Int) : Map × List Record × Wal × Int :=
  if okT S W = true ∧ S.length = 512 ∧ W = [] ∧ 1 ≤ tables ∧ tables ≤ 3 then
    match openT S tables.toNat with
    | some (m, l, w) => (m, l, w, 0)
    | none => ([], [], ⟨0, 0, 0, 0⟩, 10)
  else ([], [], ⟨0, 0, 0, 0⟩, 1)
theorem runF_cnt (run : Int) (L : List (List UInt8)) : ∀ (j : Nat) (n : Int) (m : Nat), m + (runF run L j n m).1.length ≤ (runF run L j n m).2
  | 0, n, m => by simp [runF]
  | j + 1, n, m => by
    unfold runF
    split
    · simp
    · dsimp only
      split
      · simp
      · have := runF_cnt run L j (n + 1) (m + (whole1 run n (L.drop m)).2); simp only [List.length_cons]; omega
theorem rd_cnt (run n : Int) (L : List (List UInt8)) : (rd run n L).1.length ≤ (rd run n L).2 := by have := runF_cnt run L (L.length + 1) n 0; simp only [rd]; omega
theorem turnP_bd (s : List UInt8) : (turnP s).1.At = 0 ∧ (turnP s).1.Seq = 0 ∧ 0 ≤ (turnP s).1.Run ∧ (turnP s).1.Run < 281474976710656 := by
  have h := num_bd6 ((s.drop 4).take 4) (by rw [List.length_take]; omega)
  unfold turnP
  split <;> exact ⟨rfl, rfl, h.1, h.2⟩
theorem open_none {S : List (List UInt8)} {tables : Nat} (h : turnT (S[0]?.getD []) = none) : openT S tables = none := by simp only [openT, h]
theorem open_some {S : List (List UInt8)} {tables : Nat} {run slot : Int} {r : Record} {k : Nat} {l : List Record} {n : Nat} (h : turnT (S[0]?.getD []) = some (run, slot)) (hw : whole1 run 0 (seg S slot) = (r, k)) (hr : rd run 1 (S.drop 255) = (l, n)) :
    openT S tables = if k = 0 then none else match rowsT tables r with | none => none | some m => some (m, l, ⟨run, slot, 255 + (n : Nat), 1 + (l.length : Nat)⟩) := by
  simp only [openT, h, hw, hr]
  rfl
theorem rowsP_eq {tables : Nat} {r : Record} (hr : okR r = true) : rowsT tables r = if (rowsP tables r).2 = true then some (rowsP tables r).1 else none := by
  rw [rows_eq hr]
  unfold rowsP
  by_cases hg : goodP tables 0 r.Writes = true
  · rw [if_pos hg]
    simp [hg]
  · rw [if_neg hg, if_neg (fun h => hg h.1)]
    rfl
abbrev openR (m : Map) (l : List Record) (w : Wal) (e : Int) : T := .tup [(false, [.own 79 (m.map oMp)]), (false, [.own 70 (l.map oR)]), (true, cWal w), (false, [.d (.sc (.int .i64 e))])]
set_option maxHeartbeats 2000000 in
theorem f12 {S : List (List UInt8)} {W : List Put} {tables : Int} (h1 : S.length ≤ 1048576) (h3 : W.length ≤ 1048576) : Fun G 12 [.vs true (cT S W), .int .i64 tables] (openR (openP S W tables).1 (openP S W tables).2.1 (openP S W tables).2.2.1 (openP S W tables).2.2.2, []) := by
  refine Fun.of_run (g := g12) (pf := pf12) rfl rfl rfl rfl ?_
  cases hok : okT S W with
  | false =>
    have e : openP S W tables = ([], [], ⟨0, 0, 0, 0⟩, 1) := by unfold openP; rw [if_neg (by simp [hok])]
    simp (maxSteps := 1000000) (disch := first | assumption | ((try simp only [LEN, LEN2]); omega)) only [push_cast, Int.reduceToNat, Int.reduceEq, Int.reduceNe, Int.reduceLT, Int.reduceLE, Int.reduceAdd, Int.reduceSub, Int.reduceMul, Int.reduceNeg, Nat.reduceEqDiff, Nat.reduceBEq, Nat.reduceBNe, Nat.reduceAdd, Nat.reduceLeDiff, Nat.reduceLT, Nat.reduceMul, ↓reduceIte, reduceCtorEq, g12, pf12, b12, hok, e]
    rfl
  | true =>
    by_cases hl : S.length = 512
    · by_cases hW : W = []
      · subst hW
        have hmay := f39 (S := S) (W := []) (by omega) (by simp)
        simp only [push_cast, Int.reduceToNat, Int.reduceEq, Int.reduceNe, Int.reduceLT, Int.reduceLE, Int.reduceAdd, Int.reduceSub, Int.reduceMul, Int.reduceNeg, Nat.reduceEqDiff, Nat.reduceBEq, Nat.reduceBNe, Nat.reduceAdd, Nat.reduceLeDiff, Nat.reduceLT, Nat.reduceMul, ↓reduceIte, reduceCtorEq, cT, hok] at hmay
        by_cases ht1 : tables < 1
        · have e : openP S [] tables = ([], [], ⟨0, 0, 0, 0⟩, 1) := by unfold openP; rw [if_neg (by omega)]
          simp (maxSteps := 1000000) (disch := first | assumption | ((try simp only [LEN, LEN2]); omega)) only [push_cast, Int.reduceToNat, Int.reduceEq, Int.reduceNe, Int.reduceLT, Int.reduceLE, Int.reduceAdd, Int.reduceSub, Int.reduceMul, Int.reduceNeg, Nat.reduceEqDiff, Nat.reduceBEq, Nat.reduceBNe, Nat.reduceAdd, Nat.reduceLeDiff, Nat.reduceLT, Nat.reduceMul, ↓reduceIte, reduceCtorEq, g12, pf12, b12, callC_eq hmay, hl, ht1, e]
          rfl
        · by_cases ht3 : 3 < tables
          · have e : openP S [] tables = ([], [], ⟨0, 0, 0, 0⟩, 1) := by unfold openP; rw [if_neg (by omega)]
            simp (maxSteps := 1000000) (disch := first | assumption | ((try simp only [LEN, LEN2]); omega)) only [push_cast, Int.reduceToNat, Int.reduceEq, Int.reduceNe, Int.reduceLT, Int.reduceLE, Int.reduceAdd, Int.reduceSub, Int.reduceMul, Int.reduceNeg, Nat.reduceEqDiff, Nat.reduceBEq, Nat.reduceBNe, Nat.reduceAdd, Nat.reduceLeDiff, Nat.reduceLT, Nat.reduceMul, ↓reduceIte, reduceCtorEq, g12, pf12, b12, callC_eq hmay, hl, ht1, ht3, e]
            rfl
          · have e : openP S [] tables = match openT S tables.toNat with | some (m, l, w) => (m, l, w, 0) | none => ([], [], ⟨0, 0, 0, 0⟩, 10) := by unfold openP; rw [if_pos ⟨hok, hl, rfl, by omega, by omega⟩]
            rw [e]
            have h0 : 0 < S.length := by omega
            have h32 := (okT_iff.1 hok).2.1
            have hs0 : (S[0]).length = 32 := h32 _ (List.getElem_mem h0)
            have hte := turnP_eq S[0]
            have hf := f40 hs0
            obtain ⟨⟨⟨run, slot, a0, q0⟩, ok⟩, hp⟩ : ∃ x, turnP S[0] = x := ⟨_, rfl⟩
            have ha0 : a0 = 0 ∧ q0 = 0 ∧ 0 ≤ run ∧ run < 281474976710656 := by
              have := turnP_bd S[0]
              rw [hp] at this
              exact this
            obtain ⟨rfl, rfl, hr0, hr1⟩ := ha0
            rw [hp] at hf hte
            simp only at hf hte
            obtain ⟨s0, hs⟩ : ∃ s, s = S[0] := ⟨_, rfl⟩
            have hs0' : s0 = S[0]?.getD [] := by rw [hs, List.getElem?_eq_getElem h0]; rfl
            rw [← hs] at hf hte
            cases ok with
            | false =>
              rw [if_neg (by simp)] at hte
              rw [open_none (by rw [← hs0']; exact hte)]
              simp (maxSteps := 1000000) (disch := first | assumption | ((try simp only [LEN, LEN2]); omega)) only [push_cast, Int.reduceToNat, Int.reduceEq, Int.reduceNe, Int.reduceLT, Int.reduceLE, Int.reduceAdd, Int.reduceSub, Int.reduceMul, Int.reduceNeg, Nat.reduceEqDiff, Nat.reduceBEq, Nat.reduceBNe, Nat.reduceAdd, Nat.reduceLeDiff, Nat.reduceLT, Nat.reduceMul, ↓reduceIte, reduceCtorEq, g12, pf12, b12, callC_eq hmay, hl, ht1, ht3, eS, ← hs, callC_eq hf]
              rfl
            | true =>
              rw [if_pos rfl] at hte
              have hst := startS_le (slot := slot)
              obtain ⟨A, hA⟩ : ∃ A, A = startS slot := ⟨_, rfl⟩
              have eA : ((A : Int) + 127).toNat = A + 127 := by omega
              have hseg : (S.take (A + 127)).drop A = seg S slot := by rw [seg, ← hA, List.drop_take]; congr 1; omega
              obtain ⟨Z, hZ⟩ : ∃ Z, Z = seg S slot := ⟨_, rfl⟩
              rw [← hZ] at hseg
              have hZl : Z.length ≤ 127 := by rw [hZ, seg, List.length_take]; omega
              have hw := f42 (run := run) (nn := 0) (L := Z) (by omega)
              have hbd := whole_bd (run := run) (n := 0) (L := Z) (l := Z) (i := 0) (b := [])
              rw [show whole run 0 Z Z 0 [] = whole1 run 0 Z from rfl] at hbd
              obtain ⟨⟨⟨c, ws⟩, k⟩, hW⟩ : ∃ x, whole1 run 0 Z = x := ⟨_, rfl⟩
              rw [hW] at hw hbd
              have hsm : smW ws ∧ ∀ w ∈ ws, 0 ≤ w.Table := by
                rcases hbd with g | g
                · simp only [Prod.mk.injEq, Q.Record.mk.injEq] at g
                  rw [g.1.2]
                  exact ⟨⟨by simp, by simp⟩, by simp⟩
                · refine ⟨okR_smW g, fun w hw => ?_⟩
                  simp only [okR, Bool.and_eq_true, List.all_eq_true] at g
                  have := g.2 w hw
                  simp only [okW, decide_eq_true_eq] at this
                  omega
              have hdl : (S.drop 255).length ≤ 4000000 := by rw [List.length_drop]; omega
              have hrd := f44 (run := run) (n0 := 1) (L := S.drop 255) hdl ⟨by omega, by omega⟩
              have hcn := rd_cnt run 1 (S.drop 255)
              have hcl := rd_le run 1 (S.drop 255)
              have htk : S.take 512 = S := List.take_of_length_le (by omega)
              obtain ⟨⟨R, n⟩, hR⟩ : ∃ x, rd run 1 (S.drop 255) = x := ⟨_, rfl⟩
              rw [hR] at hrd hcn hcl
              rw [List.length_drop] at hcl
              simp only at hcn hcl
              rw [open_some (r := ⟨c, ws⟩) (k := k) (by rw [← hs0']; exact hte) (by rw [← hZ]; exact hW) hR]
              obtain ⟨tb, htb⟩ : ∃ tb : Nat, tables = tb := Int.eq_ofNat_of_zero_le (by omega)
              subst htb
              have hrw := f43 (n := c) (tables := tb) hsm.1 (by omega) hsm.2
              simp only [push_cast, Int.reduceToNat, Int.reduceEq, Int.reduceNe, Int.reduceLT, Int.reduceLE, Int.reduceAdd, Int.reduceSub, Int.reduceMul, Int.reduceNeg, Nat.reduceEqDiff, Nat.reduceBEq, Nat.reduceBNe, Nat.reduceAdd, Nat.reduceLeDiff, Nat.reduceLT, Nat.reduceMul, ↓reduceIte, reduceCtorEq] at hw hrd hrw
              by_cases hk : k = 0
              · subst hk
                rw [if_pos rfl]
                simp (maxSteps := 1000000) (disch := first | assumption | ((try simp only [LEN, LEN2]); omega)) only [push_cast, Int.reduceToNat, Int.reduceEq, Int.reduceNe, Int.reduceLT, Int.reduceLE, Int.reduceAdd, Int.reduceSub, Int.reduceMul, Int.reduceNeg, Nat.reduceEqDiff, Nat.reduceBEq, Nat.reduceBNe, Nat.reduceAdd, Nat.reduceLeDiff, Nat.reduceLT, Nat.reduceMul, ↓reduceIte, reduceCtorEq, g12, pf12, b12, callC_eq hmay, hl, ht1, ht3, eS, ← hs, callC_eq hf, ← hA, eA, hseg, callC_eq hw, callC_eq hrd, callC_eq hrw]
                rfl
              · have hk1 : ¬ (k : Int) = 0 := by omega
                rw [if_neg hk, rowsP_eq (whole_sound hW hk).2, Int.toNat_natCast]
                obtain ⟨⟨m, okm⟩, hm⟩ : ∃ x, rowsP tb ⟨c, ws⟩ = x := ⟨_, rfl⟩
                rw [hm] at hrw ⊢
                cases okm with
                | false =>
                  simp (maxSteps := 1000000) (disch := first | assumption | ((try simp only [LEN, LEN2]); omega)) only [push_cast, Int.reduceToNat, Int.reduceEq, Int.reduceNe, Int.reduceLT, Int.reduceLE, Int.reduceAdd, Int.reduceSub, Int.reduceMul, Int.reduceNeg, Nat.reduceEqDiff, Nat.reduceBEq, Nat.reduceBNe, Nat.reduceAdd, Nat.reduceLeDiff, Nat.reduceLT, Nat.reduceMul, ↓reduceIte, reduceCtorEq, g12, pf12, b12, callC_eq hmay, hl, ht1, ht3, eS, ← hs, callC_eq hf, ← hA, eA, hseg, callC_eq hw, callC_eq hrd, callC_eq hrw, hk1]
                  rfl
                | true =>
                  simp (maxSteps := 1000000) (disch := first | assumption | ((try simp only [LEN, LEN2]); omega)) only [push_cast, Int.reduceToNat, Int.reduceEq, Int.reduceNe, Int.reduceLT, Int.reduceLE, Int.reduceAdd, Int.reduceSub, Int.reduceMul, Int.reduceNeg, Nat.reduceEqDiff, Nat.reduceBEq, Nat.reduceBNe, Nat.reduceAdd, Nat.reduceLeDiff, Nat.reduceLT, Nat.reduceMul, ↓reduceIte, reduceCtorEq, g12, pf12, b12, callC_eq hmay, hl, ht1, ht3, eS, ← hs, callC_eq hf, ← hA, eA, hseg, callC_eq hw, callC_eq hrd, callC_eq hrw, hk1, htk]
      · have e : openP S W tables = ([], [], ⟨0, 0, 0, 0⟩, 1) := by unfold openP; rw [if_neg (fun h => hW h.2.2.1)]
        have hWl : (0 : Int) < W.length := by have := List.length_pos_iff.2 hW; omega
        simp (maxSteps := 1000000) (disch := first | assumption | ((try simp only [LEN, LEN2]); omega)) only [push_cast, Int.reduceToNat, Int.reduceEq, Int.reduceNe, Int.reduceLT, Int.reduceLE, Int.reduceAdd, Int.reduceSub, Int.reduceMul, Int.reduceNeg, Nat.reduceEqDiff, Nat.reduceBEq, Nat.reduceBNe, Nat.reduceAdd, Nat.reduceLeDiff, Nat.reduceLT, Nat.reduceMul, ↓reduceIte, reduceCtorEq, g12, pf12, b12, hok, hl, hWl, e]
        rfl
    · have e : openP S W tables = ([], [], ⟨0, 0, 0, 0⟩, 1) := by unfold openP; rw [if_neg (fun h => hl h.2.1)]
      have hl2 : ¬ (S.length : Int) = 512 := by omega
      simp (maxSteps := 1000000) (disch := first | assumption | ((try simp only [LEN, LEN2]); omega)) only [push_cast, Int.reduceToNat, Int.reduceEq, Int.reduceNe, Int.reduceLT, Int.reduceLE, Int.reduceAdd, Int.reduceSub, Int.reduceMul, Int.reduceNeg, Nat.reduceEqDiff, Nat.reduceBEq, Nat.reduceBNe, Nat.reduceAdd, Nat.reduceLeDiff, Nat.reduceLT, Nat.reduceMul, ↓reduceIte, reduceCtorEq, g12, pf12, b12, hok, hl2, e]
      rfl
theorem f12c {S : List (List UInt8)} {W : List Put} {tables : Int} (h1 : S.length ≤ 1048576) (h3 : W.length ≤ 1048576) {g : VG} {F : Fn} {lk : Bool} {e : Env} {dst : Option Nat} {ops : List Ins} {keep : Option (List Nat)} {K : List Fr} : CallC G g F 12 [.vs true (cT S W), .int .i64 tables] lk e dst ops keep K = ThenL G g F (if lk && !(T.noSl (openR (openP S W tables).1 (openP S W tables).2.1 (openP S W tables).2.2.1 (openP S W tables).2.2.2)) then none else e.put g.un dst (openR (openP S W tables).1 (openP S W tables).2.1 (openP S W tables).2.2.1 (openP S W tables).2.2.2)) ops keep K := callC_eq (f12 h1 h3)
attribute [push_cast] f12c
end Go.Mir.Tryz

set_option linter.unusedVariables false
set_option linter.unusedSimpArgs false
set_option maxRecDepth 100000
namespace Go.Mir.Tryz
open Go.Proofs Go.Mir.Q
theorem f28 {m : Map} (hm : smM m) : ∃ n : Int, Fun G 28 [.one (.d (.sl (m.map eMp)))] (.int .i64 n, []) ∧ 0 ≤ n ∧ n ≤ 2097152 := by
  obtain ⟨hl, h⟩ := hm
  obtain ⟨r, h1, n, rfl, h2⟩ := Fun.ex_of_run (G := G) (f := 28) (args := [.one (.d (.sl (m.map eMp)))]) (Q := fun r => ∃ n : Int, r = (.int .i64 n, []) ∧ 0 ≤ n ∧ n ≤ 2097152) (g := g28) (pf := pf28) rfl rfl rfl rfl (by
    simp (maxSteps := 1000000) (disch := first | assumption | ((try simp only [LEN, LEN2]); omega)) only [push_cast, Int.reduceToNat, Int.reduceEq, Int.reduceNe, Int.reduceLT, Int.reduceLE, Int.reduceAdd, Int.reduceSub, Int.reduceMul, Int.reduceNeg, Nat.reduceEqDiff, Nat.reduceBEq, Nat.reduceBNe, Nat.reduceAdd, Nat.reduceLeDiff, Nat.reduceLT, Nat.reduceMul, ↓reduceIte, reduceCtorEq, g28, pf28, b28]
    refine run_loop' (fun x : Nat × Int => [(0, T.one (.d (.sl (m.map eMp)))), (3, T.int .i64 x.2), (4, T.int .i64 x.1)]) (fun x => x.1 ≤ m.length ∧ 0 ≤ x.2 ∧ x.2 ≤ 2097152) (fun x => m.length - x.1) (0, m.length) rfl (by simp only; omega) (fun ⟨i, n⟩ hi => ?_)
    simp only at hi
    by_cases h1 : (i : Int) < m.length
    · have hi' : i < m.length := by omega
      obtain ⟨hs1, hs2⟩ := h m[i] (List.getElem_mem hi')
      obtain ⟨l, hl0⟩ : ∃ l, l = m[i] := ⟨_, rfl⟩
      rw [← hl0] at hs1 hs2
      by_cases h2 : n < 1048576
      · simp (maxSteps := 1000000) (disch := first | assumption | ((try simp only [LEN, LEN2]); omega)) only [push_cast, Int.reduceToNat, Int.reduceEq, Int.reduceNe, Int.reduceLT, Int.reduceLE, Int.reduceAdd, Int.reduceSub, Int.reduceMul, Int.reduceNeg, Nat.reduceEqDiff, Nat.reduceBEq, Nat.reduceBNe, Nat.reduceAdd, Nat.reduceLeDiff, Nat.reduceLT, Nat.reduceMul, ↓reduceIte, reduceCtorEq, g28, pf28, b28, h1, h2, eMp, ← hl0]
        refine run_loop' (fun x : Nat × Int => [(0, T.one (.d (.sl (m.map eMp)))), (3, T.int .i64 x.2), (4, T.int .i64 i), (5, T.int .i64 x.1)]) (fun x => x.1 ≤ l.length ∧ 0 ≤ x.2 ∧ x.2 ≤ 2097152) (fun x => l.length - x.1) (0, n + l.length) rfl (by simp only; omega) (fun ⟨k, n⟩ hk => ?_)
        simp only at hk
        by_cases h3 : (k : Int) < l.length
        · have hk' : k < l.length := by omega
          have hs := hs2 l[k] (List.getElem_mem hk')
          by_cases h4 : n < 1048576
          · simp (maxSteps := 1000000) (disch := first | assumption | ((try simp only [LEN, LEN2]); omega)) only [push_cast, Int.reduceToNat, Int.reduceEq, Int.reduceNe, Int.reduceLT, Int.reduceLE, Int.reduceAdd, Int.reduceSub, Int.reduceMul, Int.reduceNeg, Nat.reduceEqDiff, Nat.reduceBEq, Nat.reduceBNe, Nat.reduceAdd, Nat.reduceLeDiff, Nat.reduceLT, Nat.reduceMul, ↓reduceIte, reduceCtorEq, g28, pf28, b28, h3, h4, eMp, ← hl0, eRow]
            exact ⟨(k + 1, n + ((l[k].Key.length : Int) + l[k].Value.length) / 8), rfl, by simp only; omega, by simp only; omega⟩
          · simp (maxSteps := 1000000) (disch := first | assumption | ((try simp only [LEN, LEN2]); omega)) only [push_cast, Int.reduceToNat, Int.reduceEq, Int.reduceNe, Int.reduceLT, Int.reduceLE, Int.reduceAdd, Int.reduceSub, Int.reduceMul, Int.reduceNeg, Nat.reduceEqDiff, Nat.reduceBEq, Nat.reduceBNe, Nat.reduceAdd, Nat.reduceLeDiff, Nat.reduceLT, Nat.reduceMul, ↓reduceIte, reduceCtorEq, g28, pf28, b28, h3, h4, eMp, ← hl0]
            exact ⟨(i + 1, n), rfl, by simp only; omega, by simp only; omega⟩
        · simp (maxSteps := 1000000) (disch := first | assumption | ((try simp only [LEN, LEN2]); omega)) only [push_cast, Int.reduceToNat, Int.reduceEq, Int.reduceNe, Int.reduceLT, Int.reduceLE, Int.reduceAdd, Int.reduceSub, Int.reduceMul, Int.reduceNeg, Nat.reduceEqDiff, Nat.reduceBEq, Nat.reduceBNe, Nat.reduceAdd, Nat.reduceLeDiff, Nat.reduceLT, Nat.reduceMul, ↓reduceIte, reduceCtorEq, g28, pf28, b28, h3, eMp, ← hl0]
          exact ⟨(i + 1, n), rfl, by simp only; omega, by simp only; omega⟩
      · simp (maxSteps := 1000000) (disch := first | assumption | ((try simp only [LEN, LEN2]); omega)) only [push_cast, Int.reduceToNat, Int.reduceEq, Int.reduceNe, Int.reduceLT, Int.reduceLE, Int.reduceAdd, Int.reduceSub, Int.reduceMul, Int.reduceNeg, Nat.reduceEqDiff, Nat.reduceBEq, Nat.reduceBNe, Nat.reduceAdd, Nat.reduceLeDiff, Nat.reduceLT, Nat.reduceMul, ↓reduceIte, reduceCtorEq, g28, pf28, b28, h1, h2]
        exact ⟨n, rfl, hi.2⟩
    · simp (maxSteps := 1000000) (disch := first | assumption | ((try simp only [LEN, LEN2]); omega)) only [push_cast, Int.reduceToNat, Int.reduceEq, Int.reduceNe, Int.reduceLT, Int.reduceLE, Int.reduceAdd, Int.reduceSub, Int.reduceMul, Int.reduceNeg, Nat.reduceEqDiff, Nat.reduceBEq, Nat.reduceBNe, Nat.reduceAdd, Nat.reduceLeDiff, Nat.reduceLT, Nat.reduceMul, ↓reduceIte, reduceCtorEq, g28, pf28, b28, h1]
      exact ⟨n, rfl, hi.2⟩)
  exact ⟨n, h1, h2⟩
def eMaps (m : Map) : List D := [.sl (m.map eMp)]
abbrev cAsk (M : List Map) (R : List Record) (S : List (List UInt8)) (N1 : List Int) (L : List (List (List UInt8))) (W : List Wal) (K N : List Int) : List V :=
  [.d (.sl (M.map eMaps)), .d (.sl (R.map eR)), .d (.sl (S.map eS)), .d (.sl (N1.map eN)), .d (.sl (L.map fun l => [.sl (l.map eS)])), .d (.sl (W.map eWal)), .d (.sl (K.map eN)), .d (.sl (N.map eN))]
structure smAsk (M : List Map) (R : List Record) (S : List (List UInt8)) (N1 : List Int) (L : List (List (List UInt8))) (W : List Wal) (K N : List Int) : Prop where
  m : M.length ≤ 1048576
  mm : ∀ m ∈ M, smM m
  r : smR R
  s : smS S
  n1 : N1.length ≤ 1048576
  l : L.length ≤ 1048576 ∧ ∀ l ∈ L, smS l
  w : W.length ≤ 1048576
  k : K.length ≤ 1048576 ∧ ∀ x ∈ K, okN x
  n : N.length ≤ 1048576 ∧ ∀ x ∈ N, okN x
theorem f6 {M : List Map} {R : List Record} {S : List (List UInt8)} {N1 : List Int} {L : List (List (List UInt8))} {W : List Wal} {K N : List Int} (h : smAsk M R S N1 L W K N) : ∃ b : Bool, Fun G 6 [.vs true (cAsk M R S N1 L W K N)] (.bool b, []) := by
  obtain ⟨b17, h17⟩ := f29 h.r h.s h.n1 h.l
  have hm := h.m
  have hw := h.w
  have hk := h.k.1
  have hn := h.n.1
  obtain ⟨r, h1, b, rfl⟩ := Fun.ex_of_run (G := G) (f := 6) (args := [.vs true (cAsk M R S N1 L W K N)]) (Q := fun r => ∃ b : Bool, r = (.bool b, [])) (g := g6) (pf := pf6) rfl rfl rfl rfl (by
    simp (maxSteps := 1000000) (disch := first | assumption | ((try simp only [LEN, LEN2]); omega)) only [push_cast, Int.reduceToNat, Int.reduceEq, Int.reduceNe, Int.reduceLT, Int.reduceLE, Int.reduceAdd, Int.reduceSub, Int.reduceMul, Int.reduceNeg, Nat.reduceEqDiff, Nat.reduceBEq, Nat.reduceBNe, Nat.reduceAdd, Nat.reduceLeDiff, Nat.reduceLT, Nat.reduceMul, ↓reduceIte, reduceCtorEq, g6, pf6, b6]
    refine run_loop' (fun x : Nat × Int => [(1, T.one (.box (cAsk M R S N1 L W K N))), (3, T.int .i64 x.2), (4, T.int .i64 x.1)]) (fun x => x.1 ≤ M.length ∧ 0 ≤ x.2 ∧ x.2 ≤ 8388608) (fun x => M.length - x.1) (0, M.length + W.length + K.length + N.length) rfl (by simp only; omega) (fun ⟨i, n⟩ hi => ?_)
    simp only at hi
    by_cases h1 : (i : Int) < M.length
    · have hi' : i < M.length := by omega
      by_cases h2 : n < 1048576
      · obtain ⟨w, hw1, hw2, hw3⟩ := f28 (h.mm M[i] (List.getElem_mem hi'))
        simp (maxSteps := 1000000) (disch := first | assumption | ((try simp only [LEN, LEN2]); omega)) only [push_cast, Int.reduceToNat, Int.reduceEq, Int.reduceNe, Int.reduceLT, Int.reduceLE, Int.reduceAdd, Int.reduceSub, Int.reduceMul, Int.reduceNeg, Nat.reduceEqDiff, Nat.reduceBEq, Nat.reduceBNe, Nat.reduceAdd, Nat.reduceLeDiff, Nat.reduceLT, Nat.reduceMul, ↓reduceIte, reduceCtorEq, g6, pf6, b6, h1, h2, eMaps, callC_eq hw1]
        exact ⟨(i + 1, n + w), rfl, by simp only; omega, by simp only; omega⟩
      · by_cases h3 : (700 : Int) < n
        · simp (maxSteps := 1000000) (disch := first | assumption | ((try simp only [LEN, LEN2]); omega)) only [push_cast, Int.reduceToNat, Int.reduceEq, Int.reduceNe, Int.reduceLT, Int.reduceLE, Int.reduceAdd, Int.reduceSub, Int.reduceMul, Int.reduceNeg, Nat.reduceEqDiff, Nat.reduceBEq, Nat.reduceBNe, Nat.reduceAdd, Nat.reduceLeDiff, Nat.reduceLT, Nat.reduceMul, ↓reduceIte, reduceCtorEq, g6, pf6, b6, h1, h2, h3]
          exact ⟨_, rfl⟩
        · exact absurd h3 (by omega)
    · by_cases h3 : (700 : Int) < n
      · simp (maxSteps := 1000000) (disch := first | assumption | ((try simp only [LEN, LEN2]); omega)) only [push_cast, Int.reduceToNat, Int.reduceEq, Int.reduceNe, Int.reduceLT, Int.reduceLE, Int.reduceAdd, Int.reduceSub, Int.reduceMul, Int.reduceNeg, Nat.reduceEqDiff, Nat.reduceBEq, Nat.reduceBNe, Nat.reduceAdd, Nat.reduceLeDiff, Nat.reduceLT, Nat.reduceMul, ↓reduceIte, reduceCtorEq, g6, pf6, b6, h1, h3]
        exact ⟨_, rfl⟩
      · simp (maxSteps := 1000000) (disch := first | assumption | ((try simp only [LEN, LEN2]); omega)) only [push_cast, Int.reduceToNat, Int.reduceEq, Int.reduceNe, Int.reduceLT, Int.reduceLE, Int.reduceAdd, Int.reduceSub, Int.reduceMul, Int.reduceNeg, Nat.reduceEqDiff, Nat.reduceBEq, Nat.reduceBNe, Nat.reduceAdd, Nat.reduceLeDiff, Nat.reduceLT, Nat.reduceMul, ↓reduceIte, reduceCtorEq, g6, pf6, b6, h1, h3, callC_eq h17]
        exact ⟨_, rfl⟩)
  exact ⟨b, h1⟩
def mayR (n : Nat) (r : Record) : Bool := okR r && r.Writes.all fun w => decide (w.Table < n)
set_option maxHeartbeats 2000000 in
theorem f25 {m : Map} {R : List Record} (hm : smM m) (hR : smR R) : Fun G 25 [.one (.d (.sl (m.map eMp))), .one (.d (.sl (R.map eR)))] (.bool (R.all (mayR m.length) && okM m), []) := by
  refine Fun.of_run (g := g25) (pf := pf25) rfl rfl rfl rfl ?_
  obtain ⟨hR1, hR2⟩ := hR
  have hm1 := hm.1
  have hbad : ∀ r ∈ R, mayR m.length r = false → (R.all (mayR m.length) && okM m) = false := fun r hr hb => by
    rw [Bool.and_eq_false_iff]
    left
    rw [← Bool.not_eq_true, List.all_eq_true]
    intro hh
    rw [hh r hr] at hb
    cases hb
  simp (maxSteps := 1000000) (disch := first | assumption | ((try simp only [LEN, LEN2]); omega)) only [push_cast, Int.reduceToNat, Int.reduceEq, Int.reduceNe, Int.reduceLT, Int.reduceLE, Int.reduceAdd, Int.reduceSub, Int.reduceMul, Int.reduceNeg, Nat.reduceEqDiff, Nat.reduceBEq, Nat.reduceBNe, Nat.reduceAdd, Nat.reduceLeDiff, Nat.reduceLT, Nat.reduceMul, ↓reduceIte, reduceCtorEq, g25, pf25, b25]
  refine run_loop' (fun i : Nat => [(0, T.one (.d (.sl (m.map eMp)))), (1, T.one (.d (.sl (R.map eR)))), (5, T.int .i64 i)]) (fun i => i ≤ R.length ∧ ∀ x ∈ R.take i, mayR m.length x = true) (fun i => R.length - i) 0 rfl ⟨Nat.zero_le _, by simp⟩ (fun i hi => ?_)
  obtain ⟨hi, ht⟩ := hi
  by_cases h1 : (i : Int) < R.length
  · have hi' : i < R.length := by omega
    have hrm := List.getElem_mem hi'
    have hsw := (hR2 R[i] hrm).1
    obtain ⟨r, hr⟩ : ∃ r, r = R[i] := ⟨_, rfl⟩
    rw [← hr] at hsw hrm
    obtain ⟨c, l⟩ := r
    simp only at hsw
    have hsl := hsw.1
    cases hok : okR ⟨c, l⟩ with
    | false =>
      have hb := hbad _ hrm (by simp [mayR, hok])
      simp (maxSteps := 1000000) (disch := first | assumption | ((try simp only [LEN, LEN2]); omega)) only [push_cast, Int.reduceToNat, Int.reduceEq, Int.reduceNe, Int.reduceLT, Int.reduceLE, Int.reduceAdd, Int.reduceSub, Int.reduceMul, Int.reduceNeg, Nat.reduceEqDiff, Nat.reduceBEq, Nat.reduceBNe, Nat.reduceAdd, Nat.reduceLeDiff, Nat.reduceLT, Nat.reduceMul, ↓reduceIte, reduceCtorEq, g25, pf25, b25, h1, eR, ← hr, hok, hb]
    | true =>
      simp (maxSteps := 1000000) (disch := first | assumption | ((try simp only [LEN, LEN2]); omega)) only [push_cast, Int.reduceToNat, Int.reduceEq, Int.reduceNe, Int.reduceLT, Int.reduceLE, Int.reduceAdd, Int.reduceSub, Int.reduceMul, Int.reduceNeg, Nat.reduceEqDiff, Nat.reduceBEq, Nat.reduceBNe, Nat.reduceAdd, Nat.reduceLeDiff, Nat.reduceLT, Nat.reduceMul, ↓reduceIte, reduceCtorEq, g25, pf25, b25, h1, eR, ← hr, hok]
      refine run_loop' (fun k : Nat => [(0, T.one (.d (.sl (m.map eMp)))), (1, T.one (.d (.sl (R.map eR)))), (5, T.int .i64 i), (6, T.int .i64 k)]) (fun k => k ≤ l.length ∧ ∀ x ∈ l.take k, x.Table < m.length) (fun k => l.length - k) 0 rfl ⟨Nat.zero_le _, by simp⟩ (fun k hk => ?_)
      obtain ⟨hk, htk⟩ := hk
      by_cases h2 : (k : Int) < l.length
      · have hk' : k < l.length := by omega
        by_cases h3 : (m.length : Int) ≤ l[k].Table
        · have hb := hbad _ hrm (by
            simp only [mayR, Bool.and_eq_false_iff]
            right
            rw [← Bool.not_eq_true, List.all_eq_true]
            intro hh
            have := of_decide_eq_true (hh _ (List.getElem_mem hk'))
            omega)
          simp (maxSteps := 1000000) (disch := first | assumption | ((try simp only [LEN, LEN2]); omega)) only [push_cast, Int.reduceToNat, Int.reduceEq, Int.reduceNe, Int.reduceLT, Int.reduceLE, Int.reduceAdd, Int.reduceSub, Int.reduceMul, Int.reduceNeg, Nat.reduceEqDiff, Nat.reduceBEq, Nat.reduceBNe, Nat.reduceAdd, Nat.reduceLeDiff, Nat.reduceLT, Nat.reduceMul, ↓reduceIte, reduceCtorEq, g25, pf25, b25, h2, h3, eR, ← hr, eW, hb]
        · simp (maxSteps := 1000000) (disch := first | assumption | ((try simp only [LEN, LEN2]); omega)) only [push_cast, Int.reduceToNat, Int.reduceEq, Int.reduceNe, Int.reduceLT, Int.reduceLE, Int.reduceAdd, Int.reduceSub, Int.reduceMul, Int.reduceNeg, Nat.reduceEqDiff, Nat.reduceBEq, Nat.reduceBNe, Nat.reduceAdd, Nat.reduceLeDiff, Nat.reduceLT, Nat.reduceMul, ↓reduceIte, reduceCtorEq, g25, pf25, b25, h2, h3, eR, ← hr, eW]
          refine ⟨k + 1, rfl, ⟨by omega, fun x hx => ?_⟩, by omega⟩
          rw [List.take_succ_eq_append_getElem hk', List.mem_append, List.mem_singleton] at hx
          rcases hx with hx | rfl
          · exact htk x hx
          · omega
      · simp (maxSteps := 1000000) (disch := first | assumption | ((try simp only [LEN, LEN2]); omega)) only [push_cast, Int.reduceToNat, Int.reduceEq, Int.reduceNe, Int.reduceLT, Int.reduceLE, Int.reduceAdd, Int.reduceSub, Int.reduceMul, Int.reduceNeg, Nat.reduceEqDiff, Nat.reduceBEq, Nat.reduceBNe, Nat.reduceAdd, Nat.reduceLeDiff, Nat.reduceLT, Nat.reduceMul, ↓reduceIte, reduceCtorEq, g25, pf25, b25, h2, eR, ← hr]
        refine ⟨i + 1, rfl, ⟨by omega, fun x hx => ?_⟩, by omega⟩
        rw [List.take_succ_eq_append_getElem hi', List.mem_append, List.mem_singleton, ← hr] at hx
        rcases hx with hx | rfl
        · exact ht x hx
        · obtain rfl : k = l.length := by omega
          rw [List.take_length] at htk
          simp only [mayR, hok, Bool.true_and, List.all_eq_true, decide_eq_true_eq]
          exact htk
  · obtain rfl : i = R.length := by omega
    rw [List.take_length] at ht
    have e : R.all (mayR m.length) = true := List.all_eq_true.2 ht
    simp (maxSteps := 1000000) (disch := first | assumption | ((try simp only [LEN, LEN2]); omega)) only [push_cast, Int.reduceToNat, Int.reduceEq, Int.reduceNe, Int.reduceLT, Int.reduceLE, Int.reduceAdd, Int.reduceSub, Int.reduceMul, Int.reduceNeg, Nat.reduceEqDiff, Nat.reduceBEq, Nat.reduceBNe, Nat.reduceAdd, Nat.reduceLeDiff, Nat.reduceLT, Nat.reduceMul, ↓reduceIte, reduceCtorEq, g25, pf25, b25, h1, e]
theorem f25c {m : Map} {R : List Record} (hm : smM m) (hR : smR R) {g : VG} {F : Fn} {lk : Bool} {e : Env} {dst : Option Nat} {ops : List Ins} {keep : Option (List Nat)} {K : List Fr} : CallC G g F 25 [.one (.d (.sl (m.map eMp))), .one (.d (.sl (R.map eR)))] lk e dst ops keep K = ThenL G g F (if lk && !(T.noSl (.bool (R.all (mayR m.length) && okM m))) then none else e.put g.un dst (.bool (R.all (mayR m.length) && okM m))) ops keep K := callC_eq (f25 hm hR)
attribute [push_cast] f25c
end Go.Mir.Tryz

set_option linter.unusedVariables false
set_option linter.unusedSimpArgs false
set_option maxRecDepth 100000
namespace Go.Mir.Tryz
open Go.Proofs Go.Mir.Q
theorem okT_all {S : List (List UInt8)} (hS : S.length = 512) (h32 : all32 S) : okT S [] = true := okT_iff.2 ⟨⟨by omega, by omega, by simp⟩, h32, by simp⟩
theorem fPlay {S S' : List (List UInt8)} {l : List Do} (hS : S.length = 512) (h32 : all32 S) (hl : smDo l) (h : playT ⟨S, []⟩ l = (0, ⟨S', []⟩)) : Fun G 22 [.vs true (cT S []), .int .i64 (-1), .one (.d (.sl (l.map eDo)))] (tErr' 0 ⟨S', []⟩, []) := by
  have hp := f22 (S := S) (W := []) (n := -1) (l := l) (by omega) (by simp) hl
  have e : playP S [] (-1) l = (0, ⟨S', []⟩) := by
    unfold playP
    rw [if_pos ⟨okT_all hS h32, by omega⟩, show upto (-1) l = l from rfl, h]
  rw [e] at hp
  exact hp
theorem smDo_lay {run slot : Int} {m : Map} (hm : okM m = true) (h64 : (image m).length ≤ 64) : smDo (layD run slot m) := by
  have hc := okR_cnt (image_okR hm h64)
  refine ⟨?_, fun d hd => ?_⟩
  · simp only [layD, List.length_append, List.length_cons, putsD_len, cuts_len, List.length_nil]; omega
  · simp only [layD, putsD, List.mem_append, List.mem_cons, List.mem_map, List.not_mem_nil, or_false] at hd
    rcases hd with ⟨p, hp, rfl⟩ | rfl | ⟨p, hp, rfl⟩ | rfl
    · have := cuts_32 _ (putsW_mem hp).2.2; simp only; omega
    · simp [syncD]
    · have := (putsW_mem hp).2.2
      simp only [List.mem_singleton] at this
      simp only [this, super_32]; omega
    · simp [syncD]
theorem fLay {S : List (List UInt8)} {run slot : Int} {m : Map} (hS : S.length = 512) (h32 : all32 S) (hm : okM m = true) (h64 : (image m).length ≤ 64) : Fun G 22 [.vs true (cT S []), .int .i64 (-1), .one (.d (.sl ((layD run slot m).map eDo)))] (tErr' 0 ⟨layS S run slot m, []⟩, []) :=
  fPlay hS h32 (smDo_lay hm h64) (play_lay hS hm h64)
theorem okM_len {m : Map} (hm : okM m = true) : m.length ≤ 3 := by simp only [okM, Bool.and_eq_true, decide_eq_true_eq] at hm; exact hm.1
theorem fOpenT {S : List (List UInt8)} {m m' : Map} {l : List Record} {w : Wal} (hS : S.length = 512) (h32 : all32 S) (hm : okM m = true) (h1 : 1 ≤ m.length) (h : openT S m.length = some (m', l, w)) : Fun G 12 [.vs true (cT S []), .int .i64 m.length] (openR m' l w 0, []) := by
  have h3 := okM_len hm
  have hp := f12 (S := S) (W := []) (tables := m.length) (by omega) (by simp)
  have e : openP S [] m.length = (m', l, w, 0) := by
    unfold openP
    rw [if_pos ⟨okT_all hS h32, hS, rfl, by omega, by omega⟩, Int.toNat_natCast, h]
  rw [e] at hp
  exact hp
theorem fOpen {S : List (List UInt8)} {m : Map} {l : List Record} {w : Wal} (h1 : 1 ≤ m.length) (h : Laid S w m l) : Fun G 12 [.vs true (cT S []), .int .i64 m.length] (openR m l w 0, []) :=
  fOpenT h.len h.a32 h.okm h1 h.open
theorem okM_sm {m : Map} (hm : okM m = true) (h64 : (image m).length ≤ 64) : smM m := by
  simp only [okM, Bool.and_eq_true, decide_eq_true_eq, List.all_eq_true] at hm
  refine ⟨by omega, fun l hl => ?_⟩
  have ho := hm.2 l hl
  simp only [okRows, Bool.and_eq_true, List.all_eq_true] at ho
  refine ⟨?_, fun x hx => ?_⟩
  · have : ∀ (m : Map) (t : Nat), l ∈ m → l.length ≤ (imageF t m).length := by
      intro m
      induction m with
      | nil => intro t h; cases h
      | cons x m ih =>
        intro t h
        simp only [imageF, List.length_append, List.length_map]
        rcases List.mem_cons.1 h with rfl | h
        · omega
        · have := ih (t + 1) h; omega
    have := this m 0 hl
    simp only [image] at h64
    omega
  · have := ho.1 x hx
    simp only [okRow, decide_eq_true_eq] at this
    omega
theorem layR_ok {run slot : Int} {m : Map} (hm : okM m = true) (hr : run < 1073741824) (h64 : (image m).length ≤ 64) : layR run slot m = (layD run slot m, ⟨run, slot, 255, 1⟩, 0) := by
  unfold layR; rw [if_neg (by rw [hm]; simp), if_neg (by omega), if_pos h64]
theorem fFormat {m : Map} (hm : okM m = true) (h64 : (image m).length ≤ 64) : Fun G 56 [.one (.d (.sl (m.map eMp)))] (layT (layD 1 0 m) ⟨1, 0, 255, 1⟩ 0, []) := by
  have h := f56 (okM_sm hm h64)
  rw [layR_ok hm (by omega) h64] at h
  exact h
theorem fSave {S : List (List UInt8)} {w : Wal} {m m' : Map} {l : List Record} (h : Laid S w m l) (hr : w.Run < 1073741823) (hseq : w.Seq < 1073741824) (hm : okM m' = true) (h64 : (image m').length ≤ 64) : Fun G 21 [.vs true (cWal w), .one (.d (.sl (m'.map eMp)))] (layT (layD (w.Run + 1) (1 - w.Slot) m') ⟨w.Run + 1, 1 - w.Slot, 255, 1⟩ 0, []) := by
  have hrun := h.run
  have hs := h.slot
  have hat := h.at_
  have hq := h.seq
  have hf := h.few
  have hw : okWal w = true := by simp only [okWal, Bool.and_eq_true, decide_eq_true_eq]; omega
  have hh := f21 (w := w) (okM_sm hm h64) ⟨by omega, by omega⟩
  rw [if_pos hw, layR_ok hm (by omega) h64] at hh
  exact hh
def tape0 : List (List UInt8) := List.replicate 512 zeros
theorem tape0_len : tape0.length = 512 := List.length_replicate
theorem tape0_32 : all32 tape0 := fun s hs => by rw [List.eq_of_mem_replicate hs]; decide
theorem tape0_z : ∀ s ∈ tape0.drop 255, s = zeros := fun s hs => List.eq_of_mem_replicate (List.mem_of_mem_drop hs)
theorem fNew0 : Fun G 7 [.int .i64 512] (.vs true (oT tape0 []), []) := f7 (n := 512) (by omega)
def m0 : Map := [[⟨[97], [118]⟩]]
theorem m0_ok : okM m0 = true := by decide
theorem m0_64 : (image m0).length ≤ 64 := by decide
set_option maxHeartbeats 2000000 in
theorem f20   : Fun G 20 [] (.bool true, []) := by
  refine Fun.of_run (g := g20) (pf := pf20) rfl rfl rfl rfl ?_
  have h1 := fFormat m0_ok m0_64
  have h2 := fNew0
  have h3 := fLay (run := 1) (slot := 0) tape0_len tape0_32 m0_ok m0_64
  have h4 := fOpen (m := m0) (by decide) (Laid.lay (run := 1) (slot := 0) tape0_len tape0_32 (by omega) (by omega) (.inl rfl) m0_ok m0_64 tape0_z)
  have hsm := okM_sm m0_ok m0_64
  have h5 := f17 hsm hsm
  rw [decide_eq_true rfl] at h5
  have ht := Laid.len (Laid.lay (run := 1) (slot := 0) tape0_len tape0_32 (by omega) (by omega) (.inl rfl) m0_ok m0_64 tape0_z)
  have hd := (smDo_lay (run := 1) (slot := 0) m0_ok m0_64).1
  obtain ⟨T', hT⟩ : ∃ T, T = layS tape0 1 0 m0 := ⟨_, rfl⟩
  rw [← hT] at h3 h4 ht
  obtain ⟨L, hL⟩ : ∃ L, L = layD 1 0 m0 := ⟨_, rfl⟩
  rw [← hL] at hd h1 h3
  obtain ⟨Z, hZ⟩ : ∃ Z, Z = tape0 := ⟨_, rfl⟩
  have hz := tape0_len
  rw [← hZ] at hz h2 h3
  clear hT hL hZ hsm
  simp only [push_cast, Int.reduceToNat, Int.reduceEq, Int.reduceNe, Int.reduceLT, Int.reduceLE, Int.reduceAdd, Int.reduceSub, Int.reduceMul, Int.reduceNeg, Nat.reduceEqDiff, Nat.reduceBEq, Nat.reduceBNe, Nat.reduceAdd, Nat.reduceLeDiff, Nat.reduceLT, Nat.reduceMul, ↓reduceIte, reduceCtorEq, cT, oT, tErr', m0, eMp, oMp, eRow, oRow, List.length_cons, List.length_nil] at h1 h2 h3 h4 h5
  simp (maxSteps := 1000000) (disch := first | assumption | ((try simp only [LEN, LEN2]); omega)) only [push_cast, Int.reduceToNat, Int.reduceEq, Int.reduceNe, Int.reduceLT, Int.reduceLE, Int.reduceAdd, Int.reduceSub, Int.reduceMul, Int.reduceNeg, Nat.reduceEqDiff, Nat.reduceBEq, Nat.reduceBNe, Nat.reduceAdd, Nat.reduceLeDiff, Nat.reduceLT, Nat.reduceMul, ↓reduceIte, reduceCtorEq, g20, pf20, b20, eRow, oRow, eMp, oMp, callC_eq h1, callT_eq h1, callC_eq h2, callT_eq h2, callC_eq h3, callT_eq h3, callC_eq h4, callT_eq h4, callC_eq h5, callT_eq h5]
theorem f20c   {g : VG} {F : Fn} {lk : Bool} {e : Env} {dst : Option Nat} {ops : List Ins} {keep : Option (List Nat)} {K : List Fr} : CallC G g F 20 [] lk e dst ops keep K = ThenL G g F (if lk && !(T.noSl (.bool true)) then none else e.put g.un dst (.bool true)) ops keep K := callC_eq (f20 )
attribute [push_cast] f20c
end Go.Mir.Tryz

set_option linter.unusedVariables false
set_option linter.unusedSimpArgs false
set_option maxRecDepth 100000
namespace Go.Mir.Tryz
open Go.Proofs Go.Mir.Q
theorem secP (run n : Int) (i : Nat) (b : Bool) (p : List UInt8) : be 4 run ++ be 4 n ++ be 2 i ++ be 1 (if b = true then 1 else 0) ++ be 1 p.length ++ p ++ List.replicate (20 - p.length) 0 = sec run n i b p := by
  have e1 : byt 1 = 1 := by decide
  have e0 : byt 0 = 0 := by decide
  cases b <;> simp [sec, be, e1, e0]
set_option maxHeartbeats 2000000 in
theorem f76 {n run num' : Int} {l : List Write} (hs : smW l) (hr : okR ⟨n, l⟩ = true) : Fun G 76 [.vs true [.d (.sc (.int .i64 n)), .d (.sl (l.map eW))], .int .i64 run, .int .i64 num'] (.one (.own 9 ((cuts run num' (spelt ⟨n, l⟩)).map oS)), []) := by
  refine Fun.of_run (g := g76) (pf := pf76) rfl rfl rfl rfl ?_
  have h64 : l.length ≤ 64 := by simp [okR] at hr; omega
  obtain ⟨s, hsd⟩ : ∃ s, spelt ⟨n, l⟩ = s := ⟨_, rfl⟩
  obtain ⟨hl1, hl2⟩ := okR_len hr
  obtain ⟨hc1, hc2⟩ := cnt_pos hr
  have hB := f107 (n := n) hs h64
  rw [hsd] at hl1 hl2 hc1 hc2 hB ⊢
  simp (maxSteps := 1000000) (disch := first | assumption | ((try simp only [LEN, LEN2]); omega)) only [push_cast, Int.reduceToNat, Int.reduceEq, Int.reduceNe, Int.reduceLT, Int.reduceLE, Int.reduceAdd, Int.reduceSub, Int.reduceMul, Int.reduceNeg, Nat.reduceEqDiff, Nat.reduceBEq, Nat.reduceBNe, Nat.reduceAdd, Nat.reduceLeDiff, Nat.reduceLT, Nat.reduceMul, ↓reduceIte, reduceCtorEq, g76, pf76, b76, callC_eq hB, callT_eq hB]
  refine run_loop' (fun i : Nat => [(1, T.int .i64 run), (2, T.int .i64 num'), (7, T.str (bs (s.drop (20 * i)))), (8, T.one (.own 9 ((cutK run num' s i).map oS))), (9, T.int .i64 i)]) (fun i => i < cnt s) (fun i => cnt s - i) 0 rfl hc1 (fun i h => ?_)
  have hkl : (cutK run num' s i).length = i := by simp [cutK]
  have hdr : (s.drop (20 * i)).drop (piece s i).length = s.drop (20 * (i + 1)) := by
    rw [List.drop_drop, piece, List.length_take, List.length_drop]
    by_cases h2 : 20 ≤ s.length - 20 * i
    · rw [Nat.min_eq_left h2]; rfl
    · rw [List.drop_of_length_le (by omega), List.drop_of_length_le (by omega)]
  have hb : (((piece s i).length : Int) = (s.drop (20 * i)).length) = (i + 1 = cnt s) := by
    apply propext
    unfold cnt at *
    simp only [piece, List.length_take, List.length_drop]
    omega
  have hm : (if ((s.drop (20 * i)).length : Int) < 20 then ((s.drop (20 * i)).length : Int) else 20) = (piece s i).length := by
    simp only [piece, List.length_take]
    split <;> omega
  have hp := piece_len s i
  have htk : (s.drop (20 * i)).take (piece s i).length = piece s i := by
    simp only [piece, List.length_take]
    by_cases h2 : 20 ≤ (s.drop (20 * i)).length
    · rw [Nat.min_eq_left h2]
    · rw [Nat.min_eq_right (by omega), List.take_of_length_le (Nat.le_refl _), List.take_of_length_le (by omega)]
  have hpd : (piece s i).length ≤ (s.drop (20 * i)).length := by simp only [piece, List.length_take]; omega
  have hdl : (s.drop (20 * i)).length ≤ 3000 := by rw [List.length_drop]; omega
  have hz := f30 (n := 20 - (piece s i).length) (by omega)
  have ez' : ((20 - (piece s i).length : Nat) : Int) = 20 - ((piece s i).length : Int) := by omega
  rw [ez'] at hz
  have hcs := cutK_succ run num' s i
  have hsec := fun b => secP run num' i b (piece s i)
  obtain ⟨d, hd⟩ : ∃ d, s.drop (20 * i) = d := ⟨_, rfl⟩
  obtain ⟨p, hpp⟩ : ∃ p, piece s i = p := ⟨_, rfl⟩
  rw [hd, hpp] at hdr hb hm htk hpd
  rw [hd] at hdl ⊢
  rw [hpp] at hp hz hcs hsec
  have hl4 : (be 4 run).length = 4 := be_length _ _
  have hX : ∀ f : Int, 32 - ((be 4 run ++ be 4 num' ++ be 2 ↑i ++ be 1 f ++ be 1 ↑p.length ++ p).length : Int) = 20 - (p.length : Int) := fun f => by
    simp only [List.length_append, be_length]; omega
  have hdl2 : (s.drop (20 * (i + 1))).length ≤ 3000 := by rw [List.length_drop]; omega
  by_cases hl : i + 1 = cnt s
  · have hsec := hsec true
    rw [if_pos rfl] at hsec
    have hcs : cutK run num' s i ++ [sec run num' i true p] = cuts run num' s := by rw [cuts, ← hl, hcs, hl, decide_eq_true rfl]
    have hX := hX 1
    simp (maxSteps := 1000000) (disch := first | assumption | ((try simp only [LEN, LEN2]); omega)) only [push_cast, Int.reduceToNat, Int.reduceEq, Int.reduceNe, Int.reduceLT, Int.reduceLE, Int.reduceAdd, Int.reduceSub, Int.reduceMul, Int.reduceNeg, Nat.reduceEqDiff, Nat.reduceBEq, Nat.reduceBNe, Nat.reduceAdd, Nat.reduceLeDiff, Nat.reduceLT, Nat.reduceMul, ↓reduceIte, reduceCtorEq, g76, pf76, b76, hm, hb, hl, htk, hX, callC_eq hz, callT_eq hz, foldS1, hsec, hcs, hdr]
    done
  · have hsec := hsec false
    rw [if_neg (by simp)] at hsec
    have hcs : cutK run num' s i ++ [sec run num' i false p] = cutK run num' s (i + 1) := by rw [hcs, decide_eq_false hl]
    have hX := hX 0
    simp (maxSteps := 1000000) (disch := first | assumption | ((try simp only [LEN, LEN2]); omega)) only [push_cast, Int.reduceToNat, Int.reduceEq, Int.reduceNe, Int.reduceLT, Int.reduceLE, Int.reduceAdd, Int.reduceSub, Int.reduceMul, Int.reduceNeg, Nat.reduceEqDiff, Nat.reduceBEq, Nat.reduceBNe, Nat.reduceAdd, Nat.reduceLeDiff, Nat.reduceLT, Nat.reduceMul, ↓reduceIte, reduceCtorEq, g76, pf76, b76, hm, hb, hl, htk, hX, callC_eq hz, callT_eq hz, foldS1, hsec, hcs, hdr]
    exact ⟨i + 1, by simp [hdr], by omega, by omega⟩
theorem f76c {n run num' : Int} {l : List Write} (hs : smW l) (hr : okR ⟨n, l⟩ = true) {g : VG} {F : Fn} {lk : Bool} {e : Env} {dst : Option Nat} {ops : List Ins} {keep : Option (List Nat)} {K : List Fr} : CallC G g F 76 [.vs true [.d (.sc (.int .i64 n)), .d (.sl (l.map eW))], .int .i64 run, .int .i64 num'] lk e dst ops keep K = ThenL G g F (if lk && !(T.noSl (.one (.own 9 ((cuts run num' (spelt ⟨n, l⟩)).map oS)))) then none else e.put g.un dst (.one (.own 9 ((cuts run num' (spelt ⟨n, l⟩)).map oS)))) ops keep K := callC_eq (f76 hs hr)
attribute [push_cast] f76c
set_option maxHeartbeats 2000000 in
theorem f47 {run slot : Int} (hs : slot = 0 ∨ slot = 1) : Fun G 47 [.int .i64 run, .int .i64 slot] (.str (bs (superS run slot)), []) := by
  refine Fun.of_run (g := g47) (pf := pf47) rfl rfl rfl rfl ?_
  have h := f76 (n := slot + 1) (run := 0) (num' := run) (l := []) ⟨by simp, by simp⟩ (okR_super hs)
  rw [cuts_super] at h
  simp only [push_cast, Int.reduceToNat, Int.reduceEq, Int.reduceNe, Int.reduceLT, Int.reduceLE, Int.reduceAdd, Int.reduceSub, Int.reduceMul, Int.reduceNeg, Nat.reduceEqDiff, Nat.reduceBEq, Nat.reduceBNe, Nat.reduceAdd, Nat.reduceLeDiff, Nat.reduceLT, Nat.reduceMul, ↓reduceIte, reduceCtorEq] at h
  rcases hs with rfl | rfl <;> simp only [push_cast, Int.reduceToNat, Int.reduceEq, Int.reduceNe, Int.reduceLT, Int.reduceLE, Int.reduceAdd, Int.reduceSub, Int.reduceMul, Int.reduceNeg, Nat.reduceEqDiff, Nat.reduceBEq, Nat.reduceBNe, Nat.reduceAdd, Nat.reduceLeDiff, Nat.reduceLT, Nat.reduceMul, ↓reduceIte, reduceCtorEq, oS] at h <;> simp (maxSteps := 1000000) (disch := first | assumption | ((try simp only [LEN, LEN2]); omega)) only [push_cast, Int.reduceToNat, Int.reduceEq, Int.reduceNe, Int.reduceLT, Int.reduceLE, Int.reduceAdd, Int.reduceSub, Int.reduceMul, Int.reduceNeg, Nat.reduceEqDiff, Nat.reduceBEq, Nat.reduceBNe, Nat.reduceAdd, Nat.reduceLeDiff, Nat.reduceLT, Nat.reduceMul, ↓reduceIte, reduceCtorEq, g47, pf47, b47, callC_eq h, callT_eq h, oS]
theorem f47c {run slot : Int} (hs : slot = 0 ∨ slot = 1) {g : VG} {F : Fn} {lk : Bool} {e : Env} {dst : Option Nat} {ops : List Ins} {keep : Option (List Nat)} {K : List Fr} : CallC G g F 47 [.int .i64 run, .int .i64 slot] lk e dst ops keep K = ThenL G g F (if lk && !(T.noSl (.str (bs (superS run slot)))) then none else e.put g.un dst (.str (bs (superS run slot)))) ops keep K := callC_eq (f47 hs)
attribute [push_cast] f47c
set_option maxHeartbeats 2000000 in
theorem f48 {s : Int} (hs : s = 0 ∨ s = 1) : Fun G 48 [.int .i64 s] (.int .i64 (startS s), []) := by
  refine Fun.of_run (g := g48) (pf := pf48) rfl rfl rfl rfl ?_
  rcases hs with rfl | rfl <;> simp (maxSteps := 1000000) (disch := first | assumption | ((try simp only [LEN, LEN2]); omega)) only [push_cast, Int.reduceToNat, Int.reduceEq, Int.reduceNe, Int.reduceLT, Int.reduceLE, Int.reduceAdd, Int.reduceSub, Int.reduceMul, Int.reduceNeg, Nat.reduceEqDiff, Nat.reduceBEq, Nat.reduceBNe, Nat.reduceAdd, Nat.reduceLeDiff, Nat.reduceLT, Nat.reduceMul, ↓reduceIte, reduceCtorEq, g48, pf48, b48] <;> rfl
theorem f48c {s : Int} (hs : s = 0 ∨ s = 1) {g : VG} {F : Fn} {lk : Bool} {e : Env} {dst : Option Nat} {ops : List Ins} {keep : Option (List Nat)} {K : List Fr} : CallC G g F 48 [.int .i64 s] lk e dst ops keep K = ThenL G g F (if lk && !(T.noSl (.int .i64 (startS s))) then none else e.put g.un dst (.int .i64 (startS s))) ops keep K := callC_eq (f48 hs)
attribute [push_cast] f48c
set_option maxHeartbeats 2000000 in
theorem f77 {a : Nat} {S : List (List UInt8)} (hS : S.length ≤ 1000000) (ha : a ≤ 1000000) : Fun G 77 [.int .i64 a, .one (.d (.sl (S.map eS)))] (.one (.own 74 ((putsD a S).map oDo)), []) := by
  refine Fun.of_run (g := g77) (pf := pf77) rfl rfl rfl rfl ?_
  simp (maxSteps := 1000000) (disch := first | assumption | ((try simp only [LEN, LEN2]); omega)) only [push_cast, Int.reduceToNat, Int.reduceEq, Int.reduceNe, Int.reduceLT, Int.reduceLE, Int.reduceAdd, Int.reduceSub, Int.reduceMul, Int.reduceNeg, Nat.reduceEqDiff, Nat.reduceBEq, Nat.reduceBNe, Nat.reduceAdd, Nat.reduceLeDiff, Nat.reduceLT, Nat.reduceMul, ↓reduceIte, reduceCtorEq, g77, pf77, b77]
  refine run_loop' (fun i : Nat => [(0, T.int .i64 a), (1, T.one (.d (.sl (S.map eS)))), (5, T.one (.own 74 ((putsD a (S.take i)).map oDo))), (6, T.int .i64 i)]) (fun i => i ≤ S.length) (fun i => S.length - i) 0 (by simp [putsD, putsW]) (Nat.zero_le _) (fun i hi => ?_)
  have hpl := putsD_len (S.take i) a
  rw [List.length_take, Nat.min_eq_left hi] at hpl
  by_cases h : (i : Int) < S.length
  · have hi' : i < S.length := by omega
    simp (maxSteps := 1000000) (disch := first | assumption | ((try simp only [LEN, LEN2]); omega)) only [push_cast, Int.reduceToNat, Int.reduceEq, Int.reduceNe, Int.reduceLT, Int.reduceLE, Int.reduceAdd, Int.reduceSub, Int.reduceMul, Int.reduceNeg, Nat.reduceEqDiff, Nat.reduceBEq, Nat.reduceBNe, Nat.reduceAdd, Nat.reduceLeDiff, Nat.reduceLT, Nat.reduceMul, ↓reduceIte, reduceCtorEq, g77, pf77, b77, h, eS]
    refine ⟨i + 1, ?_, by omega, by omega⟩
    rw [List.take_succ_eq_append_getElem hi', putsD_snoc, List.length_take, Nat.min_eq_left hi]
    simp only [List.map_append, List.map_cons, List.map_nil, oDo, List.append_assoc, Int.natCast_add, Int.cast_ofNat_Int]
  · obtain rfl : i = S.length := by omega
    simp (maxSteps := 1000000) (disch := first | assumption | ((try simp only [LEN, LEN2]); omega)) only [push_cast, Int.reduceToNat, Int.reduceEq, Int.reduceNe, Int.reduceLT, Int.reduceLE, Int.reduceAdd, Int.reduceSub, Int.reduceMul, Int.reduceNeg, Nat.reduceEqDiff, Nat.reduceBEq, Nat.reduceBNe, Nat.reduceAdd, Nat.reduceLeDiff, Nat.reduceLT, Nat.reduceMul, ↓reduceIte, reduceCtorEq, g77, pf77, b77, h]
    simp
theorem f77c {a : Nat} {S : List (List UInt8)} (hS : S.length ≤ 1000000) (ha : a ≤ 1000000) {g : VG} {F : Fn} {lk : Bool} {e : Env} {dst : Option Nat} {ops : List Ins} {keep : Option (List Nat)} {K : List Fr} : CallC G g F 77 [.int .i64 a, .one (.d (.sl (S.map eS)))] lk e dst ops keep K = ThenL G g F (if lk && !(T.noSl (.one (.own 74 ((putsD a S).map oDo)))) then none else e.put g.un dst (.one (.own 74 ((putsD a S).map oDo)))) ops keep K := callC_eq (f77 hS ha)
attribute [push_cast] f77c
set_option maxHeartbeats 2000000 in
theorem f24 {l : List Record} (hl : smR l) : Fun G 24 [.one (.d (.sl (l.map eR)))] (.one (.own 70 (l.map oR)), []) := by
  refine Fun.of_run (g := g24) (pf := pf24) rfl rfl rfl rfl ?_
  obtain ⟨hl, hl2⟩ := hl
  simp (maxSteps := 1000000) (disch := first | assumption | ((try simp only [LEN, LEN2]); omega)) only [push_cast, Int.reduceToNat, Int.reduceEq, Int.reduceNe, Int.reduceLT, Int.reduceLE, Int.reduceAdd, Int.reduceSub, Int.reduceMul, Int.reduceNeg, Nat.reduceEqDiff, Nat.reduceBEq, Nat.reduceBNe, Nat.reduceAdd, Nat.reduceLeDiff, Nat.reduceLT, Nat.reduceMul, ↓reduceIte, reduceCtorEq, g24, pf24, b24]
  refine run_loop' (fun i : Nat => [(0, T.one (.d (.sl (l.map eR)))), (3, T.one (.own 70 ((l.take i).map oR))), (4, T.int .i64 i)]) (fun i => i ≤ l.length) (fun i => l.length - i) 0 rfl (Nat.zero_le _) (fun i hi => ?_)
  by_cases h : (i : Int) < l.length
  · have hi' : i < l.length := by omega
    have hx := (hl2 l[i] (List.getElem_mem hi')).1.1
    simp (maxSteps := 1000000) (disch := first | assumption | ((try simp only [LEN, LEN2]); omega)) only [push_cast, Int.reduceToNat, Int.reduceEq, Int.reduceNe, Int.reduceLT, Int.reduceLE, Int.reduceAdd, Int.reduceSub, Int.reduceMul, Int.reduceNeg, Nat.reduceEqDiff, Nat.reduceBEq, Nat.reduceBNe, Nat.reduceAdd, Nat.reduceLeDiff, Nat.reduceLT, Nat.reduceMul, ↓reduceIte, reduceCtorEq, g24, pf24, b24, h, eR]
    refine ⟨i + 1, ?_, by omega, by omega⟩
    rw [List.take_succ_eq_append_getElem hi']
    rw [List.map_append]; simp [oR]
  · obtain rfl : i = l.length := by omega
    simp (maxSteps := 1000000) (disch := first | assumption | ((try simp only [LEN, LEN2]); omega)) only [push_cast, Int.reduceToNat, Int.reduceEq, Int.reduceNe, Int.reduceLT, Int.reduceLE, Int.reduceAdd, Int.reduceSub, Int.reduceMul, Int.reduceNeg, Nat.reduceEqDiff, Nat.reduceBEq, Nat.reduceBNe, Nat.reduceAdd, Nat.reduceLeDiff, Nat.reduceLT, Nat.reduceMul, ↓reduceIte, reduceCtorEq, g24, pf24, b24, h]
    simp
theorem f24c {l : List Record} (hl : smR l) {g : VG} {F : Fn} {lk : Bool} {e : Env} {dst : Option Nat} {ops : List Ins} {keep : Option (List Nat)} {K : List Fr} : CallC G g F 24 [.one (.d (.sl (l.map eR)))] lk e dst ops keep K = ThenL G g F (if lk && !(T.noSl (.one (.own 70 (l.map oR)))) then none else e.put g.un dst (.one (.own 70 (l.map oR)))) ops keep K := callC_eq (f24 hl)
attribute [push_cast] f24c
end Go.Mir.Tryz

set_option linter.unusedVariables false
set_option linter.unusedSimpArgs false
set_option maxRecDepth 100000
namespace Go.Mir.Tryz
open Go.Proofs Go.Mir.Q
end Go.Mir.Tryz

set_option linter.unusedVariables false
set_option linter.unusedSimpArgs false
set_option maxRecDepth 100000
namespace Go.Mir.Tryz
open Go.Proofs Go.Mir.Q
set_option maxHeartbeats 2000000 in
theorem f33 {run slot : Int} {m : Map} (hm : okM m = true) (h64 : (image m).length ≤ 64) (hs : slot = 0 ∨ slot = 1) : Fun G 33 [.int .i64 run, .int .i64 slot, .one (.d (.sl (m.map eMp)))] (layT (layD run slot m) ⟨run, slot, 255, 1⟩ 0, []) := by
  refine Fun.of_run (g := g33) (pf := pf33) rfl rfl rfl rfl ?_
  have hsm := okM_sm hm h64
  have hR := image_okR hm h64
  have hsw := okR_smW hR
  simp only at hsw
  have hc := okR_cnt hR
  have hc1 := f76 (run := run) (num' := 0) hsw hR
  have hI := f32 hsm
  have hst := startS_le (slot := slot)
  obtain ⟨C, hC⟩ : ∃ C, C = cuts run 0 (spelt ⟨1, image m⟩) := ⟨_, rfl⟩
  have hCl : C.length ≤ 116 := by rw [hC, cuts_len]; exact hc
  rw [← hC] at hc1
  have hp := f77 (a := startS slot) (S := C) (by omega) (by omega)
  have hf := f48 hs
  have hsu := f47 (run := run) hs
  have hpl := putsD_len C (startS slot)
  have ef : layD run slot m = putsD (startS slot) C ++ syncD :: (putsD 0 [superS run slot] ++ [syncD]) := by rw [hC]; rfl
  obtain ⟨I, hI2⟩ : ∃ I, I = image m := ⟨_, rfl⟩
  rw [← hI2] at hc1 hI h64
  have h64' : ¬ (64 : Int) < I.length := by omega
  simp (maxSteps := 1000000) (disch := first | assumption | ((try simp only [LEN, LEN2]); omega)) only [push_cast, Int.reduceToNat, Int.reduceEq, Int.reduceNe, Int.reduceLT, Int.reduceLE, Int.reduceAdd, Int.reduceSub, Int.reduceMul, Int.reduceNeg, Nat.reduceEqDiff, Nat.reduceBEq, Nat.reduceBNe, Nat.reduceAdd, Nat.reduceLeDiff, Nat.reduceLT, Nat.reduceMul, ↓reduceIte, reduceCtorEq, g33, pf33, b33, callC_eq hI, callT_eq hI, callC_eq hc1, callT_eq hc1, callC_eq hp, callT_eq hp, callC_eq hf, callT_eq hf, callC_eq hsu, callT_eq hsu, h64']
  rw [ef]
  simp [layT, oDo, syncD, putsD, putsW]
theorem f33c {run slot : Int} {m : Map} (hm : okM m = true) (h64 : (image m).length ≤ 64) (hs : slot = 0 ∨ slot = 1) {g : VG} {F : Fn} {lk : Bool} {e : Env} {dst : Option Nat} {ops : List Ins} {keep : Option (List Nat)} {K : List Fr} : CallC G g F 33 [.int .i64 run, .int .i64 slot, .one (.d (.sl (m.map eMp)))] lk e dst ops keep K = ThenL G g F (if lk && !(T.noSl (layT (layD run slot m) ⟨run, slot, 255, 1⟩ 0)) then none else e.put g.un dst (layT (layD run slot m) ⟨run, slot, 255, 1⟩ 0)) ops keep K := callC_eq (f33 hm h64 hs)
attribute [push_cast] f33c
set_option maxHeartbeats 2000000 in
theorem f35 {w : Wal} {n : Int} {l : List Write} (hs : smW l) (hr : okR ⟨n, l⟩ = true) (hw : okWal w = true) : Fun G 35 [.vs true (cWal w), .vs true [.d (.sc (.int .i64 n)), .d (.sl (l.map eW))]] (layT (addR w ⟨n, l⟩).1 (addR w ⟨n, l⟩).2.1 (addR w ⟨n, l⟩).2.2, []) := by
  refine Fun.of_run (g := g35) (pf := pf35) rfl rfl rfl rfl ?_
  obtain ⟨a, b, c, d⟩ := w
  have hw' := hw
  simp only [okWal, Bool.and_eq_true, decide_eq_true_eq] at hw'
  have hn : ¬ (okWal ⟨a, b, c, d⟩ = false ∨ okR ⟨n, l⟩ = false) := by rw [hw, hr]; simp
  have hc := okR_cnt hr
  have hcl := cuts_len a d (spelt ⟨n, l⟩)
  by_cases h1 : 1073741823 ≤ d
  · have e : addR ⟨a, b, c, d⟩ ⟨n, l⟩ = ([], ⟨0, 0, 0, 0⟩, 2) := by unfold addR; rw [if_neg hn, if_pos (by simp only; omega)]
    simp (maxSteps := 1000000) (disch := first | assumption | ((try simp only [LEN, LEN2]); omega)) only [push_cast, Int.reduceToNat, Int.reduceEq, Int.reduceNe, Int.reduceLT, Int.reduceLE, Int.reduceAdd, Int.reduceSub, Int.reduceMul, Int.reduceNeg, Nat.reduceEqDiff, Nat.reduceBEq, Nat.reduceBNe, Nat.reduceAdd, Nat.reduceLeDiff, Nat.reduceLT, Nat.reduceMul, ↓reduceIte, reduceCtorEq, g35, pf35, b35, h1, hr, e]
    try rfl
  · by_cases h2 : 512 < c + (cnt (spelt ⟨n, l⟩) : Nat)
    · have e : addR ⟨a, b, c, d⟩ ⟨n, l⟩ = ([], ⟨0, 0, 0, 0⟩, 5) := by unfold addR; rw [if_neg hn, if_neg (by simp only; omega), if_pos (by simp only; omega)]
      simp (maxSteps := 1000000) (disch := first | assumption | ((try simp only [LEN, LEN2]); omega)) only [push_cast, Int.reduceToNat, Int.reduceEq, Int.reduceNe, Int.reduceLT, Int.reduceLE, Int.reduceAdd, Int.reduceSub, Int.reduceMul, Int.reduceNeg, Nat.reduceEqDiff, Nat.reduceBEq, Nat.reduceBNe, Nat.reduceAdd, Nat.reduceLeDiff, Nat.reduceLT, Nat.reduceMul, ↓reduceIte, reduceCtorEq, g35, pf35, b35, h1, hr, hcl, h2, e]
      try rfl
    · have e : addR ⟨a, b, c, d⟩ ⟨n, l⟩ = (putsD c.toNat (cuts a d (spelt ⟨n, l⟩)), ⟨a, b, c + (cnt (spelt ⟨n, l⟩) : Nat), d + 1⟩, 0) := by unfold addR; rw [if_neg hn, if_neg (by simp only; omega), if_neg (by simp only; omega)]
      have hp := f77 (a := c.toNat) (S := cuts a d (spelt ⟨n, l⟩)) (by omega) (by omega)
      rw [show ((c.toNat : Nat) : Int) = c by omega] at hp
      simp (maxSteps := 1000000) (disch := first | assumption | ((try simp only [LEN, LEN2]); omega)) only [push_cast, Int.reduceToNat, Int.reduceEq, Int.reduceNe, Int.reduceLT, Int.reduceLE, Int.reduceAdd, Int.reduceSub, Int.reduceMul, Int.reduceNeg, Nat.reduceEqDiff, Nat.reduceBEq, Nat.reduceBNe, Nat.reduceAdd, Nat.reduceLeDiff, Nat.reduceLT, Nat.reduceMul, ↓reduceIte, reduceCtorEq, g35, pf35, b35, h1, hr, hcl, h2, callC_eq hp, callT_eq hp, e]
      try rfl
theorem f35c {w : Wal} {n : Int} {l : List Write} (hs : smW l) (hr : okR ⟨n, l⟩ = true) (hw : okWal w = true) {g : VG} {F : Fn} {lk : Bool} {e : Env} {dst : Option Nat} {ops : List Ins} {keep : Option (List Nat)} {K : List Fr} : CallC G g F 35 [.vs true (cWal w), .vs true [.d (.sc (.int .i64 n)), .d (.sl (l.map eW))]] lk e dst ops keep K = ThenL G g F (if lk && !(T.noSl (layT (addR w ⟨n, l⟩).1 (addR w ⟨n, l⟩).2.1 (addR w ⟨n, l⟩).2.2)) then none else e.put g.un dst (layT (addR w ⟨n, l⟩).1 (addR w ⟨n, l⟩).2.1 (addR w ⟨n, l⟩).2.2)) ops keep K := callC_eq (f35 hs hr hw)
attribute [push_cast] f35c
end Go.Mir.Tryz

set_option linter.unusedVariables false
set_option linter.unusedSimpArgs false
set_option maxRecDepth 100000
namespace Go.Mir.Tryz
open Go.Proofs Go.Mir.Q
theorem sm_R {r : List Record} (h : ∀ x ∈ r, okR x = true) : ∀ x ∈ r, x.Writes.length ≤ 1000000000 := fun x hx => by
  have := (okR_smW (h x hx)).1; omega
def oRd (r : Record) : List V := [.d (.sc (.int .i64 r.Commit)), .d (.sl (r.Writes.map eW))]
theorem toDss_oRd (l : List Record) : toDss (l.map oRd) = some (l.map eR) := toDss_map (fun _ => rfl) l
attribute [push_cast] toDss_oRd
theorem snocR (l : List Record) (r : Record) : l.map oRd ++ [[V.d (D.sc (.int .i64 r.Commit)), V.d (.sl (r.Writes.map eW))]] = (l ++ [r]).map oRd := by simp [oRd]
theorem _root_.Go.Mir.Q.Laid.okWal {S : List (List UInt8)} {w : Wal} {m : Map} {l : List Record} (h : Laid S w m l) : Q.okWal w = true ∧ w.Seq + 1 < 1073741824 := by
  have h1 := h.run
  have h2 := h.slot
  have h3 := h.at_
  have h4 := h.seq
  have h5 := h.few
  simp only [Q.okWal, Bool.and_eq_true, decide_eq_true_eq]
  omega
theorem addR_full {w : Wal} {r : Record} (h1 : okWal w = true) (h2 : okR r = true) (h3 : ¬ 1073741824 ≤ w.Seq + 1) (h : 512 - w.At < (cnt (spelt r) : Nat)) : addR w r = ([], ⟨0, 0, 0, 0⟩, 5) := by
  unfold addR; rw [if_neg (by rw [h1, h2]; simp), if_neg h3, if_pos h]
theorem addR_ok {w : Wal} {r : Record} (h1 : okWal w = true) (h2 : okR r = true) (h3 : ¬ 1073741824 ≤ w.Seq + 1) (h : ¬ 512 - w.At < (cnt (spelt r) : Nat)) : addR w r = (putsD w.At.toNat (cuts w.Run w.Seq (spelt r)), ⟨w.Run, w.Slot, w.At + (cnt (spelt r) : Nat), w.Seq + 1⟩, 0) := by
  unfold addR; rw [if_neg (by rw [h1, h2]; simp), if_neg h3, if_neg h]
structure LaidP (m : Map) (n : Nat) (T0 : List (List UInt8)) (x : Nat × List Put × Wal × List Record) : Prop where
  k : x.1 ≤ n
  k4 : x.1 ≤ 4
  run : x.2.2.1.Run ≤ 3
  wl : x.2.1.length ≤ 116 * x.1
  ok : okT T0 x.2.1 = true
  laid : Laid (flush T0 x.2.1) x.2.2.1 m x.2.2.2
theorem flush_app (S : List (List UInt8)) (A B : List Put) : flush S (A ++ B) = flush (flush S A) B := by simp [flush, List.foldl_append]
theorem smDo_puts0 {a : Nat} {l : List (List UInt8)} (hl : all32 l) (hk : l.length ≤ 1000) : smDo (putsD a l) := by
  refine ⟨?_, fun d hd => ?_⟩
  · simp only [putsD_len]; omega
  · simp only [putsD, List.mem_map] at hd
    obtain ⟨p, hp, rfl⟩ := hd
    have := hl _ (putsW_mem hp).2.2; simp only; omega
set_option maxHeartbeats 8000000 in
theorem f9 {M : List Map} {R : List Record} {S : List (List UInt8)} {N1 : List Int} {L : List (List (List UInt8))} {W : List Wal} {K N : List Int} (h : smAsk M R S N1 L W K N) {i : Nat} (hi : i < M.length) (hok : okM M[i] = true) (hl1 : 1 ≤ M[i].length) (h64 : (image M[i]).length ≤ 64) :
    ∃ (S' : List (List UInt8)) (w : Wal) (all : List Record), Fun G 9 [.vs true (cAsk M R S N1 L W K N), .int .i64 i] (.tup [(true, oT S' []), (true, cWal w), (false, [.own 70 (all.map oRd)])], []) ∧ Laid S' w M[i] all ∧ w.Run ≤ 3 := by
  have hM := h.m
  have hr := h.r
  have hR1 := hr.1
  have hR2 := hr.2
  have hsm := okM_sm hok h64
  obtain ⟨m, hm0⟩ : ∃ m, m = M[i] := ⟨_, rfl⟩
  rw [← hm0] at hok hl1 h64 hsm ⊢
  have hsm1 := hsm.1
  have e3 : (i : Int).tmod 3 = ((i % 3 : Nat) : Int) := by rw [Int.tmod_eq_emod_of_nonneg (by omega)]; omega
  have e2 : (i : Int).tmod 2 = ((i % 2 : Nat) : Int) := by rw [Int.tmod_eq_emod_of_nonneg (by omega)]; omega
  have hA := f33 (run := 1 + ((i % 3 : Nat) : Int)) (slot := ((i % 2 : Nat) : Int)) hok h64 (by omega)
  obtain ⟨run, hrun⟩ : ∃ r : Int, r = 1 + ((i % 3 : Nat) : Int) := ⟨_, rfl⟩
  obtain ⟨slot, hslot⟩ : ∃ r : Int, r = ((i % 2 : Nat) : Int) := ⟨_, rfl⟩
  rw [← hrun, ← hslot] at hA
  have hN := fNew0
  have hP := f34 (n := -1) (okT_all tape0_len tape0_32) (smDo_lay (run := run) (slot := slot) hok h64)
  rw [show upto (-1) (layD run slot m) = layD run slot m from rfl, play_lay tape0_len hok h64] at hP
  have hLd := Laid.lay (run := run) (slot := slot) tape0_len tape0_32 (by omega) (by omega) (by omega) hok h64 tape0_z
  have hlen := hLd.len
  have hd := (smDo_lay (run := run) (slot := slot) hok h64).1
  obtain ⟨T0, hT⟩ : ∃ T, T = layS tape0 run slot m := ⟨_, rfl⟩
  rw [← hT] at hP hLd hlen
  obtain ⟨D', hD⟩ : ∃ D, D = layD run slot m := ⟨_, rfl⟩
  rw [← hD] at hA hP hd
  obtain ⟨Z, hZ⟩ : ∃ Z, Z = tape0 := ⟨_, rfl⟩
  have hz := tape0_len
  rw [← hZ] at hz hN hP
  simp only [push_cast, Int.reduceToNat, Int.reduceEq, Int.reduceNe, Int.reduceLT, Int.reduceLE, Int.reduceAdd, Int.reduceSub, Int.reduceMul, Int.reduceNeg, Nat.reduceEqDiff, Nat.reduceBEq, Nat.reduceBNe, Nat.reduceAdd, Nat.reduceLeDiff, Nat.reduceLT, Nat.reduceMul, ↓reduceIte, reduceCtorEq, cT, oT, tErr, layT] at hA hN hP
  have e1 : (1 + (i : Int).tmod 3) = run := by rw [e3, hrun]
  have e1' : 1 + (i : Int) % 3 = run := by rw [hrun]; omega
  have e0' : (i : Int) % 2 = slot := by rw [hslot]; omega
  have e0 : (i : Int).tmod 2 = slot := by rw [e2, hslot]
  obtain ⟨r, h1, S', w, all, rfl, h2, h3⟩ := Fun.ex_of_run (G := G) (f := 9) (args := [.vs true (cAsk M R S N1 L W K N), .int .i64 i]) (Q := fun r => ∃ (S' : List (List UInt8)) (w : Wal) (all : List Record), r = (.tup [(true, oT S' []), (true, cWal w), (false, [.own 70 (all.map oRd)])], []) ∧ Laid S' w m all ∧ w.Run ≤ 3) (g := g9) (pf := pf9) rfl rfl rfl rfl (by
    simp (maxSteps := 1000000) (disch := first | assumption | ((try simp only [LEN, LEN2]); omega)) only [push_cast, Int.reduceToNat, Int.reduceEq, Int.reduceNe, Int.reduceLT, Int.reduceLE, Int.reduceAdd, Int.reduceSub, Int.reduceMul, Int.reduceNeg, Nat.reduceEqDiff, Nat.reduceBEq, Nat.reduceBNe, Nat.reduceAdd, Nat.reduceLeDiff, Nat.reduceLT, Nat.reduceMul, ↓reduceIte, reduceCtorEq, g9, pf9, b9, e1', e0', eMaps, ← hm0, callC_eq hA, callT_eq hA, callC_eq hN, callT_eq hN, callC_eq hP, callT_eq hP]
    refine run_loop' (fun x : Nat × List Put × Wal × List Record => [(1, T.int .i64 i), (2, T.one (.box (cAsk M R S N1 L W K N))), (4, T.one (.box (oT [] []))), (5, T.one (.box (cWal ⟨0, 0, 0, 0⟩))), (8, T.one (.box (cWal x.2.2.1))), (10, T.one (.box (oT T0 x.2.1))), (12, T.one (.own 70 (x.2.2.2.map oRd))), (13, T.int .i64 x.1)]) (LaidP m R.length T0) (fun x => R.length - x.1) (0, [], ⟨run, slot, 255, 1⟩, []) (by simp) ⟨by simp, by simp, by simp only; omega, by simp, okT_all hLd.len hLd.a32, hLd⟩ (fun ⟨k, W', w, all⟩ hk => ?_)
    obtain ⟨hk, hk4, hwr, hwl, hok', hL⟩ := hk
    simp only at hk hk4 hwr hwl hok' hL
    have hlen' := hL.len
    have hall := hL.few.2
    have hTl : T0.length = 512 := by rw [← flush_length W' T0]; exact hlen'
    by_cases h3 : (k : Int) < R.length ∧ (k : Int) < 4
    · obtain ⟨h3, h4⟩ := h3
      have hk' : k < R.length := by omega
      obtain ⟨⟨hw1, hw2⟩, hw3⟩ := hR2 R[k] (List.getElem_mem hk')
      obtain ⟨⟨c, ws⟩, hr0⟩ : ∃ r, r = R[k] := ⟨_, rfl⟩
      rw [← hr0] at hw1 hw2 hw3
      simp only at hw1 hw2 hw3
      have hcut : (R.take (k + 1)).drop k = [⟨c, ws⟩] := by rw [List.take_succ_eq_append_getElem hk', List.drop_append_of_le_length (by rw [List.length_take]; omega), List.drop_of_length_le (by rw [List.length_take]; omega), ← hr0]; rfl
      have ek : ((k : Int) + 1).toNat = k + 1 := by omega
      have hMay := f25 (m := m) (R := [⟨c, ws⟩]) hsm ⟨by simp, by simp only [List.mem_singleton]; rintro x rfl; exact ⟨⟨hw1, hw2⟩, hw3⟩⟩
      simp only [List.all_cons, List.all_nil, Bool.and_true, hok] at hMay
      cases hmr : mayR m.length ⟨c, ws⟩ with
      | false =>
        rw [hmr] at hMay
        simp only [push_cast, Int.reduceToNat, Int.reduceEq, Int.reduceNe, Int.reduceLT, Int.reduceLE, Int.reduceAdd, Int.reduceSub, Int.reduceMul, Int.reduceNeg, Nat.reduceEqDiff, Nat.reduceBEq, Nat.reduceBNe, Nat.reduceAdd, Nat.reduceLeDiff, Nat.reduceLT, Nat.reduceMul, ↓reduceIte, reduceCtorEq, eR] at hMay
        simp (maxSteps := 1000000) (disch := first | assumption | ((try simp only [LEN, LEN2]); omega)) only [push_cast, Int.reduceToNat, Int.reduceEq, Int.reduceNe, Int.reduceLT, Int.reduceLE, Int.reduceAdd, Int.reduceSub, Int.reduceMul, Int.reduceNeg, Nat.reduceEqDiff, Nat.reduceBEq, Nat.reduceBNe, Nat.reduceAdd, Nat.reduceLeDiff, Nat.reduceLT, Nat.reduceMul, ↓reduceIte, reduceCtorEq, g9, pf9, b9, h3, h4, eMaps, ← hm0, hcut, ek, eR, callC_eq hMay, callT_eq hMay]
        exact ⟨(k + 1, W', w, all), by simp, ⟨by simp only; omega, by simp only; omega, hwr, by simp only; omega, hok', hL⟩, by simp only; omega⟩
      | true =>
        rw [hmr] at hMay
        have hokr0 : okR ⟨c, ws⟩ = true := by simp only [mayR, Bool.and_eq_true] at hmr; exact hmr.1
        obtain ⟨hw, hsq⟩ := hL.okWal
        have hAdd := f35 (w := w) (n := c) (l := ws) ⟨hw1, hw2⟩ hokr0 hw
        have hcb := okR_cnt hokr0
        by_cases hfull : 512 - w.At < (cnt (spelt ⟨c, ws⟩) : Nat)
        · rw [addR_full hw hokr0 (by omega) hfull] at hAdd
          obtain ⟨a, b, a', d⟩ := w
          simp only [push_cast, Int.reduceToNat, Int.reduceEq, Int.reduceNe, Int.reduceLT, Int.reduceLE, Int.reduceAdd, Int.reduceSub, Int.reduceMul, Int.reduceNeg, Nat.reduceEqDiff, Nat.reduceBEq, Nat.reduceBNe, Nat.reduceAdd, Nat.reduceLeDiff, Nat.reduceLT, Nat.reduceMul, ↓reduceIte, reduceCtorEq, eR, layT] at hMay hAdd
          simp (maxSteps := 1000000) (disch := first | assumption | ((try simp only [LEN, LEN2]); omega)) only [push_cast, Int.reduceToNat, Int.reduceEq, Int.reduceNe, Int.reduceLT, Int.reduceLE, Int.reduceAdd, Int.reduceSub, Int.reduceMul, Int.reduceNeg, Nat.reduceEqDiff, Nat.reduceBEq, Nat.reduceBNe, Nat.reduceAdd, Nat.reduceLeDiff, Nat.reduceLT, Nat.reduceMul, ↓reduceIte, reduceCtorEq, g9, pf9, b9, h3, h4, eMaps, ← hm0, ← hr0, hcut, ek, eR, callC_eq hMay, callT_eq hMay, callC_eq hAdd, callT_eq hAdd]
          exact ⟨(k + 1, W', ⟨a, b, a', d⟩, all), by simp, ⟨by simp only; omega, by simp only; omega, hwr, by simp only; omega, hok', hL⟩, by simp only; omega⟩
        · rw [addR_ok hw hokr0 (by omega) hfull] at hAdd
          have hL2 := hL.add hokr0 (by omega)
          have hat := hL.at_
          have hpl := putsD_len (cuts w.Run w.Seq (spelt ⟨c, ws⟩)) w.At.toNat
          have hpw := putsW_len (cuts w.Run w.Seq (spelt ⟨c, ws⟩)) w.At.toNat
          have hcl := cuts_len w.Run w.Seq (spelt ⟨c, ws⟩)
          have hpo := puts_ok (S := T0) (l := cuts w.Run w.Seq (spelt ⟨c, ws⟩)) (a := w.At.toNat) (by omega) cuts_32
          have hP := f34 (n := -1) hok' (smDo_puts0 (a := w.At.toNat) (l := cuts w.Run w.Seq (spelt ⟨c, ws⟩)) cuts_32 (by omega))
          rw [show upto (-1) (putsD w.At.toNat (cuts w.Run w.Seq (spelt ⟨c, ws⟩))) = (putsW w.At.toNat (cuts w.Run w.Seq (spelt ⟨c, ws⟩))).map fun p => ⟨false, p⟩ from rfl, play_puts (putsW w.At.toNat (cuts w.Run w.Seq (spelt ⟨c, ws⟩))) T0 W' hpo (by omega)] at hP
          have hok2 : okT T0 (W' ++ putsW w.At.toNat (cuts w.Run w.Seq (spelt ⟨c, ws⟩))) = true := by
            have h1 := okT_iff.1 hok'
            refine okT_iff.2 ⟨⟨h1.1.1, h1.1.2.1, by rw [List.length_append]; omega⟩, h1.2.1, fun p hp => ?_⟩
            rcases List.mem_append.1 hp with hp | hp
            · exact h1.2.2 p hp
            · exact hpo p hp
          have hov : over (flush T0 W') w.At.toNat (cuts w.Run w.Seq (spelt ⟨c, ws⟩)) = flush T0 (W' ++ putsW w.At.toNat (cuts w.Run w.Seq (spelt ⟨c, ws⟩))) := by rw [flush_app]; rfl
          rw [hov] at hL2
          obtain ⟨P2, hP2⟩ : ∃ T, T = putsW w.At.toNat (cuts w.Run w.Seq (spelt ⟨c, ws⟩)) := ⟨_, rfl⟩
          rw [← hP2] at hL2 hok2 hP hpw
          obtain ⟨D2, hD2⟩ : ∃ D, D = putsD w.At.toNat (cuts w.Run w.Seq (spelt ⟨c, ws⟩)) := ⟨_, rfl⟩
          rw [← hD2] at hAdd hP hpl
          have hsn := snocR all ⟨c, ws⟩
          obtain ⟨a, b, a', d⟩ := w
          simp only at hwr hsn
          simp only [push_cast, Int.reduceToNat, Int.reduceEq, Int.reduceNe, Int.reduceLT, Int.reduceLE, Int.reduceAdd, Int.reduceSub, Int.reduceMul, Int.reduceNeg, Nat.reduceEqDiff, Nat.reduceBEq, Nat.reduceBNe, Nat.reduceAdd, Nat.reduceLeDiff, Nat.reduceLT, Nat.reduceMul, ↓reduceIte, reduceCtorEq, cT, oT, tErr, eR, layT] at hMay hAdd hP
          simp (maxSteps := 1000000) (disch := first | assumption | ((try simp only [LEN, LEN2]); omega)) only [push_cast, Int.reduceToNat, Int.reduceEq, Int.reduceNe, Int.reduceLT, Int.reduceLE, Int.reduceAdd, Int.reduceSub, Int.reduceMul, Int.reduceNeg, Nat.reduceEqDiff, Nat.reduceBEq, Nat.reduceBNe, Nat.reduceAdd, Nat.reduceLeDiff, Nat.reduceLT, Nat.reduceMul, ↓reduceIte, reduceCtorEq, g9, pf9, b9, h3, h4, eMaps, ← hm0, ← hr0, hcut, ek, eR, callC_eq hMay, callT_eq hMay, callC_eq hAdd, callT_eq hAdd, callC_eq hP, callT_eq hP, hsn]
          exact ⟨(k + 1, W' ++ P2, _, all ++ [⟨c, ws⟩]), by simp, ⟨by simp only; omega, by simp only; omega, hwr, by simp only [List.length_append]; omega, hok2, hL2⟩, by simp only; omega⟩
    · have hC := f36 (S := T0) (W := W') (L := [1]) (by omega) (by omega) (by simp) (fun p hp => by have := (okT_iff.1 hok').2.2 p hp; exact ⟨this.1, this.2.1⟩)
      rw [crashS_one] at hC
      simp only [push_cast, Int.reduceToNat, Int.reduceEq, Int.reduceNe, Int.reduceLT, Int.reduceLE, Int.reduceAdd, Int.reduceSub, Int.reduceMul, Int.reduceNeg, Nat.reduceEqDiff, Nat.reduceBEq, Nat.reduceBNe, Nat.reduceAdd, Nat.reduceLeDiff, Nat.reduceLT, Nat.reduceMul, ↓reduceIte, reduceCtorEq, cT, oT, eN] at hC
      obtain ⟨F, hF⟩ : ∃ F, F = flush T0 W' := ⟨_, rfl⟩
      rw [← hF] at hC hL
      obtain ⟨a, b, c, d⟩ := w
      by_cases h3' : (k : Int) < R.length
      · have h4' : ¬ (k : Int) < 4 := fun h => h3 ⟨h3', h⟩
        simp (maxSteps := 1000000) (disch := first | assumption | ((try simp only [LEN, LEN2]); omega)) only [push_cast, Int.reduceToNat, Int.reduceEq, Int.reduceNe, Int.reduceLT, Int.reduceLE, Int.reduceAdd, Int.reduceSub, Int.reduceMul, Int.reduceNeg, Nat.reduceEqDiff, Nat.reduceBEq, Nat.reduceBNe, Nat.reduceAdd, Nat.reduceLeDiff, Nat.reduceLT, Nat.reduceMul, ↓reduceIte, reduceCtorEq, g9, pf9, b9, h3', h4', callC_eq hC, callT_eq hC]
        exact ⟨F, ⟨a, b, c, d⟩, all, rfl, hL, hwr⟩
      · simp (maxSteps := 1000000) (disch := first | assumption | ((try simp only [LEN, LEN2]); omega)) only [push_cast, Int.reduceToNat, Int.reduceEq, Int.reduceNe, Int.reduceLT, Int.reduceLE, Int.reduceAdd, Int.reduceSub, Int.reduceMul, Int.reduceNeg, Nat.reduceEqDiff, Nat.reduceBEq, Nat.reduceBNe, Nat.reduceAdd, Nat.reduceLeDiff, Nat.reduceLT, Nat.reduceMul, ↓reduceIte, reduceCtorEq, g9, pf9, b9, h3', callC_eq hC, callT_eq hC]
        exact ⟨F, ⟨a, b, c, d⟩, all, rfl, hL, hwr⟩)
  exact ⟨S', w, all, h1, h2, h3⟩
end Go.Mir.Tryz

set_option linter.unusedVariables false
set_option maxRecDepth 100000
namespace Go.Mir.Tryz
open Go.Proofs Go.Mir.Q
theorem decS {n : Nat} : Dec Tryz.prog (n + 1) 9 eS (fun _ => True) := dec_str Tryz.underlying9
theorem decN {n : Nat} : Dec Tryz.prog (n + 1) 3 eN okN := dec_int Tryz.underlying3
theorem decRow {n : Nat} : Dec Tryz.prog (n + 2) 81 eRow (fun _ => True) :=
  dec_struct (fun x => (⟨x.1, x.2.1⟩ : Row)) Tryz.underlying81 (decFs_cons (dec_str Tryz.underlying9) (decFs_cons (dec_str Tryz.underlying9) decFs_nil)) (fun _ => by rfl) (fun _ _ => trivial)
theorem decWrite {n : Nat} : Dec Tryz.prog (n + 2) 78 eW (fun w => okN w.Table) :=
  dec_struct (fun x => (⟨x.1, x.2.1, x.2.2.1, x.2.2.2.1⟩ : Write)) Tryz.underlying78 (decFs_cons (dec_int Tryz.underlying3) (decFs_cons (dec_str Tryz.underlying9) (decFs_cons (dec_str Tryz.underlying9) (decFs_cons (dec_bool Tryz.underlying4) decFs_nil)))) (fun _ => by rfl) (fun _ h => by exact h.1)
theorem decRec {n : Nat} : Dec Tryz.prog (n + 4) 70 eR (fun r => okN r.Commit ∧ ∀ w ∈ r.Writes, okN w.Table) :=
  dec_struct (fun x => (⟨x.1, x.2.1⟩ : Record)) Tryz.underlying70 (decFs_cons (dec_int Tryz.underlying3) (decFs_cons (dec_slice Tryz.underlying68 decWrite) decFs_nil)) (fun _ => by rfl) (fun _ h => by exact ⟨h.1, h.2.1⟩)
theorem decWal {n : Nat} : Dec Tryz.prog (n + 2) 41 eWal (fun w => okN w.Run ∧ okN w.Slot ∧ okN w.At ∧ okN w.Seq) :=
  dec_struct (fun x => (⟨x.1, x.2.1, x.2.2.1, x.2.2.2.1⟩ : Wal)) Tryz.underlying41 (decFs_cons (dec_int Tryz.underlying3) (decFs_cons (dec_int Tryz.underlying3) (decFs_cons (dec_int Tryz.underlying3) (decFs_cons (dec_int Tryz.underlying3) decFs_nil)))) (fun _ => by rfl) (fun _ h => by exact ⟨h.1, h.2.1, h.2.2.1, h.2.2.2.1⟩)
abbrev A17 := List Record × List (List UInt8) × List Int × List (List (List UInt8))
def e17 (s : A17) : List D := [.sl (s.1.map eR), .sl (s.2.1.map eS), .sl (s.2.2.1.map eN), .sl (s.2.2.2.map fun l => [.sl (l.map eS)])]
theorem dec17 {n : Nat} : Dec Tryz.prog (n + 6) 28 e17 (fun s => ∀ r ∈ s.1, okN r.Commit ∧ ∀ w ∈ r.Writes, okN w.Table) :=
  dec_struct (fun x => (x.1, x.2.1, x.2.2.1, x.2.2.2.1)) Tryz.underlying28 (decFs_cons (dec_slice Tryz.underlying23 decRec) (decFs_cons (dec_slice Tryz.underlying24 decS) (decFs_cons (dec_slice Tryz.underlying25 decN) (decFs_cons (dec_slice Tryz.underlying26 (dec_slice Tryz.underlying24 decS)) decFs_nil)))) (fun _ => by rfl) (fun _ h => by exact h.1)
abbrev A19 := List Map × A17 × List Wal × List Int × List Int
def eAsk (s : A19) : List D := [.sl (s.1.map eMaps), .sl (s.2.1.1.map eR), .sl (s.2.1.2.1.map eS), .sl (s.2.1.2.2.1.map eN), .sl (s.2.1.2.2.2.map fun l => [.sl (l.map eS)]), .sl (s.2.2.1.map eWal), .sl (s.2.2.2.1.map eN), .sl (s.2.2.2.2.map eN)]
theorem decAsk {n : Nat} : Dec Tryz.prog (n + 8) 31 eAsk (fun s => (∀ r ∈ s.2.1.1, okN r.Commit ∧ ∀ w ∈ r.Writes, okN w.Table) ∧ (∀ x ∈ s.2.2.2.1, okN x) ∧ ∀ x ∈ s.2.2.2.2, okN x) :=
  dec_struct (fun x => (x.1, x.2.1, x.2.2.1, x.2.2.2.1, x.2.2.2.2.1)) Tryz.underlying31 (decFs_cons (dec_slice Tryz.underlying22 (dec_slice Tryz.underlying39 (dec_slice Tryz.underlying79 decRow))) (decFs_cons dec17 (decFs_cons (dec_slice Tryz.underlying29 decWal) (decFs_cons (dec_slice Tryz.underlying25 decN) (decFs_cons (dec_slice Tryz.underlying25 decN) decFs_nil))))) (fun _ => by rfl) (fun _ h => by exact ⟨h.2.1, h.2.2.2.1, h.2.2.2.2.1⟩)
theorem wt_S {l : List (List UInt8)} (h : wtss (l.map eS) ≤ 1048576) : smS l :=
  ⟨by have := len_wtss (en := eS) (fun x => by simp [eS, wts, D.wt]) l; omega, fun s hs => by have := wtss_map (en := eS) hs; simp only [eS, wts, D.wt, bs_size] at this; omega⟩
theorem wt_W {l : List Write} (h : wtss (l.map eW) ≤ 1048576) : smW l :=
  ⟨by have := len_wtss (en := eW) (fun x => by simp only [eW, wts, D.wt]; omega) l; omega, fun s hs => by have := wtss_map (en := eW) hs; simp only [eW, wts, D.wt, bs_size] at this; omega⟩
theorem wt_Rows {l : List Row} (h : wtss (l.map eRow) ≤ 1048576) : smRows l :=
  ⟨by have := len_wtss (en := eRow) (fun x => by simp only [eRow, wts, D.wt]; omega) l; omega, fun s hs => by have := wtss_map (en := eRow) hs; simp only [eRow, wts, D.wt, bs_size] at this; omega⟩
theorem wt_M {m : Map} (h : wtss (m.map eMp) ≤ 1048576) : smM m :=
  ⟨by have := len_wtss (en := eMp) (fun x => by simp only [eMp, wts, D.wt]; omega) m; omega, fun l hl => wt_Rows (by have := wtss_map (en := eMp) hl; simp only [eMp, wts, D.wt] at this; omega)⟩
theorem wt_R {l : List Record} (h : wtss (l.map eR) ≤ 1048576) (hc : ∀ r ∈ l, okN r.Commit ∧ ∀ w ∈ r.Writes, okN w.Table) : smR l :=
  ⟨by have := len_wtss (en := eR) (fun x => by simp only [eR, wts, D.wt]; omega) l; omega, fun r hr => by
    have := wtss_map (en := eR) hr
    simp only [eR, wts, D.wt] at this
    exact ⟨wt_W (by omega), (hc r hr).1⟩⟩
theorem lawAsk {f : FuncId} (hf : ∀ {M : List Map} {R : List Record} {S : List (List UInt8)} {N1 : List Int} {L : List (List (List UInt8))} {W : List Wal} {K N : List Int}, smAsk M R S N1 L W K N → Fun G f [.vs true (cAsk M R S N1 L W K N)] (.bool true, [])) {ds : List D} (h : Fits Tryz.prog 9 31 ds) (hw : wts ds ≤ 1048576) : ∃ k, callK G k f [.vs true (dsV ds)] = some (.bool true, []) := by
  obtain ⟨⟨M, ⟨R, S, N1, L⟩, W, K, N⟩, rfl, hR, hK, hN⟩ := decAsk (n := 1) ds h
  simp only [eAsk, wts, D.wt] at hw hR hK hN
  have h1 := len_wtss (en := eMaps) (fun x => by simp only [eMaps, wts, D.wt]; omega) M
  have h2 := len_wtss (en := eN) (fun x => by simp [eN, wts, D.wt]) N1
  have h3 := len_wtss (en := fun l : List (List UInt8) => [D.sl (l.map eS)]) (fun x => by simp only [wts, D.wt]; omega) L
  have h4 := len_wtss (en := eWal) (fun x => by simp only [eWal, wts, D.wt]; omega) W
  have h5 := len_wtss (en := eN) (fun x => by simp [eN, wts, D.wt]) K
  have h6 := len_wtss (en := eN) (fun x => by simp [eN, wts, D.wt]) N
  exact hf (M := M) (R := R) (S := S) (N1 := N1) (L := L) (W := W) (K := K) (N := N)
    { m := by omega
      mm := fun m hm => wt_M (by have := wtss_map (en := eMaps) hm; simp only [eMaps, wts, D.wt] at this; omega)
      r := wt_R (by omega) hR
      s := wt_S (by omega)
      n1 := by omega
      l := ⟨by omega, fun l hl => wt_S (by have := wtss_map (en := fun l : List (List UInt8) => [D.sl (l.map eS)]) hl; simp only [wts, D.wt] at this; omega)⟩
      w := by omega
      k := ⟨by omega, hK⟩
      n := ⟨by omega, hN⟩ }
end Go.Mir.Tryz

set_option linter.unusedVariables false
set_option linter.unusedSimpArgs false
set_option maxRecDepth 100000
namespace Go.Mir.Tryz
open Go.Proofs Go.Mir.Q
theorem putsD_app (a : Nat) (l k : List (List UInt8)) : putsD a (l ++ k) = putsD a l ++ putsD (a + l.length) k := by simp [putsD, putsW_app]
theorem toDss_mix (a b : List Record) : toDss (a.map oR ++ b.map oRd) = some ((a ++ b).map eR) := by
  induction a with
  | nil => simp [toDss_oRd]
  | cons x a ih =>
    simp only [List.map_cons, List.cons_append, toDss, ih]
    simp [oR, eR, toDs, V.toD, toDss_oW]
attribute [push_cast] toDss_mix
theorem snocM (a b : List Record) (r : Record) : a.map oR ++ b.map oRd ++ [[V.d (D.sc (.int .i64 r.Commit)), V.d (.sl (r.Writes.map eW))]] = a.map oR ++ (b ++ [r]).map oRd := by simp [oRd]
theorem snocA (A B : List Do) : A.map oDo ++ B.map oDo = (A ++ B).map oDo := by simp
theorem snocD (l : List Do) : l.map oDo ++ [[V.d (D.sc (.bool true)), V.d (D.sc (.int .i64 0)), V.d (D.sc (.string (bs [])))]] = (l ++ [syncD]).map oDo := by simp [oDo, syncD]
theorem fPlayN {S S' : List (List UInt8)} {W' : List Put} {l : List Do} {n : Nat} (hS : S.length = 512) (h32 : all32 S) (hl : smDo l) (h : playT ⟨S, []⟩ (l.take n) = (0, ⟨S', W'⟩)) :
    Fun G 22 [.vs true (cT S []), .int .i64 n, .one (.d (.sl (l.map eDo)))] (tErr' 0 ⟨S', W'⟩, []) ∧ okT S' W' = true := by
  have hok := okT_all hS h32
  have hp := f22 (S := S) (W := []) (n := n) (l := l) (by omega) (by simp) hl
  have e : playP S [] n l = (0, ⟨S', W'⟩) := by
    unfold playP
    rw [if_pos ⟨hok, by omega⟩, show upto n l = l.take n by unfold upto; rw [if_neg (by omega)]; simp, h]
  rw [e] at hp
  refine ⟨hp, ?_⟩
  have := okT_play (l := l.take n) (T := ⟨S, []⟩) hok (by rw [h])
  rw [h] at this
  exact this
theorem smR_ok {l : List Record} (h : ∀ r ∈ l, okR r = true) (hl : l.length ≤ 1000) : smR l := by
  refine ⟨by omega, fun r hr => ⟨okR_smW (h r hr), ?_⟩⟩
  have := okR_commit (h r hr)
  exact ⟨by omega, by omega⟩
theorem smDo_puts' {a : Nat} {l : List (List UInt8)} (hl : ∀ s ∈ l, s.length = 32) (hk : l.length ≤ 1000) : smDo (putsD a l ++ [syncD]) := by
  refine ⟨?_, fun d hd => ?_⟩
  · simp only [List.length_append, putsD_len, List.length_singleton]; omega
  · simp only [putsD, List.mem_append, List.mem_map, List.mem_singleton] at hd
    rcases hd with ⟨p, hp, rfl⟩ | rfl
    · have := hl _ (putsW_mem hp).2.2; simp only; omega
    · simp [syncD]
def frz (b : Bool) (a c : List Record) : V := if b then .d (.sl ((a ++ c).map eR)) else .own 70 (a.map oR ++ c.map oRd)
structure PowP (m : Map) (S0 : List (List UInt8)) (w0 : Wal) (recs : List Record) (x : Nat × Wal × List Record) : Prop where
  k : x.1 ≤ 3
  rl : x.2.2.length ≤ x.1
  ok : ∀ r ∈ x.2.2, okR r = true
  w : x.2.1 = ⟨w0.Run, w0.Slot, w0.At + ((catR w0.Run w0.Seq x.2.2).length : Nat), w0.Seq + (x.2.2.length : Nat)⟩
  fit : w0.At + ((catR w0.Run w0.Seq x.2.2).length : Nat) ≤ 512
set_option maxHeartbeats 16000000 in
theorem f4 {M : List Map} {R : List Record} {S : List (List UInt8)} {N1 : List Int} {L : List (List (List UInt8))} {W : List Wal} {K N : List Int} (h : smAsk M R S N1 L W K N) : Fun G 4 [.vs true (cAsk M R S N1 L W K N)] (.bool true, []) := by
  obtain ⟨b, hh⟩ := f6 h
  have hM := h.m
  have hmm := h.mm
  have hK := h.k.1
  have hN1 := h.n.1
  have hN2 := h.n.2
  have hr := h.r
  have hR1 := hr.1
  have hR2 := hr.2
  refine Fun.of_run (g := g4) (pf := pf4) rfl rfl rfl rfl ?_
  cases b with
  | true => simp (maxSteps := 1000000) (disch := first | assumption | ((try simp only [LEN, LEN2]); omega)) only [push_cast, Int.reduceToNat, Int.reduceEq, Int.reduceNe, Int.reduceLT, Int.reduceLE, Int.reduceAdd, Int.reduceSub, Int.reduceMul, Int.reduceNeg, Nat.reduceEqDiff, Nat.reduceBEq, Nat.reduceBNe, Nat.reduceAdd, Nat.reduceLeDiff, Nat.reduceLT, Nat.reduceMul, ↓reduceIte, reduceCtorEq, g4, pf4, b4, callC_eq hh, callT_eq hh]
  | false =>
  simp (maxSteps := 1000000) (disch := first | assumption | ((try simp only [LEN, LEN2]); omega)) only [push_cast, Int.reduceToNat, Int.reduceEq, Int.reduceNe, Int.reduceLT, Int.reduceLE, Int.reduceAdd, Int.reduceSub, Int.reduceMul, Int.reduceNeg, Nat.reduceEqDiff, Nat.reduceBEq, Nat.reduceBNe, Nat.reduceAdd, Nat.reduceLeDiff, Nat.reduceLT, Nat.reduceMul, ↓reduceIte, reduceCtorEq, g4, pf4, b4, callC_eq hh, callT_eq hh]
  refine run_loop' (fun i : Nat => [(1, T.one (.box (cAsk M R S N1 L W K N))), (3, T.int .i64 i)]) (fun i => i ≤ M.length) (fun i => M.length - i) 0 (by simp) (by simp) (fun i hi => ?_)
  by_cases h1 : (i : Int) + 1 < M.length
  · by_cases h2 : (i : Int) < 6
    · have hi' : i < M.length := by omega
      have hi2 : i + 1 < M.length := by omega
      have e1 : ((i : Int) + 1).toNat = i + 1 := by omega
      have hsm := hmm M[i] (List.getElem_mem hi')
      have hsm' := hmm M[i + 1] (List.getElem_mem hi2)
      have hlaid := @f9 M R S N1 L W K N h i hi'
      obtain ⟨m, hm0⟩ : ∃ m, m = M[i] := ⟨_, rfl⟩
      obtain ⟨m', hm1⟩ : ∃ m, m = M[i + 1] := ⟨_, rfl⟩
      rw [← hm0] at hsm hlaid
      rw [← hm1] at hsm'
      have hsm1 := hsm.1
      have hsm1' := hsm'.1
      have hgo : ∀ (e : (okM m && decide (1 ≤ m.length ∧ (image m).length ≤ 64)) = false ∨ (okM m' && decide (1 ≤ m'.length ∧ (image m').length ≤ 64)) = false ∨ ¬ (m.length : Int) = m'.length), True := fun _ => trivial
      by_cases hab : (okM m && decide (1 ≤ m.length ∧ (image m).length ≤ 64)) = true
      · by_cases hab' : (okM m' && decide (1 ≤ m'.length ∧ (image m').length ≤ 64)) = true
        · by_cases hll : (m.length : Int) = m'.length
          · have hab2 := hab
            have hab2' := hab'
            simp only [Bool.and_eq_true, decide_eq_true_eq] at hab2 hab2'
            obtain ⟨hok, hl1, h64⟩ := hab2
            obtain ⟨hok', hl1', h64'⟩ := hab2'
            have hll' : m'.length = m.length := by omega
            have hll2 : (m'.length : Int) = (m.length : Int) := by omega
            obtain ⟨S', w, recs, hf, hL, hwr⟩ := hlaid hok hl1 h64
            have hlen := hL.len
            have h32 := hL.a32
            have hokw := hL.okWal
            have hfew := hL.few.2
            have hrun := hL.run
            have hslot := hL.slot
            have hA := fSave hL (by omega) (by omega) hok' h64'
            have hpow := fun n hn => hL.powerSave (by omega) hok' h64' K (n := n) hn
            have hdo := smDo_lay (run := w.Run + 1) (slot := 1 - w.Slot) hok' h64'
            have hdl := hdo.1
            have hopen := hL.open
            obtain ⟨D', hD⟩ : ∃ D, D = layD (w.Run + 1) (1 - w.Slot) m' := ⟨_, rfl⟩
            rw [← hD] at hA hdl hdo hpow
            have hE1 := f17 hsm hsm
            have hE2 := f17 hsm hsm'
            have hE3 := f17 hsm' hsm
            have hE4 := f17 hsm' hsm'
            rw [decide_eq_true rfl] at hE1 hE4
            have hrs := smR_ok hL.okr (by omega)
            have hQ1 := f18 (a := recs) (b := recs) (by omega) (by omega) (sm_R hL.okr) (sm_R hL.okr)
            have hQ2 := f18 (a := []) (b := recs) (by simp) (by omega) (by simp) (sm_R hL.okr)
            rw [decide_eq_true rfl] at hQ1
            obtain ⟨a, b, c, d⟩ := w
            simp only at hrun hslot hwr hokw
            simp only [push_cast, Int.reduceToNat, Int.reduceEq, Int.reduceNe, Int.reduceLT, Int.reduceLE, Int.reduceAdd, Int.reduceSub, Int.reduceMul, Int.reduceNeg, Nat.reduceEqDiff, Nat.reduceBEq, Nat.reduceBNe, Nat.reduceAdd, Nat.reduceLeDiff, Nat.reduceLT, Nat.reduceMul, ↓reduceIte, reduceCtorEq, layT] at hA hQ2
            simp (maxSteps := 1000000) (disch := first | assumption | ((try simp only [LEN, LEN2]); omega)) only [push_cast, Int.reduceToNat, Int.reduceEq, Int.reduceNe, Int.reduceLT, Int.reduceLE, Int.reduceAdd, Int.reduceSub, Int.reduceMul, Int.reduceNeg, Nat.reduceEqDiff, Nat.reduceBEq, Nat.reduceBNe, Nat.reduceAdd, Nat.reduceLeDiff, Nat.reduceLT, Nat.reduceMul, ↓reduceIte, reduceCtorEq, g4, pf4, b4, h1, h2, e1, eMaps, ← hm0, ← hm1, hab, hab', hll2, callC_eq hf, callT_eq hf, callC_eq hA, callT_eq hA]
            refine run_loop' (fun k : Nat => [(1, T.one (.box (cAsk M R S N1 L W K N))), (3, T.int .i64 i), (4, T.one (.box (oT S' []))), (5, T.one (.box (cWal ⟨a, b, c, d⟩))), (6, T.one (.own 70 (recs.map oRd))), (7, T.int .i64 m.length), (8, T.one (.own 74 (D'.map oDo))), (11, T.int .i64 k)]) (fun k => k ≤ N.length) (fun k => N.length - k) 0 (by simp) (by simp) (fun k hk => ?_)
            by_cases h3 : (k : Int) < N.length ∧ (k : Int) < 5
            · obtain ⟨h3, h4⟩ := h3
              have hk' : k < N.length := by omega
              have hWi := f11 (i := N[k]) (n := (D'.length : Int) + 1) (hN2 _ (List.getElem_mem hk')) (by omega) (by omega)
              obtain ⟨n, hn⟩ : ∃ n : Nat, (N[k] % 18446744073709551616) % ((D'.length : Int) + 1) = n := Int.eq_ofNat_of_zero_le (Int.emod_nonneg _ (by omega : (D'.length : Int) + 1 ≠ 0))
              have hnl : (n : Int) < (D'.length : Int) + 1 := by rw [← hn]; exact Int.emod_lt_of_pos _ (by omega : (0 : Int) < (D'.length : Int) + 1)
              rw [hn] at hWi
              obtain ⟨S2, W2, hp1, hp2, hp3, hp4⟩ := hpow n (by omega)
              obtain ⟨hPl, hokp⟩ := fPlayN hlen h32 hdo hp1
              have hSl := (okT_iff.1 hokp).1
              have hCr := f23 (S := S2) (W := W2) (L := K) (by omega) (by omega) (by omega)
              rw [if_pos hokp] at hCr
              obtain ⟨C2, hC2⟩ : ∃ C, C = crashS K S2 W2 := ⟨_, rfl⟩
              rw [← hC2] at hCr hp2 hp3 hp4
              simp only [push_cast, Int.reduceToNat, Int.reduceEq, Int.reduceNe, Int.reduceLT, Int.reduceLE, Int.reduceAdd, Int.reduceSub, Int.reduceMul, Int.reduceNeg, Nat.reduceEqDiff, Nat.reduceBEq, Nat.reduceBNe, Nat.reduceAdd, Nat.reduceLeDiff, Nat.reduceLT, Nat.reduceMul, ↓reduceIte, reduceCtorEq, cT, oT, tErr'] at hPl hCr
              rcases hp4 with ⟨hLc, hne⟩ | hop
              · have hOp := fOpen hl1 hLc
                have hne' : ¬ (n : Int) = D'.length := by omega
                simp only [push_cast, Int.reduceToNat, Int.reduceEq, Int.reduceNe, Int.reduceLT, Int.reduceLE, Int.reduceAdd, Int.reduceSub, Int.reduceMul, Int.reduceNeg, Nat.reduceEqDiff, Nat.reduceBEq, Nat.reduceBNe, Nat.reduceAdd, Nat.reduceLeDiff, Nat.reduceLT, Nat.reduceMul, ↓reduceIte, reduceCtorEq, cT, openR] at hOp
                cases hv : decide (m = m') with
                | false =>
                  rw [hv] at hE2
                  simp (maxSteps := 1000000) (disch := first | assumption | ((try simp only [LEN, LEN2]); omega)) only [push_cast, Int.reduceToNat, Int.reduceEq, Int.reduceNe, Int.reduceLT, Int.reduceLE, Int.reduceAdd, Int.reduceSub, Int.reduceMul, Int.reduceNeg, Nat.reduceEqDiff, Nat.reduceBEq, Nat.reduceBNe, Nat.reduceAdd, Nat.reduceLeDiff, Nat.reduceLT, Nat.reduceMul, ↓reduceIte, reduceCtorEq, g4, pf4, b4, h3, h4, eN, callC_eq hWi, callT_eq hWi, callC_eq hPl, callT_eq hPl, callC_eq hCr, callT_eq hCr, callC_eq hOp, callT_eq hOp, eMaps, ← hm0, ← hm1, e1, hll2, callC_eq hE1, callT_eq hE1, callC_eq hE2, callT_eq hE2, callC_eq hQ1, callT_eq hQ1, hne']
                  exact ⟨k + 1, by simp, by omega, by omega⟩
                | true =>
                  rw [hv] at hE2
                  by_cases hz : (recs.length : Int) = 0
                  · simp (maxSteps := 1000000) (disch := first | assumption | ((try simp only [LEN, LEN2]); omega)) only [push_cast, Int.reduceToNat, Int.reduceEq, Int.reduceNe, Int.reduceLT, Int.reduceLE, Int.reduceAdd, Int.reduceSub, Int.reduceMul, Int.reduceNeg, Nat.reduceEqDiff, Nat.reduceBEq, Nat.reduceBNe, Nat.reduceAdd, Nat.reduceLeDiff, Nat.reduceLT, Nat.reduceMul, ↓reduceIte, reduceCtorEq, g4, pf4, b4, h3, h4, eN, callC_eq hWi, callT_eq hWi, callC_eq hPl, callT_eq hPl, callC_eq hCr, callT_eq hCr, callC_eq hOp, callT_eq hOp, eMaps, ← hm0, ← hm1, e1, hll2, callC_eq hE1, callT_eq hE1, callC_eq hE2, callT_eq hE2, callC_eq hQ1, callT_eq hQ1, hne', hz]
                    exact ⟨k + 1, by simp, by omega, by omega⟩
                  · simp (maxSteps := 1000000) (disch := first | assumption | ((try simp only [LEN, LEN2]); omega)) only [push_cast, Int.reduceToNat, Int.reduceEq, Int.reduceNe, Int.reduceLT, Int.reduceLE, Int.reduceAdd, Int.reduceSub, Int.reduceMul, Int.reduceNeg, Nat.reduceEqDiff, Nat.reduceBEq, Nat.reduceBNe, Nat.reduceAdd, Nat.reduceLeDiff, Nat.reduceLT, Nat.reduceMul, ↓reduceIte, reduceCtorEq, g4, pf4, b4, h3, h4, eN, callC_eq hWi, callT_eq hWi, callC_eq hPl, callT_eq hPl, callC_eq hCr, callT_eq hCr, callC_eq hOp, callT_eq hOp, eMaps, ← hm0, ← hm1, e1, hll2, callC_eq hE1, callT_eq hE1, callC_eq hE2, callT_eq hE2, callC_eq hQ1, callT_eq hQ1, hne', hz]
                    exact ⟨k + 1, by simp, by omega, by omega⟩
              · have hOp := fOpenT hp2 hp3 hok' hl1' hop
                rw [hll2] at hOp
                simp only [push_cast, Int.reduceToNat, Int.reduceEq, Int.reduceNe, Int.reduceLT, Int.reduceLE, Int.reduceAdd, Int.reduceSub, Int.reduceMul, Int.reduceNeg, Nat.reduceEqDiff, Nat.reduceBEq, Nat.reduceBNe, Nat.reduceAdd, Nat.reduceLeDiff, Nat.reduceLT, Nat.reduceMul, ↓reduceIte, reduceCtorEq, cT, openR] at hOp
                cases hv : decide (m' = m) with
                | false =>
                  rw [hv] at hE3
                  simp (maxSteps := 1000000) (disch := first | assumption | ((try simp only [LEN, LEN2]); omega)) only [push_cast, Int.reduceToNat, Int.reduceEq, Int.reduceNe, Int.reduceLT, Int.reduceLE, Int.reduceAdd, Int.reduceSub, Int.reduceMul, Int.reduceNeg, Nat.reduceEqDiff, Nat.reduceBEq, Nat.reduceBNe, Nat.reduceAdd, Nat.reduceLeDiff, Nat.reduceLT, Nat.reduceMul, ↓reduceIte, reduceCtorEq, g4, pf4, b4, h3, h4, eN, callC_eq hWi, callT_eq hWi, callC_eq hPl, callT_eq hPl, callC_eq hCr, callT_eq hCr, callC_eq hOp, callT_eq hOp, eMaps, ← hm0, ← hm1, e1, hll2, callC_eq hE3, callT_eq hE3, callC_eq hE4, callT_eq hE4, callC_eq hQ2, callT_eq hQ2]
                  by_cases hq : (n : Int) = D'.length
                  · simp (maxSteps := 1000000) (disch := first | assumption | ((try simp only [LEN, LEN2]); omega)) only [push_cast, Int.reduceToNat, Int.reduceEq, Int.reduceNe, Int.reduceLT, Int.reduceLE, Int.reduceAdd, Int.reduceSub, Int.reduceMul, Int.reduceNeg, Nat.reduceEqDiff, Nat.reduceBEq, Nat.reduceBNe, Nat.reduceAdd, Nat.reduceLeDiff, Nat.reduceLT, Nat.reduceMul, ↓reduceIte, reduceCtorEq, g4, pf4, b4, hq]
                    exact ⟨k + 1, by simp, by omega, by omega⟩
                  · simp (maxSteps := 1000000) (disch := first | assumption | ((try simp only [LEN, LEN2]); omega)) only [push_cast, Int.reduceToNat, Int.reduceEq, Int.reduceNe, Int.reduceLT, Int.reduceLE, Int.reduceAdd, Int.reduceSub, Int.reduceMul, Int.reduceNeg, Nat.reduceEqDiff, Nat.reduceBEq, Nat.reduceBNe, Nat.reduceAdd, Nat.reduceLeDiff, Nat.reduceLT, Nat.reduceMul, ↓reduceIte, reduceCtorEq, g4, pf4, b4, hq]
                    exact ⟨k + 1, by simp, by omega, by omega⟩
                | true =>
                  rw [hv] at hE3
                  cases hz : decide ([] = recs) with
                  | true =>
                    rw [hz] at hQ2
                    simp (maxSteps := 1000000) (disch := first | assumption | ((try simp only [LEN, LEN2]); omega)) only [push_cast, Int.reduceToNat, Int.reduceEq, Int.reduceNe, Int.reduceLT, Int.reduceLE, Int.reduceAdd, Int.reduceSub, Int.reduceMul, Int.reduceNeg, Nat.reduceEqDiff, Nat.reduceBEq, Nat.reduceBNe, Nat.reduceAdd, Nat.reduceLeDiff, Nat.reduceLT, Nat.reduceMul, ↓reduceIte, reduceCtorEq, g4, pf4, b4, h3, h4, eN, callC_eq hWi, callT_eq hWi, callC_eq hPl, callT_eq hPl, callC_eq hCr, callT_eq hCr, callC_eq hOp, callT_eq hOp, eMaps, ← hm0, ← hm1, e1, hll2, callC_eq hE3, callT_eq hE3, callC_eq hE4, callT_eq hE4, callC_eq hQ2, callT_eq hQ2]
                    by_cases hq : (n : Int) = D'.length
                    · simp (maxSteps := 1000000) (disch := first | assumption | ((try simp only [LEN, LEN2]); omega)) only [push_cast, Int.reduceToNat, Int.reduceEq, Int.reduceNe, Int.reduceLT, Int.reduceLE, Int.reduceAdd, Int.reduceSub, Int.reduceMul, Int.reduceNeg, Nat.reduceEqDiff, Nat.reduceBEq, Nat.reduceBNe, Nat.reduceAdd, Nat.reduceLeDiff, Nat.reduceLT, Nat.reduceMul, ↓reduceIte, reduceCtorEq, g4, pf4, b4, hq]
                      exact ⟨k + 1, by simp, by omega, by omega⟩
                    · simp (maxSteps := 1000000) (disch := first | assumption | ((try simp only [LEN, LEN2]); omega)) only [push_cast, Int.reduceToNat, Int.reduceEq, Int.reduceNe, Int.reduceLT, Int.reduceLE, Int.reduceAdd, Int.reduceSub, Int.reduceMul, Int.reduceNeg, Nat.reduceEqDiff, Nat.reduceBEq, Nat.reduceBNe, Nat.reduceAdd, Nat.reduceLeDiff, Nat.reduceLT, Nat.reduceMul, ↓reduceIte, reduceCtorEq, g4, pf4, b4, hq]
                      exact ⟨k + 1, by simp, by omega, by omega⟩
                  | false =>
                    rw [hz] at hQ2
                    simp (maxSteps := 1000000) (disch := first | assumption | ((try simp only [LEN, LEN2]); omega)) only [push_cast, Int.reduceToNat, Int.reduceEq, Int.reduceNe, Int.reduceLT, Int.reduceLE, Int.reduceAdd, Int.reduceSub, Int.reduceMul, Int.reduceNeg, Nat.reduceEqDiff, Nat.reduceBEq, Nat.reduceBNe, Nat.reduceAdd, Nat.reduceLeDiff, Nat.reduceLT, Nat.reduceMul, ↓reduceIte, reduceCtorEq, g4, pf4, b4, h3, h4, eN, callC_eq hWi, callT_eq hWi, callC_eq hPl, callT_eq hPl, callC_eq hCr, callT_eq hCr, callC_eq hOp, callT_eq hOp, eMaps, ← hm0, ← hm1, e1, hll2, callC_eq hE3, callT_eq hE3, callC_eq hE4, callT_eq hE4, callC_eq hQ2, callT_eq hQ2]
                    by_cases hq : (n : Int) = D'.length
                    · simp (maxSteps := 1000000) (disch := first | assumption | ((try simp only [LEN, LEN2]); omega)) only [push_cast, Int.reduceToNat, Int.reduceEq, Int.reduceNe, Int.reduceLT, Int.reduceLE, Int.reduceAdd, Int.reduceSub, Int.reduceMul, Int.reduceNeg, Nat.reduceEqDiff, Nat.reduceBEq, Nat.reduceBNe, Nat.reduceAdd, Nat.reduceLeDiff, Nat.reduceLT, Nat.reduceMul, ↓reduceIte, reduceCtorEq, g4, pf4, b4, hq]
                      exact ⟨k + 1, by simp, by omega, by omega⟩
                    · simp (maxSteps := 1000000) (disch := first | assumption | ((try simp only [LEN, LEN2]); omega)) only [push_cast, Int.reduceToNat, Int.reduceEq, Int.reduceNe, Int.reduceLT, Int.reduceLE, Int.reduceAdd, Int.reduceSub, Int.reduceMul, Int.reduceNeg, Nat.reduceEqDiff, Nat.reduceBEq, Nat.reduceBNe, Nat.reduceAdd, Nat.reduceLeDiff, Nat.reduceLT, Nat.reduceMul, ↓reduceIte, reduceCtorEq, g4, pf4, b4, hq]
                      exact ⟨k + 1, by simp, by omega, by omega⟩
            · have hc3 : ¬ (k : Int) < N.length ∨ (k : Int) < N.length ∧ ¬ (k : Int) < 5 := by omega
              obtain ⟨a0, ha0⟩ : ∃ w : Wal, w = ⟨a, b, c, d⟩ := ⟨_, rfl⟩
              rw [← ha0] at hL hokw
              have ha1 : a0.Run = a ∧ a0.Slot = b ∧ a0.At = c ∧ a0.Seq = d := by rw [ha0]; exact ⟨rfl, rfl, rfl, rfl⟩
              have hCo := f24 hrs
              rcases hc3 with h3 | ⟨h3, h4⟩
              all_goals
                first | simp (maxSteps := 1000000) (disch := first | assumption | ((try simp only [LEN, LEN2]); omega)) only [push_cast, Int.reduceToNat, Int.reduceEq, Int.reduceNe, Int.reduceLT, Int.reduceLE, Int.reduceAdd, Int.reduceSub, Int.reduceMul, Int.reduceNeg, Nat.reduceEqDiff, Nat.reduceBEq, Nat.reduceBNe, Nat.reduceAdd, Nat.reduceLeDiff, Nat.reduceLT, Nat.reduceMul, ↓reduceIte, reduceCtorEq, g4, pf4, b4, h3, h4, callC_eq hCo, callT_eq hCo] | simp (maxSteps := 1000000) (disch := first | assumption | ((try simp only [LEN, LEN2]); omega)) only [push_cast, Int.reduceToNat, Int.reduceEq, Int.reduceNe, Int.reduceLT, Int.reduceLE, Int.reduceAdd, Int.reduceSub, Int.reduceMul, Int.reduceNeg, Nat.reduceEqDiff, Nat.reduceBEq, Nat.reduceBNe, Nat.reduceAdd, Nat.reduceLeDiff, Nat.reduceLT, Nat.reduceMul, ↓reduceIte, reduceCtorEq, g4, pf4, b4, h3, callC_eq hCo, callT_eq hCo]
                refine run_loop' (fun x : Nat × Wal × List Record => [(1, T.one (.box (cAsk M R S N1 L W K N))), (3, T.int .i64 i), (4, T.one (.box (oT S' []))), (5, T.one (.box (cWal x.2.1))), (6, T.one (.own 70 (recs.map oRd))), (7, T.int .i64 m.length), (22, T.one (.own 74 ((putsD a0.At.toNat (catR a0.Run a0.Seq x.2.2)).map oDo))), (23, T.one (.own 70 (recs.map oR ++ x.2.2.map oRd))), (24, T.int .i64 x.1)]) (PowP m S' a0 recs) (fun x => 3 - x.1) (0, a0, []) (by simp [ha0, putsD, putsW, catR]) ⟨by simp, by simp, by simp, by simp [catR], by simp only [catR, List.length_nil]; have h1 := hL.at_; have h2 := hL.few.1; omega⟩ (fun ⟨q, w2, rs⟩ hq => ?_)
                obtain ⟨hq3, hrl, hrok, hw2, hfit⟩ := hq
                simp only at hq3 hrl hrok hw2 hfit
                have hadd := hL.adds hrok hfit
                rw [← hw2] at hadd
                have hat := hL.at_
                have hcl0 : (catR a0.Run a0.Seq rs).length ≤ 257 := by omega
                by_cases h5 : (q : Int) < 3
                · by_cases h6 : (q : Int) < R.length
                  · have hq' : q < R.length := by omega
                    obtain ⟨⟨hx1, hx2⟩, hx3⟩ := hR2 R[q] (List.getElem_mem hq')
                    obtain ⟨⟨rc, ws⟩, hr0⟩ : ∃ r, r = R[q] := ⟨_, rfl⟩
                    rw [← hr0] at hx1 hx2 hx3
                    simp only at hx1 hx2 hx3
                    have hcut : (R.take (q + 1)).drop q = [⟨rc, ws⟩] := by rw [List.take_succ_eq_append_getElem hq', List.drop_append_of_le_length (by rw [List.length_take]; omega), List.drop_of_length_le (by rw [List.length_take]; omega), ← hr0]; rfl
                    have ek : ((q : Int) + 1).toNat = q + 1 := by omega
                    have hMay := f25 (m := m) (R := [⟨rc, ws⟩]) hsm ⟨by simp, by simp only [List.mem_singleton]; rintro x rfl; exact ⟨⟨hx1, hx2⟩, hx3⟩⟩
                    simp only [List.all_cons, List.all_nil, Bool.and_true, hok] at hMay
                    cases hmr : mayR m.length ⟨rc, ws⟩ with
                    | false =>
                      rw [hmr] at hMay
                      simp only [push_cast, Int.reduceToNat, Int.reduceEq, Int.reduceNe, Int.reduceLT, Int.reduceLE, Int.reduceAdd, Int.reduceSub, Int.reduceMul, Int.reduceNeg, Nat.reduceEqDiff, Nat.reduceBEq, Nat.reduceBNe, Nat.reduceAdd, Nat.reduceLeDiff, Nat.reduceLT, Nat.reduceMul, ↓reduceIte, reduceCtorEq, eR] at hMay
                      simp (maxSteps := 1000000) (disch := first | assumption | ((try simp only [LEN, LEN2]); omega)) only [push_cast, Int.reduceToNat, Int.reduceEq, Int.reduceNe, Int.reduceLT, Int.reduceLE, Int.reduceAdd, Int.reduceSub, Int.reduceMul, Int.reduceNeg, Nat.reduceEqDiff, Nat.reduceBEq, Nat.reduceBNe, Nat.reduceAdd, Nat.reduceLeDiff, Nat.reduceLT, Nat.reduceMul, ↓reduceIte, reduceCtorEq, g4, pf4, b4, h5, h6, eMaps, ← hm0, hcut, ek, eR, callC_eq hMay, callT_eq hMay]
                      exact ⟨(q + 1, w2, rs), by simp, ⟨by simp only; omega, by simp only; omega, hrok, hw2, hfit⟩, by simp only; omega⟩
                    | true =>
                      rw [hmr] at hMay
                      have hokr0 : okR ⟨rc, ws⟩ = true := by simp only [mayR, Bool.and_eq_true] at hmr; exact hmr.1
                      obtain ⟨hw, hsq⟩ := hadd.okWal
                      have hAdd := f26 (w := w2) (n := rc) (l := ws) ⟨hx1, hx2⟩
                      have hcb := okR_cnt hokr0
                      by_cases hfull : 512 - w2.At < (cnt (spelt ⟨rc, ws⟩) : Nat)
                      · rw [addR_full hw hokr0 (by omega) hfull] at hAdd
                        obtain ⟨v1, v2, v3, v4⟩ := w2
                        simp only [push_cast, Int.reduceToNat, Int.reduceEq, Int.reduceNe, Int.reduceLT, Int.reduceLE, Int.reduceAdd, Int.reduceSub, Int.reduceMul, Int.reduceNeg, Nat.reduceEqDiff, Nat.reduceBEq, Nat.reduceBNe, Nat.reduceAdd, Nat.reduceLeDiff, Nat.reduceLT, Nat.reduceMul, ↓reduceIte, reduceCtorEq, eR, layT] at hMay hAdd
                        have hsd := snocD (putsD a0.At.toNat (catR a0.Run a0.Seq rs))
                        obtain ⟨D2, hD2⟩ : ∃ D, D = putsD a0.At.toNat (catR a0.Run a0.Seq rs) ++ [syncD] := ⟨_, rfl⟩
                        have hD2l : D2.length = (catR a0.Run a0.Seq rs).length + 1 := by rw [hD2, List.length_append, putsD_len]; rfl
                        have hdo2 : smDo D2 := by rw [hD2]; exact smDo_puts' (catR_32 _ _ _) (by omega)
                        rw [← hD2] at hsd
                        have hpa := fun n hn => hL.powerAdd hrok hfit K (n := n) hn
                        rw [← hD2] at hpa
                        obtain ⟨D0, hD0⟩ : ∃ D, D = putsD a0.At.toNat (catR a0.Run a0.Seq rs) := ⟨_, rfl⟩
                        have hD0l : D0.length ≤ 1000 := by rw [hD0, putsD_len]; omega
                        rw [← hD0] at hsd ⊢
                        simp (maxSteps := 1000000) (disch := first | assumption | ((try simp only [LEN, LEN2]); omega)) only [push_cast, Int.reduceToNat, Int.reduceEq, Int.reduceNe, Int.reduceLT, Int.reduceLE, Int.reduceAdd, Int.reduceSub, Int.reduceMul, Int.reduceNeg, Nat.reduceEqDiff, Nat.reduceBEq, Nat.reduceBNe, Nat.reduceAdd, Nat.reduceLeDiff, Nat.reduceLT, Nat.reduceMul, ↓reduceIte, reduceCtorEq, g4, pf4, b4, h5, h6, eMaps, ← hm0, ← hr0, hcut, ek, eR, callC_eq hMay, callT_eq hMay, callC_eq hAdd, callT_eq hAdd, snocA, hsd]
                        refine run_loop' (fun y : Nat × Bool => [(1, T.one (.box (cAsk M R S N1 L W K N))), (3, T.int .i64 i), (4, T.one (.box (oT S' []))), (6, T.one (.own 70 (recs.map oRd))), (7, T.int .i64 m.length), (22, T.one (.own 74 (D2.map oDo))), (23, T.one (frz y.2 recs rs)), (28, T.int .i64 y.1)]) (fun y => y.1 ≤ N.length) (fun y => N.length - y.1) (0, false) (by simp [frz]) (Nat.zero_le _) (fun ⟨p, fz⟩ hp => ?_)
                        simp only at hp
                        by_cases g1 : (p : Int) < N.length ∧ (p : Int) < 5
                        · obtain ⟨g1, g2⟩ := g1
                          have hp' : p < N.length := by omega
                          have hWi := f11 (i := N[p]) (n := (D2.length : Int) + 1) (hN2 _ (List.getElem_mem hp')) (by omega) (by omega)
                          obtain ⟨n, hn⟩ : ∃ n : Nat, (N[p] % 18446744073709551616) % ((D2.length : Int) + 1) = n := Int.eq_ofNat_of_zero_le (Int.emod_nonneg _ (by omega : (D2.length : Int) + 1 ≠ 0))
                          have hnl : (n : Int) < (D2.length : Int) + 1 := by rw [← hn]; exact Int.emod_lt_of_pos _ (by omega : (0 : Int) < (D2.length : Int) + 1)
                          rw [hn] at hWi
                          obtain ⟨S2, W2, hp1, hp2, hp3, k', w', hk', hop, hall⟩ := hpa n (by omega)
                          obtain ⟨hPl, hokp⟩ := fPlayN hlen h32 hdo2 hp1
                          have hSl := (okT_iff.1 hokp).1
                          have hCr := f23 (S := S2) (W := W2) (L := K) (by omega) (by omega) (by omega)
                          rw [if_pos hokp] at hCr
                          obtain ⟨C2, hC2⟩ : ∃ C, C = crashS K S2 W2 := ⟨_, rfl⟩
                          rw [← hC2] at hCr hp2 hp3 hop
                          have hOp := fOpenT hp2 hp3 hok hl1 hop
                          obtain ⟨Gt, hGt⟩ : ∃ l, l = recs ++ rs.take k' := ⟨_, rfl⟩
                          have hGl : Gt.length = recs.length + k' := by rw [hGt, List.length_append, List.length_take]; omega
                          have hGok : ∀ r ∈ Gt, okR r = true := fun r hr => by
                            rw [hGt] at hr
                            rcases List.mem_append.1 hr with hr | hr
                            · exact hL.okr r hr
                            · exact hrok r (List.mem_of_mem_take hr)
                          have hGt2 : (recs ++ rs).take Gt.length = Gt := by
                            rw [hGl, List.take_append, Nat.add_sub_cancel_left, List.take_of_length_le (by omega), hGt]
                          rw [← hGt] at hOp
                          have hQG := f18 (a := Gt) (b := Gt) (by omega) (by omega) (sm_R hGok) (sm_R hGok)
                          rw [decide_eq_true rfl] at hQG
                          have hlm : (recs ++ rs).length = recs.length + rs.length := List.length_append
                          have i1 : ¬ (Gt.length : Int) < recs.length := by omega
                          have i2 : ¬ (recs.length : Int) + rs.length < Gt.length := by omega
                          have i2' : ¬ ((recs.length : Int) + rs.length) < (Gt.length : Int) := i2
                          have i3 : ¬ ((n : Int) = D2.length ∧ ¬ (Gt.length : Int) = (recs.length : Int) + rs.length) := fun hh => by have := hall (by omega); omega
                          simp only [push_cast, Int.reduceToNat, Int.reduceEq, Int.reduceNe, Int.reduceLT, Int.reduceLE, Int.reduceAdd, Int.reduceSub, Int.reduceMul, Int.reduceNeg, Nat.reduceEqDiff, Nat.reduceBEq, Nat.reduceBNe, Nat.reduceAdd, Nat.reduceLeDiff, Nat.reduceLT, Nat.reduceMul, ↓reduceIte, reduceCtorEq, cT, oT, tErr', openR] at hPl hCr hOp
                          by_cases i4 : (n : Int) = D2.length
                          · have i5 : (Gt.length : Int) = (recs.length : Int) + rs.length := by have := hall (by omega); omega
                            cases fz <;> simp (maxSteps := 1000000) (disch := first | assumption | ((try simp only [LEN, LEN2]); omega)) only [push_cast, Int.reduceToNat, Int.reduceEq, Int.reduceNe, Int.reduceLT, Int.reduceLE, Int.reduceAdd, Int.reduceSub, Int.reduceMul, Int.reduceNeg, Nat.reduceEqDiff, Nat.reduceBEq, Nat.reduceBNe, Nat.reduceAdd, Nat.reduceLeDiff, Nat.reduceLT, Nat.reduceMul, ↓reduceIte, reduceCtorEq, g4, pf4, b4, g1, g2, eN, callC_eq hWi, callT_eq hWi, callC_eq hPl, callT_eq hPl, callC_eq hCr, callT_eq hCr, callC_eq hOp, callT_eq hOp, eMaps, ← hm0, callC_eq hE1, callT_eq hE1, frz, hGt2, callC_eq hQG, callT_eq hQG, List.length_append, i1, i2, eq_true i4, eq_true i5] <;> exact ⟨(p + 1, true), by simp [frz], by simp only; omega, by simp only; omega⟩
                          · cases fz <;> simp (maxSteps := 1000000) (disch := first | assumption | ((try simp only [LEN, LEN2]); omega)) only [push_cast, Int.reduceToNat, Int.reduceEq, Int.reduceNe, Int.reduceLT, Int.reduceLE, Int.reduceAdd, Int.reduceSub, Int.reduceMul, Int.reduceNeg, Nat.reduceEqDiff, Nat.reduceBEq, Nat.reduceBNe, Nat.reduceAdd, Nat.reduceLeDiff, Nat.reduceLT, Nat.reduceMul, ↓reduceIte, reduceCtorEq, g4, pf4, b4, g1, g2, eN, callC_eq hWi, callT_eq hWi, callC_eq hPl, callT_eq hPl, callC_eq hCr, callT_eq hCr, callC_eq hOp, callT_eq hOp, eMaps, ← hm0, callC_eq hE1, callT_eq hE1, frz, hGt2, callC_eq hQG, callT_eq hQG, List.length_append, i1, i2, i4] <;> exact ⟨(p + 1, true), by simp [frz], by simp only; omega, by simp only; omega⟩
                        · have g1' : ¬ (p : Int) < N.length ∨ (p : Int) < N.length ∧ ¬ (p : Int) < 5 := by omega
                          rcases g1' with g1 | ⟨g1, g2⟩
                          · simp (maxSteps := 1000000) (disch := first | assumption | ((try simp only [LEN, LEN2]); omega)) only [push_cast, Int.reduceToNat, Int.reduceEq, Int.reduceNe, Int.reduceLT, Int.reduceLE, Int.reduceAdd, Int.reduceSub, Int.reduceMul, Int.reduceNeg, Nat.reduceEqDiff, Nat.reduceBEq, Nat.reduceBNe, Nat.reduceAdd, Nat.reduceLeDiff, Nat.reduceLT, Nat.reduceMul, ↓reduceIte, reduceCtorEq, g4, pf4, b4, g1]
                            exact ⟨i + 1, by simp, by omega, by omega⟩
                          · simp (maxSteps := 1000000) (disch := first | assumption | ((try simp only [LEN, LEN2]); omega)) only [push_cast, Int.reduceToNat, Int.reduceEq, Int.reduceNe, Int.reduceLT, Int.reduceLE, Int.reduceAdd, Int.reduceSub, Int.reduceMul, Int.reduceNeg, Nat.reduceEqDiff, Nat.reduceBEq, Nat.reduceBNe, Nat.reduceAdd, Nat.reduceLeDiff, Nat.reduceLT, Nat.reduceMul, ↓reduceIte, reduceCtorEq, g4, pf4, b4, g1, g2]
                            exact ⟨i + 1, by simp, by omega, by omega⟩
                      · rw [addR_ok hw hokr0 (by omega) hfull] at hAdd
                        have hcs := catR_snoc a0.Run ⟨rc, ws⟩ rs a0.Seq
                        have hcsl : (catR a0.Run a0.Seq (rs ++ [⟨rc, ws⟩])).length = (catR a0.Run a0.Seq rs).length + cnt (spelt ⟨rc, ws⟩) := by rw [hcs, List.length_append, cuts_len]
                        have hpa' := putsD_app a0.At.toNat (catR a0.Run a0.Seq rs) (cuts a0.Run (a0.Seq + rs.length) (spelt ⟨rc, ws⟩))
                        rw [← hcs] at hpa'
                        have hsn := snocM recs rs ⟨rc, ws⟩
                        subst hw2
                        simp only at hAdd hfull hsn
                        rw [show (a0.At + ((catR a0.Run a0.Seq rs).length : Nat)).toNat = a0.At.toNat + (catR a0.Run a0.Seq rs).length by omega] at hAdd
                        have hpl1 := putsD_len (catR a0.Run a0.Seq rs) a0.At.toNat
                        have hpl2 := putsD_len (cuts a0.Run (a0.Seq + rs.length) (spelt ⟨rc, ws⟩)) (a0.At.toNat + (catR a0.Run a0.Seq rs).length)
                        rw [cuts_len] at hpl2
                        obtain ⟨P1, hP1⟩ : ∃ P, P = putsD a0.At.toNat (catR a0.Run a0.Seq rs) := ⟨_, rfl⟩
                        obtain ⟨P2, hP2⟩ : ∃ P, P = putsD (a0.At.toNat + (catR a0.Run a0.Seq rs).length) (cuts a0.Run (a0.Seq + rs.length) (spelt ⟨rc, ws⟩)) := ⟨_, rfl⟩
                        rw [← hP1] at hpa' hpl1 ⊢
                        rw [← hP2] at hpa' hpl2 hAdd
                        simp only [push_cast, Int.reduceToNat, Int.reduceEq, Int.reduceNe, Int.reduceLT, Int.reduceLE, Int.reduceAdd, Int.reduceSub, Int.reduceMul, Int.reduceNeg, Nat.reduceEqDiff, Nat.reduceBEq, Nat.reduceBNe, Nat.reduceAdd, Nat.reduceLeDiff, Nat.reduceLT, Nat.reduceMul, ↓reduceIte, reduceCtorEq, eR, layT] at hMay hAdd
                        simp (maxSteps := 1000000) (disch := first | assumption | ((try simp only [LEN, LEN2]); omega)) only [push_cast, Int.reduceToNat, Int.reduceEq, Int.reduceNe, Int.reduceLT, Int.reduceLE, Int.reduceAdd, Int.reduceSub, Int.reduceMul, Int.reduceNeg, Nat.reduceEqDiff, Nat.reduceBEq, Nat.reduceBNe, Nat.reduceAdd, Nat.reduceLeDiff, Nat.reduceLT, Nat.reduceMul, ↓reduceIte, reduceCtorEq, g4, pf4, b4, h5, h6, eMaps, ← hm0, ← hr0, hcut, ek, eR, callC_eq hMay, callT_eq hMay, callC_eq hAdd, callT_eq hAdd, snocA, hsn]
                        refine ⟨(q + 1, ⟨a0.Run, a0.Slot, a0.At + ((catR a0.Run a0.Seq (rs ++ [(⟨rc, ws⟩ : Record)])).length : Nat), a0.Seq + ((rs ++ [(⟨rc, ws⟩ : Record)]).length : Nat)⟩, rs ++ [⟨rc, ws⟩]), ?_, ⟨by simp only; omega, by simp only [List.length_append, List.length_singleton]; omega, fun r hr => ?_, rfl, by simp only; omega⟩, by simp only; omega⟩
                        · rw [hpa']
                          simp only [hcsl, List.length_append, List.length_singleton]
                          simp [Int.add_assoc]
                        · rcases List.mem_append.1 hr with hr | hr
                          · exact hrok r hr
                          · rw [List.mem_singleton.1 hr]; exact hokr0
                  · skip
                    have hsd := snocD (putsD a0.At.toNat (catR a0.Run a0.Seq rs))
                    obtain ⟨D2, hD2⟩ : ∃ D, D = putsD a0.At.toNat (catR a0.Run a0.Seq rs) ++ [syncD] := ⟨_, rfl⟩
                    have hD2l : D2.length = (catR a0.Run a0.Seq rs).length + 1 := by rw [hD2, List.length_append, putsD_len]; rfl
                    have hdo2 : smDo D2 := by rw [hD2]; exact smDo_puts' (catR_32 _ _ _) (by omega)
                    rw [← hD2] at hsd
                    have hpa := fun n hn => hL.powerAdd hrok hfit K (n := n) hn
                    rw [← hD2] at hpa
                    obtain ⟨D0, hD0⟩ : ∃ D, D = putsD a0.At.toNat (catR a0.Run a0.Seq rs) := ⟨_, rfl⟩
                    have hD0l : D0.length ≤ 1000 := by rw [hD0, putsD_len]; omega
                    rw [← hD0] at hsd ⊢
                    simp (maxSteps := 1000000) (disch := first | assumption | ((try simp only [LEN, LEN2]); omega)) only [push_cast, Int.reduceToNat, Int.reduceEq, Int.reduceNe, Int.reduceLT, Int.reduceLE, Int.reduceAdd, Int.reduceSub, Int.reduceMul, Int.reduceNeg, Nat.reduceEqDiff, Nat.reduceBEq, Nat.reduceBNe, Nat.reduceAdd, Nat.reduceLeDiff, Nat.reduceLT, Nat.reduceMul, ↓reduceIte, reduceCtorEq, g4, pf4, b4, h5, h6, snocA, hsd]
                    refine run_loop' (fun y : Nat × Bool => [(1, T.one (.box (cAsk M R S N1 L W K N))), (3, T.int .i64 i), (4, T.one (.box (oT S' []))), (6, T.one (.own 70 (recs.map oRd))), (7, T.int .i64 m.length), (22, T.one (.own 74 (D2.map oDo))), (23, T.one (frz y.2 recs rs)), (28, T.int .i64 y.1)]) (fun y => y.1 ≤ N.length) (fun y => N.length - y.1) (0, false) (by simp [frz]) (Nat.zero_le _) (fun ⟨p, fz⟩ hp => ?_)
                    simp only at hp
                    by_cases g1 : (p : Int) < N.length ∧ (p : Int) < 5
                    · obtain ⟨g1, g2⟩ := g1
                      have hp' : p < N.length := by omega
                      have hWi := f11 (i := N[p]) (n := (D2.length : Int) + 1) (hN2 _ (List.getElem_mem hp')) (by omega) (by omega)
                      obtain ⟨n, hn⟩ : ∃ n : Nat, (N[p] % 18446744073709551616) % ((D2.length : Int) + 1) = n := Int.eq_ofNat_of_zero_le (Int.emod_nonneg _ (by omega : (D2.length : Int) + 1 ≠ 0))
                      have hnl : (n : Int) < (D2.length : Int) + 1 := by rw [← hn]; exact Int.emod_lt_of_pos _ (by omega : (0 : Int) < (D2.length : Int) + 1)
                      rw [hn] at hWi
                      obtain ⟨S2, W2, hp1, hp2, hp3, k', w', hk', hop, hall⟩ := hpa n (by omega)
                      obtain ⟨hPl, hokp⟩ := fPlayN hlen h32 hdo2 hp1
                      have hSl := (okT_iff.1 hokp).1
                      have hCr := f23 (S := S2) (W := W2) (L := K) (by omega) (by omega) (by omega)
                      rw [if_pos hokp] at hCr
                      obtain ⟨C2, hC2⟩ : ∃ C, C = crashS K S2 W2 := ⟨_, rfl⟩
                      rw [← hC2] at hCr hp2 hp3 hop
                      have hOp := fOpenT hp2 hp3 hok hl1 hop
                      obtain ⟨Gt, hGt⟩ : ∃ l, l = recs ++ rs.take k' := ⟨_, rfl⟩
                      have hGl : Gt.length = recs.length + k' := by rw [hGt, List.length_append, List.length_take]; omega
                      have hGok : ∀ r ∈ Gt, okR r = true := fun r hr => by
                        rw [hGt] at hr
                        rcases List.mem_append.1 hr with hr | hr
                        · exact hL.okr r hr
                        · exact hrok r (List.mem_of_mem_take hr)
                      have hGt2 : (recs ++ rs).take Gt.length = Gt := by
                        rw [hGl, List.take_append, Nat.add_sub_cancel_left, List.take_of_length_le (by omega), hGt]
                      rw [← hGt] at hOp
                      have hQG := f18 (a := Gt) (b := Gt) (by omega) (by omega) (sm_R hGok) (sm_R hGok)
                      rw [decide_eq_true rfl] at hQG
                      have hlm : (recs ++ rs).length = recs.length + rs.length := List.length_append
                      have i1 : ¬ (Gt.length : Int) < recs.length := by omega
                      have i2 : ¬ (recs.length : Int) + rs.length < Gt.length := by omega
                      have i2' : ¬ ((recs.length : Int) + rs.length) < (Gt.length : Int) := i2
                      have i3 : ¬ ((n : Int) = D2.length ∧ ¬ (Gt.length : Int) = (recs.length : Int) + rs.length) := fun hh => by have := hall (by omega); omega
                      simp only [push_cast, Int.reduceToNat, Int.reduceEq, Int.reduceNe, Int.reduceLT, Int.reduceLE, Int.reduceAdd, Int.reduceSub, Int.reduceMul, Int.reduceNeg, Nat.reduceEqDiff, Nat.reduceBEq, Nat.reduceBNe, Nat.reduceAdd, Nat.reduceLeDiff, Nat.reduceLT, Nat.reduceMul, ↓reduceIte, reduceCtorEq, cT, oT, tErr', openR] at hPl hCr hOp
                      by_cases i4 : (n : Int) = D2.length
                      · have i5 : (Gt.length : Int) = (recs.length : Int) + rs.length := by have := hall (by omega); omega
                        cases fz <;> simp (maxSteps := 1000000) (disch := first | assumption | ((try simp only [LEN, LEN2]); omega)) only [push_cast, Int.reduceToNat, Int.reduceEq, Int.reduceNe, Int.reduceLT, Int.reduceLE, Int.reduceAdd, Int.reduceSub, Int.reduceMul, Int.reduceNeg, Nat.reduceEqDiff, Nat.reduceBEq, Nat.reduceBNe, Nat.reduceAdd, Nat.reduceLeDiff, Nat.reduceLT, Nat.reduceMul, ↓reduceIte, reduceCtorEq, g4, pf4, b4, g1, g2, eN, callC_eq hWi, callT_eq hWi, callC_eq hPl, callT_eq hPl, callC_eq hCr, callT_eq hCr, callC_eq hOp, callT_eq hOp, eMaps, ← hm0, callC_eq hE1, callT_eq hE1, frz, hGt2, callC_eq hQG, callT_eq hQG, List.length_append, i1, i2, eq_true i4, eq_true i5] <;> exact ⟨(p + 1, true), by simp [frz], by simp only; omega, by simp only; omega⟩
                      · cases fz <;> simp (maxSteps := 1000000) (disch := first | assumption | ((try simp only [LEN, LEN2]); omega)) only [push_cast, Int.reduceToNat, Int.reduceEq, Int.reduceNe, Int.reduceLT, Int.reduceLE, Int.reduceAdd, Int.reduceSub, Int.reduceMul, Int.reduceNeg, Nat.reduceEqDiff, Nat.reduceBEq, Nat.reduceBNe, Nat.reduceAdd, Nat.reduceLeDiff, Nat.reduceLT, Nat.reduceMul, ↓reduceIte, reduceCtorEq, g4, pf4, b4, g1, g2, eN, callC_eq hWi, callT_eq hWi, callC_eq hPl, callT_eq hPl, callC_eq hCr, callT_eq hCr, callC_eq hOp, callT_eq hOp, eMaps, ← hm0, callC_eq hE1, callT_eq hE1, frz, hGt2, callC_eq hQG, callT_eq hQG, List.length_append, i1, i2, i4] <;> exact ⟨(p + 1, true), by simp [frz], by simp only; omega, by simp only; omega⟩
                    · have g1' : ¬ (p : Int) < N.length ∨ (p : Int) < N.length ∧ ¬ (p : Int) < 5 := by omega
                      rcases g1' with g1 | ⟨g1, g2⟩
                      · simp (maxSteps := 1000000) (disch := first | assumption | ((try simp only [LEN, LEN2]); omega)) only [push_cast, Int.reduceToNat, Int.reduceEq, Int.reduceNe, Int.reduceLT, Int.reduceLE, Int.reduceAdd, Int.reduceSub, Int.reduceMul, Int.reduceNeg, Nat.reduceEqDiff, Nat.reduceBEq, Nat.reduceBNe, Nat.reduceAdd, Nat.reduceLeDiff, Nat.reduceLT, Nat.reduceMul, ↓reduceIte, reduceCtorEq, g4, pf4, b4, g1]
                        exact ⟨i + 1, by simp, by omega, by omega⟩
                      · simp (maxSteps := 1000000) (disch := first | assumption | ((try simp only [LEN, LEN2]); omega)) only [push_cast, Int.reduceToNat, Int.reduceEq, Int.reduceNe, Int.reduceLT, Int.reduceLE, Int.reduceAdd, Int.reduceSub, Int.reduceMul, Int.reduceNeg, Nat.reduceEqDiff, Nat.reduceBEq, Nat.reduceBNe, Nat.reduceAdd, Nat.reduceLeDiff, Nat.reduceLT, Nat.reduceMul, ↓reduceIte, reduceCtorEq, g4, pf4, b4, g1, g2]
                        exact ⟨i + 1, by simp, by omega, by omega⟩
                · skip
                  have hsd := snocD (putsD a0.At.toNat (catR a0.Run a0.Seq rs))
                  obtain ⟨D2, hD2⟩ : ∃ D, D = putsD a0.At.toNat (catR a0.Run a0.Seq rs) ++ [syncD] := ⟨_, rfl⟩
                  have hD2l : D2.length = (catR a0.Run a0.Seq rs).length + 1 := by rw [hD2, List.length_append, putsD_len]; rfl
                  have hdo2 : smDo D2 := by rw [hD2]; exact smDo_puts' (catR_32 _ _ _) (by omega)
                  rw [← hD2] at hsd
                  have hpa := fun n hn => hL.powerAdd hrok hfit K (n := n) hn
                  rw [← hD2] at hpa
                  obtain ⟨D0, hD0⟩ : ∃ D, D = putsD a0.At.toNat (catR a0.Run a0.Seq rs) := ⟨_, rfl⟩
                  have hD0l : D0.length ≤ 1000 := by rw [hD0, putsD_len]; omega
                  rw [← hD0] at hsd ⊢
                  simp (maxSteps := 1000000) (disch := first | assumption | ((try simp only [LEN, LEN2]); omega)) only [push_cast, Int.reduceToNat, Int.reduceEq, Int.reduceNe, Int.reduceLT, Int.reduceLE, Int.reduceAdd, Int.reduceSub, Int.reduceMul, Int.reduceNeg, Nat.reduceEqDiff, Nat.reduceBEq, Nat.reduceBNe, Nat.reduceAdd, Nat.reduceLeDiff, Nat.reduceLT, Nat.reduceMul, ↓reduceIte, reduceCtorEq, g4, pf4, b4, h5, snocA, hsd]
                  refine run_loop' (fun y : Nat × Bool => [(1, T.one (.box (cAsk M R S N1 L W K N))), (3, T.int .i64 i), (4, T.one (.box (oT S' []))), (6, T.one (.own 70 (recs.map oRd))), (7, T.int .i64 m.length), (22, T.one (.own 74 (D2.map oDo))), (23, T.one (frz y.2 recs rs)), (28, T.int .i64 y.1)]) (fun y => y.1 ≤ N.length) (fun y => N.length - y.1) (0, false) (by simp [frz]) (Nat.zero_le _) (fun ⟨p, fz⟩ hp => ?_)
                  simp only at hp
                  by_cases g1 : (p : Int) < N.length ∧ (p : Int) < 5
                  · obtain ⟨g1, g2⟩ := g1
                    have hp' : p < N.length := by omega
                    have hWi := f11 (i := N[p]) (n := (D2.length : Int) + 1) (hN2 _ (List.getElem_mem hp')) (by omega) (by omega)
                    obtain ⟨n, hn⟩ : ∃ n : Nat, (N[p] % 18446744073709551616) % ((D2.length : Int) + 1) = n := Int.eq_ofNat_of_zero_le (Int.emod_nonneg _ (by omega : (D2.length : Int) + 1 ≠ 0))
                    have hnl : (n : Int) < (D2.length : Int) + 1 := by rw [← hn]; exact Int.emod_lt_of_pos _ (by omega : (0 : Int) < (D2.length : Int) + 1)
                    rw [hn] at hWi
                    obtain ⟨S2, W2, hp1, hp2, hp3, k', w', hk', hop, hall⟩ := hpa n (by omega)
                    obtain ⟨hPl, hokp⟩ := fPlayN hlen h32 hdo2 hp1
                    have hSl := (okT_iff.1 hokp).1
                    have hCr := f23 (S := S2) (W := W2) (L := K) (by omega) (by omega) (by omega)
                    rw [if_pos hokp] at hCr
                    obtain ⟨C2, hC2⟩ : ∃ C, C = crashS K S2 W2 := ⟨_, rfl⟩
                    rw [← hC2] at hCr hp2 hp3 hop
                    have hOp := fOpenT hp2 hp3 hok hl1 hop
                    obtain ⟨Gt, hGt⟩ : ∃ l, l = recs ++ rs.take k' := ⟨_, rfl⟩
                    have hGl : Gt.length = recs.length + k' := by rw [hGt, List.length_append, List.length_take]; omega
                    have hGok : ∀ r ∈ Gt, okR r = true := fun r hr => by
                      rw [hGt] at hr
                      rcases List.mem_append.1 hr with hr | hr
                      · exact hL.okr r hr
                      · exact hrok r (List.mem_of_mem_take hr)
                    have hGt2 : (recs ++ rs).take Gt.length = Gt := by
                      rw [hGl, List.take_append, Nat.add_sub_cancel_left, List.take_of_length_le (by omega), hGt]
                    rw [← hGt] at hOp
                    have hQG := f18 (a := Gt) (b := Gt) (by omega) (by omega) (sm_R hGok) (sm_R hGok)
                    rw [decide_eq_true rfl] at hQG
                    have hlm : (recs ++ rs).length = recs.length + rs.length := List.length_append
                    have i1 : ¬ (Gt.length : Int) < recs.length := by omega
                    have i2 : ¬ (recs.length : Int) + rs.length < Gt.length := by omega
                    have i2' : ¬ ((recs.length : Int) + rs.length) < (Gt.length : Int) := i2
                    have i3 : ¬ ((n : Int) = D2.length ∧ ¬ (Gt.length : Int) = (recs.length : Int) + rs.length) := fun hh => by have := hall (by omega); omega
                    simp only [push_cast, Int.reduceToNat, Int.reduceEq, Int.reduceNe, Int.reduceLT, Int.reduceLE, Int.reduceAdd, Int.reduceSub, Int.reduceMul, Int.reduceNeg, Nat.reduceEqDiff, Nat.reduceBEq, Nat.reduceBNe, Nat.reduceAdd, Nat.reduceLeDiff, Nat.reduceLT, Nat.reduceMul, ↓reduceIte, reduceCtorEq, cT, oT, tErr', openR] at hPl hCr hOp
                    by_cases i4 : (n : Int) = D2.length
                    · have i5 : (Gt.length : Int) = (recs.length : Int) + rs.length := by have := hall (by omega); omega
                      cases fz <;> simp (maxSteps := 1000000) (disch := first | assumption | ((try simp only [LEN, LEN2]); omega)) only [push_cast, Int.reduceToNat, Int.reduceEq, Int.reduceNe, Int.reduceLT, Int.reduceLE, Int.reduceAdd, Int.reduceSub, Int.reduceMul, Int.reduceNeg, Nat.reduceEqDiff, Nat.reduceBEq, Nat.reduceBNe, Nat.reduceAdd, Nat.reduceLeDiff, Nat.reduceLT, Nat.reduceMul, ↓reduceIte, reduceCtorEq, g4, pf4, b4, g1, g2, eN, callC_eq hWi, callT_eq hWi, callC_eq hPl, callT_eq hPl, callC_eq hCr, callT_eq hCr, callC_eq hOp, callT_eq hOp, eMaps, ← hm0, callC_eq hE1, callT_eq hE1, frz, hGt2, callC_eq hQG, callT_eq hQG, List.length_append, i1, i2, eq_true i4, eq_true i5] <;> exact ⟨(p + 1, true), by simp [frz], by simp only; omega, by simp only; omega⟩
                    · cases fz <;> simp (maxSteps := 1000000) (disch := first | assumption | ((try simp only [LEN, LEN2]); omega)) only [push_cast, Int.reduceToNat, Int.reduceEq, Int.reduceNe, Int.reduceLT, Int.reduceLE, Int.reduceAdd, Int.reduceSub, Int.reduceMul, Int.reduceNeg, Nat.reduceEqDiff, Nat.reduceBEq, Nat.reduceBNe, Nat.reduceAdd, Nat.reduceLeDiff, Nat.reduceLT, Nat.reduceMul, ↓reduceIte, reduceCtorEq, g4, pf4, b4, g1, g2, eN, callC_eq hWi, callT_eq hWi, callC_eq hPl, callT_eq hPl, callC_eq hCr, callT_eq hCr, callC_eq hOp, callT_eq hOp, eMaps, ← hm0, callC_eq hE1, callT_eq hE1, frz, hGt2, callC_eq hQG, callT_eq hQG, List.length_append, i1, i2, i4] <;> exact ⟨(p + 1, true), by simp [frz], by simp only; omega, by simp only; omega⟩
                  · have g1' : ¬ (p : Int) < N.length ∨ (p : Int) < N.length ∧ ¬ (p : Int) < 5 := by omega
                    rcases g1' with g1 | ⟨g1, g2⟩
                    · simp (maxSteps := 1000000) (disch := first | assumption | ((try simp only [LEN, LEN2]); omega)) only [push_cast, Int.reduceToNat, Int.reduceEq, Int.reduceNe, Int.reduceLT, Int.reduceLE, Int.reduceAdd, Int.reduceSub, Int.reduceMul, Int.reduceNeg, Nat.reduceEqDiff, Nat.reduceBEq, Nat.reduceBNe, Nat.reduceAdd, Nat.reduceLeDiff, Nat.reduceLT, Nat.reduceMul, ↓reduceIte, reduceCtorEq, g4, pf4, b4, g1]
                      exact ⟨i + 1, by simp, by omega, by omega⟩
                    · simp (maxSteps := 1000000) (disch := first | assumption | ((try simp only [LEN, LEN2]); omega)) only [push_cast, Int.reduceToNat, Int.reduceEq, Int.reduceNe, Int.reduceLT, Int.reduceLE, Int.reduceAdd, Int.reduceSub, Int.reduceMul, Int.reduceNeg, Nat.reduceEqDiff, Nat.reduceBEq, Nat.reduceBNe, Nat.reduceAdd, Nat.reduceLeDiff, Nat.reduceLT, Nat.reduceMul, ↓reduceIte, reduceCtorEq, g4, pf4, b4, g1, g2]
                      exact ⟨i + 1, by simp, by omega, by omega⟩
          · simp (maxSteps := 1000000) (disch := first | assumption | ((try simp only [LEN, LEN2]); omega)) only [push_cast, Int.reduceToNat, Int.reduceEq, Int.reduceNe, Int.reduceLT, Int.reduceLE, Int.reduceAdd, Int.reduceSub, Int.reduceMul, Int.reduceNeg, Nat.reduceEqDiff, Nat.reduceBEq, Nat.reduceBNe, Nat.reduceAdd, Nat.reduceLeDiff, Nat.reduceLT, Nat.reduceMul, ↓reduceIte, reduceCtorEq, g4, pf4, b4, h1, h2, e1, eMaps, ← hm0, ← hm1, hab, hab', hll]
            exact ⟨i + 1, by simp, by omega, by omega⟩
        · rw [Bool.not_eq_true] at hab'
          simp (maxSteps := 1000000) (disch := first | assumption | ((try simp only [LEN, LEN2]); omega)) only [push_cast, Int.reduceToNat, Int.reduceEq, Int.reduceNe, Int.reduceLT, Int.reduceLE, Int.reduceAdd, Int.reduceSub, Int.reduceMul, Int.reduceNeg, Nat.reduceEqDiff, Nat.reduceBEq, Nat.reduceBNe, Nat.reduceAdd, Nat.reduceLeDiff, Nat.reduceLT, Nat.reduceMul, ↓reduceIte, reduceCtorEq, g4, pf4, b4, h1, h2, e1, eMaps, ← hm0, ← hm1, hab, hab']
          exact ⟨i + 1, by simp, by omega, by omega⟩
      · rw [Bool.not_eq_true] at hab
        simp (maxSteps := 1000000) (disch := first | assumption | ((try simp only [LEN, LEN2]); omega)) only [push_cast, Int.reduceToNat, Int.reduceEq, Int.reduceNe, Int.reduceLT, Int.reduceLE, Int.reduceAdd, Int.reduceSub, Int.reduceMul, Int.reduceNeg, Nat.reduceEqDiff, Nat.reduceBEq, Nat.reduceBNe, Nat.reduceAdd, Nat.reduceLeDiff, Nat.reduceLT, Nat.reduceMul, ↓reduceIte, reduceCtorEq, g4, pf4, b4, h1, h2, e1, eMaps, ← hm0, ← hm1, hab]
        exact ⟨i + 1, by simp, by omega, by omega⟩
    · simp (maxSteps := 1000000) (disch := first | assumption | ((try simp only [LEN, LEN2]); omega)) only [push_cast, Int.reduceToNat, Int.reduceEq, Int.reduceNe, Int.reduceLT, Int.reduceLE, Int.reduceAdd, Int.reduceSub, Int.reduceMul, Int.reduceNeg, Nat.reduceEqDiff, Nat.reduceBEq, Nat.reduceBNe, Nat.reduceAdd, Nat.reduceLeDiff, Nat.reduceLT, Nat.reduceMul, ↓reduceIte, reduceCtorEq, g4, pf4, b4, h1, h2]
      done
  · simp (maxSteps := 1000000) (disch := first | assumption | ((try simp only [LEN, LEN2]); omega)) only [push_cast, Int.reduceToNat, Int.reduceEq, Int.reduceNe, Int.reduceLT, Int.reduceLE, Int.reduceAdd, Int.reduceSub, Int.reduceMul, Int.reduceNeg, Nat.reduceEqDiff, Nat.reduceBEq, Nat.reduceBNe, Nat.reduceAdd, Nat.reduceLeDiff, Nat.reduceLT, Nat.reduceMul, ↓reduceIte, reduceCtorEq, g4, pf4, b4, h1]
    done
end Go.Mir.Tryz
