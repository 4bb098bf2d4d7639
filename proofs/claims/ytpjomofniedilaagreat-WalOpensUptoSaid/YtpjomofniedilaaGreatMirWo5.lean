/- What any tape tells, laid and added to, with sectors changed, or any tape at all, is the page's, or the error is. Part 5 of its proof. -/
import Derived.Test.YtpjomofniedilaaGreatMirWo4
import Derived.WalkKit
import Derived.ProofKit
import Derived.OpenShut
import Derived.JoinedCond
import Derived.Below
set_option linter.unusedVariables false
set_option linter.unusedSimpArgs false
set_option maxRecDepth 100000
namespace Go.Mir.Tryz
open Go.Proofs Go.Mir.Q
def turnP (s : List UInt8) : Wal × Bool :=
  if runOf s < 1 ∨ 1073741824 ≤ runOf s then (⟨runOf s, 0, 0, 0⟩, false) else
  (⟨runOf s, (whole1 0 (runOf s) [s]).1.Commit - 1, 0, 0⟩, decide ((whole1 0 (runOf s) [s]).2 = 1 ∧ (whole1 0 (runOf s) [s]).1.Writes = [] ∧ ((whole1 0 (runOf s) [s]).1.Commit - 1 = 0 ∨ (whole1 0 (runOf s) [s]).1.Commit - 1 = 1)))
theorem turnP_eq (s : List UInt8) : turnT s = if (turnP s).2 = true then some ((turnP s).1.Run, (turnP s).1.Slot) else none := by
  unfold turnP
  by_cases h : runOf s < 1 ∨ 1073741824 ≤ runOf s
  · rw [if_pos h, turnT, if_neg (by omega)]; simp
  · rw [if_neg h, turn_eq (by omega) (by omega)]
    simp only [decide_eq_true_eq]
theorem runOf_pre {s : List UInt8} {i : Nat} (h : 4 + i < s.length) (hi : i < 4) : num (((s.drop 4).take (i + 1))) = num ((s.drop 4).take i) * 256 + (s[4 + i]).toNat := by
  rw [List.take_succ_eq_append_getElem (by rw [List.length_drop]; omega), num_snoc, List.getElem_drop]
theorem whole_bd {run n : Int} {L : List (List UInt8)} : ∀ {l : List (List UInt8)} {i : Nat} {b : List UInt8}, whole run n L l i b = (⟨0, []⟩, 0) ∨ okR (whole run n L l i b).1 = true
  | [], i, b => .inl rfl
  | s :: ss, i, b => by
    have ih := whole_bd (run := run) (n := n) (L := L) (l := ss) (i := i + 1) (b := b ++ (s.drop 12).take (s[11]?.getD 0).toNat)
    unfold whole
    split
    · exact .inl rfl
    · split
      · exact .inl rfl
      · split
        · exact ih
        · cases ht : take (b ++ (s.drop 12).take (s[11]?.getD 0).toNat) with
          | none => exact .inl rfl
          | some r =>
            simp only
            split
            · exact .inr (take_ok ht)
            · exact .inl rfl
theorem okR_commit {r : Record} (h : okR r = true) : 1 ≤ r.Commit ∧ r.Commit ≤ 1073741824 := by
  simp only [okR, Bool.and_eq_true, decide_eq_true_eq] at h
  omega
set_option maxHeartbeats 2000000 in
theorem f40 {s : List UInt8} (hs : s.length = 32) : Fun G 40 [.str (bs s)] (.tup [(true, cWal (turnP s).1), (false, [.d (.sc (.bool (turnP s).2))])], []) := by
  refine Fun.of_run (g := g40) (pf := pf40) rfl rfl rfl rfl ?_
  simp (maxSteps := 1000000) (disch := first | assumption | ((try simp only [LEN, LEN2]); omega)) only [push_cast, Int.reduceToNat, Int.reduceEq, Int.reduceNe, Int.reduceLT, Int.reduceLE, Int.reduceAdd, Int.reduceSub, Int.reduceMul, Int.reduceNeg, Nat.reduceEqDiff, Nat.reduceBEq, Nat.reduceBNe, Nat.reduceAdd, Nat.reduceLeDiff, Nat.reduceLT, Nat.reduceMul, ↓reduceIte, reduceCtorEq, g40, pf40, b40]
  refine run_loop' (fun i : Nat => [(0, T.str (bs s)), (2, T.one (.box [.d (.sc (.int .i64 (num ((s.drop 4).take i)))), .d (.sc (.int .i64 0)), .d (.sc (.int .i64 0)), .d (.sc (.int .i64 0))])), (7, T.int .i64 i)]) (fun i => i ≤ 4) (fun i => 4 - i) 0 rfl (by omega) (fun i hi => ?_)
  have hb := num_bd6 ((s.drop 4).take i) (by rw [List.length_take]; omega)
  by_cases h : (i : Int) < 4
  · have hi' : i < 4 := by omega
    have h2 := runOf_pre (s := s) (i := i) (by omega) hi'
    obtain ⟨n, hn⟩ : ∃ n, n = num ((s.drop 4).take i) := ⟨_, rfl⟩
    rw [← hn] at hb h2
    have e := or_byte (a := n) (b := (s[4 + i]'(by omega)).toNat) hb.1 (by omega) (by omega) (by have := (s[4 + i]'(by omega)).toNat_lt; omega)
    have e4 : (4 + (i : Int)).toNat = 4 + i := by omega
    simp (maxSteps := 1000000) (disch := first | assumption | ((try simp only [LEN, LEN2]); omega)) only [push_cast, Int.reduceToNat, Int.reduceEq, Int.reduceNe, Int.reduceLT, Int.reduceLE, Int.reduceAdd, Int.reduceSub, Int.reduceMul, Int.reduceNeg, Nat.reduceEqDiff, Nat.reduceBEq, Nat.reduceBNe, Nat.reduceAdd, Nat.reduceLeDiff, Nat.reduceLT, Nat.reduceMul, ↓reduceIte, reduceCtorEq, g40, pf40, b40, h, ← hn, e, e4]
    refine ⟨i + 1, ?_, by omega, by omega⟩
    rw [h2]
    simp
  · obtain rfl : i = 4 := by omega
    have e : num ((s.drop 4).take 4) = runOf s := rfl
    rw [e] at hb
    unfold turnP
    obtain ⟨n, hn⟩ : ∃ n, n = runOf s := ⟨_, rfl⟩
    rw [e]
    rw [← hn] at hb ⊢
    by_cases h1 : n < 1
    · simp (maxSteps := 1000000) (disch := first | assumption | ((try simp only [LEN, LEN2]); omega)) only [push_cast, Int.reduceToNat, Int.reduceEq, Int.reduceNe, Int.reduceLT, Int.reduceLE, Int.reduceAdd, Int.reduceSub, Int.reduceMul, Int.reduceNeg, Nat.reduceEqDiff, Nat.reduceBEq, Nat.reduceBNe, Nat.reduceAdd, Nat.reduceLeDiff, Nat.reduceLT, Nat.reduceMul, ↓reduceIte, reduceCtorEq, g40, pf40, b40, h1]
    · by_cases h2 : 1073741824 ≤ n
      · simp (maxSteps := 1000000) (disch := first | assumption | ((try simp only [LEN, LEN2]); omega)) only [push_cast, Int.reduceToNat, Int.reduceEq, Int.reduceNe, Int.reduceLT, Int.reduceLE, Int.reduceAdd, Int.reduceSub, Int.reduceMul, Int.reduceNeg, Nat.reduceEqDiff, Nat.reduceBEq, Nat.reduceBNe, Nat.reduceAdd, Nat.reduceLeDiff, Nat.reduceLT, Nat.reduceMul, ↓reduceIte, reduceCtorEq, g40, pf40, b40, h1, h2]
      · rw [if_neg (by omega)]
        have hw := f42 (run := 0) (nn := n) (L := [s]) (by simp)
        have hle := whole1_le 0 n [s]
        obtain ⟨⟨⟨c, ws⟩, k⟩, hW⟩ : ∃ x, whole1 0 n [s] = x := ⟨_, rfl⟩
        rw [hW] at hw hle ⊢
        have hcb : 0 ≤ c ∧ c ≤ 1073741824 := by
          rcases whole_bd (run := 0) (n := n) (L := [s]) (l := [s]) (i := 0) (b := []) with g | g
          · rw [show whole 0 n [s] [s] 0 [] = whole1 0 n [s] from rfl, hW] at g
            simp only [Prod.mk.injEq, Q.Record.mk.injEq] at g
            omega
          · rw [show whole 0 n [s] [s] 0 [] = whole1 0 n [s] from rfl, hW] at g
            have := okR_commit g
            simp only at this; omega
        simp only [push_cast, Int.reduceToNat, Int.reduceEq, Int.reduceNe, Int.reduceLT, Int.reduceLE, Int.reduceAdd, Int.reduceSub, Int.reduceMul, Int.reduceNeg, Nat.reduceEqDiff, Nat.reduceBEq, Nat.reduceBNe, Nat.reduceAdd, Nat.reduceLeDiff, Nat.reduceLT, Nat.reduceMul, ↓reduceIte, reduceCtorEq, eS] at hw hle
        by_cases hk : k = 1
        · subst hk
          by_cases hws : ws = []
          · subst hws
            by_cases h3 : c - 1 = 0
            · simp (maxSteps := 1000000) (disch := first | assumption | ((try simp only [LEN, LEN2]); omega)) only [push_cast, Int.reduceToNat, Int.reduceEq, Int.reduceNe, Int.reduceLT, Int.reduceLE, Int.reduceAdd, Int.reduceSub, Int.reduceMul, Int.reduceNeg, Nat.reduceEqDiff, Nat.reduceBEq, Nat.reduceBNe, Nat.reduceAdd, Nat.reduceLeDiff, Nat.reduceLT, Nat.reduceMul, ↓reduceIte, reduceCtorEq, g40, pf40, b40, h1, h2, callC_eq hw, h3, oW]
              done
            · by_cases h4 : c - 1 = 1
              · simp (maxSteps := 1000000) (disch := first | assumption | ((try simp only [LEN, LEN2]); omega)) only [push_cast, Int.reduceToNat, Int.reduceEq, Int.reduceNe, Int.reduceLT, Int.reduceLE, Int.reduceAdd, Int.reduceSub, Int.reduceMul, Int.reduceNeg, Nat.reduceEqDiff, Nat.reduceBEq, Nat.reduceBNe, Nat.reduceAdd, Nat.reduceLeDiff, Nat.reduceLT, Nat.reduceMul, ↓reduceIte, reduceCtorEq, g40, pf40, b40, h1, h2, callC_eq hw, h3, h4, oW]
                done
              · simp (maxSteps := 1000000) (disch := first | assumption | ((try simp only [LEN, LEN2]); omega)) only [push_cast, Int.reduceToNat, Int.reduceEq, Int.reduceNe, Int.reduceLT, Int.reduceLE, Int.reduceAdd, Int.reduceSub, Int.reduceMul, Int.reduceNeg, Nat.reduceEqDiff, Nat.reduceBEq, Nat.reduceBNe, Nat.reduceAdd, Nat.reduceLeDiff, Nat.reduceLT, Nat.reduceMul, ↓reduceIte, reduceCtorEq, g40, pf40, b40, h1, h2, callC_eq hw, h3, h4, oW]
                done
          · have h5 : ¬ (ws.length : Int) = 0 := fun hh => hws (List.length_eq_zero_iff.1 (by omega))
            simp (maxSteps := 1000000) (disch := first | assumption | ((try simp only [LEN, LEN2]); omega)) only [push_cast, Int.reduceToNat, Int.reduceEq, Int.reduceNe, Int.reduceLT, Int.reduceLE, Int.reduceAdd, Int.reduceSub, Int.reduceMul, Int.reduceNeg, Nat.reduceEqDiff, Nat.reduceBEq, Nat.reduceBNe, Nat.reduceAdd, Nat.reduceLeDiff, Nat.reduceLT, Nat.reduceMul, ↓reduceIte, reduceCtorEq, g40, pf40, b40, h1, h2, callC_eq hw, hws, h5]
            done
        · have h6 : ¬ (k : Int) = 1 := by omega
          simp (maxSteps := 1000000) (disch := first | assumption | ((try simp only [LEN, LEN2]); omega)) only [push_cast, Int.reduceToNat, Int.reduceEq, Int.reduceNe, Int.reduceLT, Int.reduceLE, Int.reduceAdd, Int.reduceSub, Int.reduceMul, Int.reduceNeg, Nat.reduceEqDiff, Nat.reduceBEq, Nat.reduceBNe, Nat.reduceAdd, Nat.reduceLeDiff, Nat.reduceLT, Nat.reduceMul, ↓reduceIte, reduceCtorEq, g40, pf40, b40, h1, h2, callC_eq hw, hk, h6]
          done
theorem f40c {s : List UInt8} (hs : s.length = 32) {g : VG} {F : Fn} {lk : Bool} {e : Env} {dst : Option Nat} {ops : List Ins} {keep : Option (List Nat)} {K : List Fr} : CallC G g F 40 [.str (bs s)] lk e dst ops keep K = ThenL G g F (if lk && !(T.noSl (.tup [(true, cWal (turnP s).1), (false, [.d (.sc (.bool (turnP s).2))])])) then none else e.put g.un dst (.tup [(true, cWal (turnP s).1), (false, [.d (.sc (.bool (turnP s).2))])])) ops keep K := callC_eq (f40 hs)
attribute [push_cast] f40c
end Go.Mir.Tryz

set_option linter.unusedVariables false
set_option linter.unusedSimpArgs false
set_option maxRecDepth 100000
namespace Go.Mir.Tryz
open Go.Proofs Go.Mir.Q
def rowsP (tables : Nat) (r : Record) : Map × Bool :=
  if goodP tables 0 r.Writes = true then (groupT tables r.Writes, decide (r.Commit = 1) && okM (groupT tables r.Writes)) else ([], false)
theorem groupT_len (tables : Nat) (ws : List Write) : (groupT tables ws).length = tables := by simp [groupT]
theorem groupT_sm {tables : Nat} {ws : List Write} (ht : tables ≤ 1048576) (h : smW ws) : smM (groupT tables ws) := by
  refine ⟨by rw [groupT_len]; exact ht, fun l hl => ?_⟩
  simp only [groupT, List.mem_map, List.mem_range] at hl
  obtain ⟨t, _, rfl⟩ := hl
  refine ⟨?_, fun x hx => ?_⟩
  · rw [List.length_map]; exact Nat.le_trans (List.length_filter_le _ _) h.1
  · obtain ⟨w, hw, rfl⟩ := List.mem_map.1 hx
    exact h.2 w (List.mem_filter.1 hw).1
theorem goodP_pre {tables : Nat} : ∀ {ws k : List Write} {last : Int}, goodP tables last (ws ++ k) = true → goodP tables last ws = true
  | [], _, _, _ => rfl
  | w :: ws, k, last, h => by
    simp only [List.cons_append, goodP, Bool.and_eq_true] at h ⊢
    exact ⟨h.1, goodP_pre h.2⟩
theorem goodP_bad {tables : Nat} {ws : List Write} {last : Int} {k : Nat} (h : goodP tables last (ws.take k) = false) : goodP tables last ws = false := by
  rw [← Bool.not_eq_true]
  intro hh
  rw [← List.take_append_drop k ws] at hh
  rw [goodP_pre hh] at h
  cases h
theorem groupT_nil (tables : Nat) : groupT tables [] = List.replicate tables [] := by
  simp only [groupT, List.filter_nil, List.map_nil, List.map_const', List.length_range]
def lastT (ws : List Write) : Int := (ws.getLast?.map (·.Table)).getD 0
set_option maxHeartbeats 2000000 in
theorem f43 {n : Int} {l : List Write} {tables : Nat} (hs : smW l) (ht : tables ≤ 1048576) (h0 : ∀ w ∈ l, 0 ≤ w.Table) : Fun G 43 [.vs true [.d (.sc (.int .i64 n)), .d (.sl (l.map eW))], .int .i64 tables] (.tup [(false, [.own 79 ((rowsP tables ⟨n, l⟩).1.map oMp)]), (false, [.d (.sc (.bool (rowsP tables ⟨n, l⟩).2))])], []) := by
  refine Fun.of_run (g := g43) (pf := pf43) rfl rfl rfl rfl ?_
  have hs1 := hs.1
  simp (maxSteps := 1000000) (disch := first | assumption | ((try simp only [LEN, LEN2]); omega)) only [push_cast, Int.reduceToNat, Int.reduceEq, Int.reduceNe, Int.reduceLT, Int.reduceLE, Int.reduceAdd, Int.reduceSub, Int.reduceMul, Int.reduceNeg, Nat.reduceEqDiff, Nat.reduceBEq, Nat.reduceBNe, Nat.reduceAdd, Nat.reduceLeDiff, Nat.reduceLT, Nat.reduceMul, ↓reduceIte, reduceCtorEq, g43, pf43, b43]
  refine run_loop' (fun i : Nat => [(1, T.int .i64 tables), (2, T.one (.box [.d (.sc (.int .i64 n)), .d (.sl (l.map eW))])), (6, T.one (.own 79 ((groupT tables (l.take i)).map oMp))), (7, T.int .i64 (lastT (l.take i))), (13, T.one (.d (.sl (l.map eW)))), (14, T.int .i64 l.length), (15, T.int .i64 i)]) (fun i => i ≤ l.length ∧ goodP tables 0 (l.take i) = true) (fun i => l.length - i) 0 (by rw [List.take_zero, groupT_nil, List.map_replicate]; rfl) ⟨Nat.zero_le _, rfl⟩ (fun i hi => ?_)
  obtain ⟨hi, hg⟩ := hi
  by_cases h : (i : Int) < l.length
  · have hi' : i < l.length := by omega
    have ht0 := h0 l[i] (List.getElem_mem hi')
    obtain ⟨w, hw⟩ : ∃ w, w = l[i] := ⟨_, rfl⟩
    have hgs : goodP tables 0 (l.take (i + 1)) = decide (w.Table < tables ∧ lastT (l.take i) ≤ w.Table ∧ w.Gone = false) := by
      rw [List.take_succ_eq_append_getElem hi', goodP_snoc, hg, ← hw]; rfl
    have hno : decide (w.Table < tables ∧ lastT (l.take i) ≤ w.Table ∧ w.Gone = false) = false → rowsP tables ⟨n, l⟩ = ([], false) := fun hx => by
      rw [hx] at hgs
      unfold rowsP
      rw [if_neg (by rw [goodP_bad hgs]; simp)]
    rw [← hw] at ht0
    by_cases h1 : (tables : Int) ≤ w.Table
    · simp (maxSteps := 1000000) (disch := first | assumption | ((try simp only [LEN, LEN2]); omega)) only [push_cast, Int.reduceToNat, Int.reduceEq, Int.reduceNe, Int.reduceLT, Int.reduceLE, Int.reduceAdd, Int.reduceSub, Int.reduceMul, Int.reduceNeg, Nat.reduceEqDiff, Nat.reduceBEq, Nat.reduceBNe, Nat.reduceAdd, Nat.reduceLeDiff, Nat.reduceLT, Nat.reduceMul, ↓reduceIte, reduceCtorEq, g43, pf43, b43, h, eW, ← hw, h1, hno (by simp; omega)]
      done
    · by_cases h2 : w.Table < lastT (l.take i)
      · simp (maxSteps := 1000000) (disch := first | assumption | ((try simp only [LEN, LEN2]); omega)) only [push_cast, Int.reduceToNat, Int.reduceEq, Int.reduceNe, Int.reduceLT, Int.reduceLE, Int.reduceAdd, Int.reduceSub, Int.reduceMul, Int.reduceNeg, Nat.reduceEqDiff, Nat.reduceBEq, Nat.reduceBNe, Nat.reduceAdd, Nat.reduceLeDiff, Nat.reduceLT, Nat.reduceMul, ↓reduceIte, reduceCtorEq, g43, pf43, b43, h, eW, ← hw, h1, h2, hno (by simp; omega)]
        done
      · cases h3 : w.Gone with
        | true =>
          simp (maxSteps := 1000000) (disch := first | assumption | ((try simp only [LEN, LEN2]); omega)) only [push_cast, Int.reduceToNat, Int.reduceEq, Int.reduceNe, Int.reduceLT, Int.reduceLE, Int.reduceAdd, Int.reduceSub, Int.reduceMul, Int.reduceNeg, Nat.reduceEqDiff, Nat.reduceBEq, Nat.reduceBNe, Nat.reduceAdd, Nat.reduceLeDiff, Nat.reduceLT, Nat.reduceMul, ↓reduceIte, reduceCtorEq, g43, pf43, b43, h, eW, ← hw, h1, h2, h3, hno (by simp [h3])]
          done
        | false =>
          obtain ⟨k, hk⟩ : ∃ k : Nat, w.Table = k := Int.eq_ofNat_of_zero_le ht0
          have hkl : k < tables := by omega
          have h1' := h1
          have h2' := h2
          rw [hk] at h1' h2'
          obtain ⟨M, hM⟩ : ∃ M, M = groupT tables (l.take i) := ⟨_, rfl⟩
          have hML : M.length = tables := by rw [hM, groupT_len]
          have hMs := groupT_sm ht (ws := l.take i) ⟨by rw [List.length_take]; omega, fun x hx => hs.2 x (List.mem_of_mem_take hx)⟩
          rw [← hM] at hMs
          have hx := (hMs.2 (M[k]'(by omega)) (List.getElem_mem _)).1
          have hgn := group_snoc (tables := tables) (ws := l.take i) (w := w) (k := k) hk hkl
          rw [← hM, List.getElem?_eq_getElem (by omega), Option.getD_some] at hgn
          simp (maxSteps := 1000000) (disch := first | assumption | ((try simp only [LEN, LEN2]); omega)) only [push_cast, Int.reduceToNat, Int.reduceEq, Int.reduceNe, Int.reduceLT, Int.reduceLE, Int.reduceAdd, Int.reduceSub, Int.reduceMul, Int.reduceNeg, Nat.reduceEqDiff, Nat.reduceBEq, Nat.reduceBNe, Nat.reduceAdd, Nat.reduceLeDiff, Nat.reduceLT, Nat.reduceMul, ↓reduceIte, reduceCtorEq, g43, pf43, b43, h, eW, ← hw, h1', h2', h3, ← hM, hk, oMp]
          refine ⟨i + 1, ?_, ⟨by omega, by rw [hgs]; simp only [decide_eq_true_eq]; exact ⟨by omega, by omega, h3⟩⟩, by omega⟩
          rw [List.take_succ_eq_append_getElem hi', ← hw, hgn]
          rw [List.map_set]
          simp [oMp, oRow, lastT, hk]
  · obtain rfl : i = l.length := by omega
    rw [List.take_length] at hg ⊢
    have hsm := groupT_sm (tables := tables) ht hs
    have e : rowsP tables ⟨n, l⟩ = (groupT tables l, decide (n = 1) && okM (groupT tables l)) := by unfold rowsP; rw [if_pos hg]
    have hlen := hsm.1
    by_cases h1 : n = 1
    · subst h1
      simp (maxSteps := 1000000) (disch := first | assumption | ((try simp only [LEN, LEN2]); omega)) only [push_cast, Int.reduceToNat, Int.reduceEq, Int.reduceNe, Int.reduceLT, Int.reduceLE, Int.reduceAdd, Int.reduceSub, Int.reduceMul, Int.reduceNeg, Nat.reduceEqDiff, Nat.reduceBEq, Nat.reduceBNe, Nat.reduceAdd, Nat.reduceLeDiff, Nat.reduceLT, Nat.reduceMul, ↓reduceIte, reduceCtorEq, g43, pf43, b43, h, e]
      done
    · simp (maxSteps := 1000000) (disch := first | assumption | ((try simp only [LEN, LEN2]); omega)) only [push_cast, Int.reduceToNat, Int.reduceEq, Int.reduceNe, Int.reduceLT, Int.reduceLE, Int.reduceAdd, Int.reduceSub, Int.reduceMul, Int.reduceNeg, Nat.reduceEqDiff, Nat.reduceBEq, Nat.reduceBNe, Nat.reduceAdd, Nat.reduceLeDiff, Nat.reduceLT, Nat.reduceMul, ↓reduceIte, reduceCtorEq, g43, pf43, b43, h, h1, e]
      done
theorem f43c {n : Int} {l : List Write} {tables : Nat} (hs : smW l) (ht : tables ≤ 1048576) (h0 : ∀ w ∈ l, 0 ≤ w.Table) {g : VG} {F : Fn} {lk : Bool} {e : Env} {dst : Option Nat} {ops : List Ins} {keep : Option (List Nat)} {K : List Fr} : CallC G g F 43 [.vs true [.d (.sc (.int .i64 n)), .d (.sl (l.map eW))], .int .i64 tables] lk e dst ops keep K = ThenL G g F (if lk && !(T.noSl (.tup [(false, [.own 79 ((rowsP tables ⟨n, l⟩).1.map oMp)]), (false, [.d (.sc (.bool (rowsP tables ⟨n, l⟩).2))])])) then none else e.put g.un dst (.tup [(false, [.own 79 ((rowsP tables ⟨n, l⟩).1.map oMp)]), (false, [.d (.sc (.bool (rowsP tables ⟨n, l⟩).2))])])) ops keep K := callC_eq (f43 hs ht h0)
attribute [push_cast] f43c
def openP (S : List (List UInt8)) (W : List Put) (tables : Int) : Map × List Record × Wal × Int :=
  if okT S W = true ∧ S.length = 512 ∧ W = [] ∧ 1 ≤ tables ∧ tables ≤ 3 then
    match openT S tables.toNat with
    | some (m, l, w) => (m, l, w, 0)
    | none => ([], [], ⟨0, 0, 0, 0⟩, 10)
  else ([], [], ⟨0, 0, 0, 0⟩, 1)
theorem runF_cnt (run : Int) (L : List (List UInt8)) : ∀ (j : Nat) (n : Int) (m : Nat), m + (runF run L j n m).1.length ≤ (runF run L j n m).2
  | 0, n, m => by simp [runF]
  | j + 1, n, m => by
    unfold runF
    split
    · simp
    · dsimp only
      split
      · simp
      · have := runF_cnt run L j (n + 1) (m + (whole1 run n (L.drop m)).2); simp only [List.length_cons]; omega
theorem rd_cnt (run n : Int) (L : List (List UInt8)) : (rd run n L).1.length ≤ (rd run n L).2 := by have := runF_cnt run L (L.length + 1) n 0; simp only [rd]; omega
theorem turnP_bd (s : List UInt8) : (turnP s).1.At = 0 ∧ (turnP s).1.Seq = 0 ∧ 0 ≤ (turnP s).1.Run ∧ (turnP s).1.Run < 281474976710656 := by
  have h := num_bd6 ((s.drop 4).take 4) (by rw [List.length_take]; omega)
  unfold turnP
  split <;> exact ⟨rfl, rfl, h.1, h.2⟩
theorem open_none {S : List (List UInt8)} {tables : Nat} (h : turnT (S[0]?.getD []) = none) : openT S tables = none := by simp only [openT, h]
theorem open_some {S : List (List UInt8)} {tables : Nat} {run slot : Int} {r : Record} {k : Nat} {l : List Record} {n : Nat} (h : turnT (S[0]?.getD []) = some (run, slot)) (hw : whole1 run 0 (seg S slot) = (r, k)) (hr : rd run 1 (S.drop 255) = (l, n)) :
    openT S tables = if k = 0 then none else match rowsT tables r with | none => none | some m => some (m, l, ⟨run, slot, 255 + (n : Nat), 1 + (l.length : Nat)⟩) := by
  simp only [openT, h, hw, hr]
  rfl
theorem rowsP_eq {tables : Nat} {r : Record} (hr : okR r = true) : rowsT tables r = if (rowsP tables r).2 = true then some (rowsP tables r).1 else none := by
  rw [rows_eq hr]
  unfold rowsP
  by_cases hg : goodP tables 0 r.Writes = true
  · rw [if_pos hg]
    simp [hg]
  · rw [if_neg hg, if_neg (fun h => hg h.1)]
    rfl
abbrev openR (m : Map) (l : List Record) (w : Wal) (e : Int) : T := .tup [(false, [.own 79 (m.map oMp)]), (false, [.own 70 (l.map oR)]), (true, cWal w), (false, [.d (.sc (.int .i64 e))])]
set_option maxHeartbeats 2000000 in
theorem f12 {S : List (List UInt8)} {W : List Put} {tables : Int} (h1 : S.length ≤ 1048576) (h3 : W.length ≤ 1048576) : Fun G 12 [.vs true (cT S W), .int .i64 tables] (openR (openP S W tables).1 (openP S W tables).2.1 (openP S W tables).2.2.1 (openP S W tables).2.2.2, []) := by
  refine Fun.of_run (g := g12) (pf := pf12) rfl rfl rfl rfl ?_
  cases hok : okT S W with
  | false =>
    have e : openP S W tables = ([], [], ⟨0, 0, 0, 0⟩, 1) := by unfold openP; rw [if_neg (by simp [hok])]
    simp (maxSteps := 1000000) (disch := first | assumption | ((try simp only [LEN, LEN2]); omega)) only [push_cast, Int.reduceToNat, Int.reduceEq, Int.reduceNe, Int.reduceLT, Int.reduceLE, Int.reduceAdd, Int.reduceSub, Int.reduceMul, Int.reduceNeg, Nat.reduceEqDiff, Nat.reduceBEq, Nat.reduceBNe, Nat.reduceAdd, Nat.reduceLeDiff, Nat.reduceLT, Nat.reduceMul, ↓reduceIte, reduceCtorEq, g12, pf12, b12, hok, e]
    rfl
  | true =>
    by_cases hl : S.length = 512
    · by_cases hW : W = []
      · subst hW
        have hmay := f39 (S := S) (W := []) (by omega) (by simp)
        simp only [push_cast, Int.reduceToNat, Int.reduceEq, Int.reduceNe, Int.reduceLT, Int.reduceLE, Int.reduceAdd, Int.reduceSub, Int.reduceMul, Int.reduceNeg, Nat.reduceEqDiff, Nat.reduceBEq, Nat.reduceBNe, Nat.reduceAdd, Nat.reduceLeDiff, Nat.reduceLT, Nat.reduceMul, ↓reduceIte, reduceCtorEq, cT, hok] at hmay
        by_cases ht1 : tables < 1
        · have e : openP S [] tables = ([], [], ⟨0, 0, 0, 0⟩, 1) := by unfold openP; rw [if_neg (by omega)]
          simp (maxSteps := 1000000) (disch := first | assumption | ((try simp only [LEN, LEN2]); omega)) only [push_cast, Int.reduceToNat, Int.reduceEq, Int.reduceNe, Int.reduceLT, Int.reduceLE, Int.reduceAdd, Int.reduceSub, Int.reduceMul, Int.reduceNeg, Nat.reduceEqDiff, Nat.reduceBEq, Nat.reduceBNe, Nat.reduceAdd, Nat.reduceLeDiff, Nat.reduceLT, Nat.reduceMul, ↓reduceIte, reduceCtorEq, g12, pf12, b12, callC_eq hmay, hl, ht1, e]
          rfl
        · by_cases ht3 : 3 < tables
          · have e : openP S [] tables = ([], [], ⟨0, 0, 0, 0⟩, 1) := by unfold openP; rw [if_neg (by omega)]
            simp (maxSteps := 1000000) (disch := first | assumption | ((try simp only [LEN, LEN2]); omega)) only [push_cast, Int.reduceToNat, Int.reduceEq, Int.reduceNe, Int.reduceLT, Int.reduceLE, Int.reduceAdd, Int.reduceSub, Int.reduceMul, Int.reduceNeg, Nat.reduceEqDiff, Nat.reduceBEq, Nat.reduceBNe, Nat.reduceAdd, Nat.reduceLeDiff, Nat.reduceLT, Nat.reduceMul, ↓reduceIte, reduceCtorEq, g12, pf12, b12, callC_eq hmay, hl, ht1, ht3, e]
            rfl
          · have e : openP S [] tables = match openT S tables.toNat with | some (m, l, w) => (m, l, w, 0) | none => ([], [], ⟨0, 0, 0, 0⟩, 10) := by unfold openP; rw [if_pos ⟨hok, hl, rfl, by omega, by omega⟩]
            rw [e]
            have h0 : 0 < S.length := by omega
            have h32 := (okT_iff.1 hok).2.1
            have hs0 : (S[0]).length = 32 := h32 _ (List.getElem_mem h0)
            have hte := turnP_eq S[0]
            have hf := f40 hs0
            obtain ⟨⟨⟨run, slot, a0, q0⟩, ok⟩, hp⟩ : ∃ x, turnP S[0] = x := ⟨_, rfl⟩
            have ha0 : a0 = 0 ∧ q0 = 0 ∧ 0 ≤ run ∧ run < 281474976710656 := by
              have := turnP_bd S[0]
              rw [hp] at this
              exact this
            obtain ⟨rfl, rfl, hr0, hr1⟩ := ha0
            rw [hp] at hf hte
            simp only at hf hte
            obtain ⟨s0, hs⟩ : ∃ s, s = S[0] := ⟨_, rfl⟩
            have hs0' : s0 = S[0]?.getD [] := by rw [hs, List.getElem?_eq_getElem h0]; rfl
            rw [← hs] at hf hte
            cases ok with
            | false =>
              rw [if_neg (by simp)] at hte
              rw [open_none (by rw [← hs0']; exact hte)]
              simp (maxSteps := 1000000) (disch := first | assumption | ((try simp only [LEN, LEN2]); omega)) only [push_cast, Int.reduceToNat, Int.reduceEq, Int.reduceNe, Int.reduceLT, Int.reduceLE, Int.reduceAdd, Int.reduceSub, Int.reduceMul, Int.reduceNeg, Nat.reduceEqDiff, Nat.reduceBEq, Nat.reduceBNe, Nat.reduceAdd, Nat.reduceLeDiff, Nat.reduceLT, Nat.reduceMul, ↓reduceIte, reduceCtorEq, g12, pf12, b12, callC_eq hmay, hl, ht1, ht3, eS, ← hs, callC_eq hf]
              rfl
            | true =>
              rw [if_pos rfl] at hte
              have hst := startS_le (slot := slot)
              obtain ⟨A, hA⟩ : ∃ A, A = startS slot := ⟨_, rfl⟩
              have eA : ((A : Int) + 127).toNat = A + 127 := by omega
              have hseg : (S.take (A + 127)).drop A = seg S slot := by rw [seg, ← hA, List.drop_take]; congr 1; omega
              obtain ⟨Z, hZ⟩ : ∃ Z, Z = seg S slot := ⟨_, rfl⟩
              rw [← hZ] at hseg
              have hZl : Z.length ≤ 127 := by rw [hZ, seg, List.length_take]; omega
              have hw := f42 (run := run) (nn := 0) (L := Z) (by omega)
              have hbd := whole_bd (run := run) (n := 0) (L := Z) (l := Z) (i := 0) (b := [])
              rw [show whole run 0 Z Z 0 [] = whole1 run 0 Z from rfl] at hbd
              obtain ⟨⟨⟨c, ws⟩, k⟩, hW⟩ : ∃ x, whole1 run 0 Z = x := ⟨_, rfl⟩
              rw [hW] at hw hbd
              have hsm : smW ws ∧ ∀ w ∈ ws, 0 ≤ w.Table := by
                rcases hbd with g | g
                · simp only [Prod.mk.injEq, Q.Record.mk.injEq] at g
                  rw [g.1.2]
                  exact ⟨⟨by simp, by simp⟩, by simp⟩
                · refine ⟨okR_smW g, fun w hw => ?_⟩
                  simp only [okR, Bool.and_eq_true, List.all_eq_true] at g
                  have := g.2 w hw
                  simp only [okW, decide_eq_true_eq] at this
                  omega
              have hdl : (S.drop 255).length ≤ 4000000 := by rw [List.length_drop]; omega
              have hrd := f44 (run := run) (n0 := 1) (L := S.drop 255) hdl ⟨by omega, by omega⟩
              have hcn := rd_cnt run 1 (S.drop 255)
              have hcl := rd_le run 1 (S.drop 255)
              have htk : S.take 512 = S := List.take_of_length_le (by omega)
              obtain ⟨⟨R, n⟩, hR⟩ : ∃ x, rd run 1 (S.drop 255) = x := ⟨_, rfl⟩
              rw [hR] at hrd hcn hcl
              rw [List.length_drop] at hcl
              simp only at hcn hcl
              rw [open_some (r := ⟨c, ws⟩) (k := k) (by rw [← hs0']; exact hte) (by rw [← hZ]; exact hW) hR]
              obtain ⟨tb, htb⟩ : ∃ tb : Nat, tables = tb := Int.eq_ofNat_of_zero_le (by omega)
              subst htb
              have hrw := f43 (n := c) (tables := tb) hsm.1 (by omega) hsm.2
              simp only [push_cast, Int.reduceToNat, Int.reduceEq, Int.reduceNe, Int.reduceLT, Int.reduceLE, Int.reduceAdd, Int.reduceSub, Int.reduceMul, Int.reduceNeg, Nat.reduceEqDiff, Nat.reduceBEq, Nat.reduceBNe, Nat.reduceAdd, Nat.reduceLeDiff, Nat.reduceLT, Nat.reduceMul, ↓reduceIte, reduceCtorEq] at hw hrd hrw
              by_cases hk : k = 0
              · subst hk
                rw [if_pos rfl]
                simp (maxSteps := 1000000) (disch := first | assumption | ((try simp only [LEN, LEN2]); omega)) only [push_cast, Int.reduceToNat, Int.reduceEq, Int.reduceNe, Int.reduceLT, Int.reduceLE, Int.reduceAdd, Int.reduceSub, Int.reduceMul, Int.reduceNeg, Nat.reduceEqDiff, Nat.reduceBEq, Nat.reduceBNe, Nat.reduceAdd, Nat.reduceLeDiff, Nat.reduceLT, Nat.reduceMul, ↓reduceIte, reduceCtorEq, g12, pf12, b12, callC_eq hmay, hl, ht1, ht3, eS, ← hs, callC_eq hf, ← hA, eA, hseg, callC_eq hw, callC_eq hrd, callC_eq hrw]
                rfl
              · have hk1 : ¬ (k : Int) = 0 := by omega
                rw [if_neg hk, rowsP_eq (whole_sound hW hk).2, Int.toNat_natCast]
                obtain ⟨⟨m, okm⟩, hm⟩ : ∃ x, rowsP tb ⟨c, ws⟩ = x := ⟨_, rfl⟩
                rw [hm] at hrw ⊢
                cases okm with
                | false =>
                  simp (maxSteps := 1000000) (disch := first | assumption | ((try simp only [LEN, LEN2]); omega)) only [push_cast, Int.reduceToNat, Int.reduceEq, Int.reduceNe, Int.reduceLT, Int.reduceLE, Int.reduceAdd, Int.reduceSub, Int.reduceMul, Int.reduceNeg, Nat.reduceEqDiff, Nat.reduceBEq, Nat.reduceBNe, Nat.reduceAdd, Nat.reduceLeDiff, Nat.reduceLT, Nat.reduceMul, ↓reduceIte, reduceCtorEq, g12, pf12, b12, callC_eq hmay, hl, ht1, ht3, eS, ← hs, callC_eq hf, ← hA, eA, hseg, callC_eq hw, callC_eq hrd, callC_eq hrw, hk1]
                  rfl
                | true =>
                  simp (maxSteps := 1000000) (disch := first | assumption | ((try simp only [LEN, LEN2]); omega)) only [push_cast, Int.reduceToNat, Int.reduceEq, Int.reduceNe, Int.reduceLT, Int.reduceLE, Int.reduceAdd, Int.reduceSub, Int.reduceMul, Int.reduceNeg, Nat.reduceEqDiff, Nat.reduceBEq, Nat.reduceBNe, Nat.reduceAdd, Nat.reduceLeDiff, Nat.reduceLT, Nat.reduceMul, ↓reduceIte, reduceCtorEq, g12, pf12, b12, callC_eq hmay, hl, ht1, ht3, eS, ← hs, callC_eq hf, ← hA, eA, hseg, callC_eq hw, callC_eq hrd, callC_eq hrw, hk1, htk]
      · have e : openP S W tables = ([], [], ⟨0, 0, 0, 0⟩, 1) := by unfold openP; rw [if_neg (fun h => hW h.2.2.1)]
        have hWl : (0 : Int) < W.length := by have := List.length_pos_iff.2 hW; omega
        simp (maxSteps := 1000000) (disch := first | assumption | ((try simp only [LEN, LEN2]); omega)) only [push_cast, Int.reduceToNat, Int.reduceEq, Int.reduceNe, Int.reduceLT, Int.reduceLE, Int.reduceAdd, Int.reduceSub, Int.reduceMul, Int.reduceNeg, Nat.reduceEqDiff, Nat.reduceBEq, Nat.reduceBNe, Nat.reduceAdd, Nat.reduceLeDiff, Nat.reduceLT, Nat.reduceMul, ↓reduceIte, reduceCtorEq, g12, pf12, b12, hok, hl, hWl, e]
        rfl
    · have e : openP S W tables = ([], [], ⟨0, 0, 0, 0⟩, 1) := by unfold openP; rw [if_neg (fun h => hl h.2.1)]
      have hl2 : ¬ (S.length : Int) = 512 := by omega
      simp (maxSteps := 1000000) (disch := first | assumption | ((try simp only [LEN, LEN2]); omega)) only [push_cast, Int.reduceToNat, Int.reduceEq, Int.reduceNe, Int.reduceLT, Int.reduceLE, Int.reduceAdd, Int.reduceSub, Int.reduceMul, Int.reduceNeg, Nat.reduceEqDiff, Nat.reduceBEq, Nat.reduceBNe, Nat.reduceAdd, Nat.reduceLeDiff, Nat.reduceLT, Nat.reduceMul, ↓reduceIte, reduceCtorEq, g12, pf12, b12, hok, hl2, e]
      rfl
theorem f12c {S : List (List UInt8)} {W : List Put} {tables : Int} (h1 : S.length ≤ 1048576) (h3 : W.length ≤ 1048576) {g : VG} {F : Fn} {lk : Bool} {e : Env} {dst : Option Nat} {ops : List Ins} {keep : Option (List Nat)} {K : List Fr} : CallC G g F 12 [.vs true (cT S W), .int .i64 tables] lk e dst ops keep K = ThenL G g F (if lk && !(T.noSl (openR (openP S W tables).1 (openP S W tables).2.1 (openP S W tables).2.2.1 (openP S W tables).2.2.2)) then none else e.put g.un dst (openR (openP S W tables).1 (openP S W tables).2.1 (openP S W tables).2.2.1 (openP S W tables).2.2.2)) ops keep K := callC_eq (f12 h1 h3)
attribute [push_cast] f12c
end Go.Mir.Tryz

set_option linter.unusedVariables false
set_option linter.unusedSimpArgs false
set_option maxRecDepth 100000
namespace Go.Mir.Tryz
open Go.Proofs Go.Mir.Q
theorem f28 {m : Map} (hm : smM m) : ∃ n : Int, Fun G 28 [.one (.d (.sl (m.map eMp)))] (.int .i64 n, []) ∧ 0 ≤ n ∧ n ≤ 2097152 := by
  obtain ⟨hl, h⟩ := hm
  obtain ⟨r, h1, n, rfl, h2⟩ := Fun.ex_of_run (G := G) (f := 28) (args := [.one (.d (.sl (m.map eMp)))]) (Q := fun r => ∃ n : Int, r = (.int .i64 n, []) ∧ 0 ≤ n ∧ n ≤ 2097152) (g := g28) (pf := pf28) rfl rfl rfl rfl (by
    simp (maxSteps := 1000000) (disch := first | assumption | ((try simp only [LEN, LEN2]); omega)) only [push_cast, Int.reduceToNat, Int.reduceEq, Int.reduceNe, Int.reduceLT, Int.reduceLE, Int.reduceAdd, Int.reduceSub, Int.reduceMul, Int.reduceNeg, Nat.reduceEqDiff, Nat.reduceBEq, Nat.reduceBNe, Nat.reduceAdd, Nat.reduceLeDiff, Nat.reduceLT, Nat.reduceMul, ↓reduceIte, reduceCtorEq, g28, pf28, b28]
    refine run_loop' (fun x : Nat × Int => [(0, T.one (.d (.sl (m.map eMp)))), (3, T.int .i64 x.2), (4, T.int .i64 x.1)]) (fun x => x.1 ≤ m.length ∧ 0 ≤ x.2 ∧ x.2 ≤ 2097152) (fun x => m.length - x.1) (0, m.length) rfl (by simp only; omega) (fun ⟨i, n⟩ hi => ?_)
    simp only at hi
    by_cases h1 : (i : Int) < m.length
    · have hi' : i < m.length := by omega
      obtain ⟨hs1, hs2⟩ := h m[i] (List.getElem_mem hi')
      obtain ⟨l, hl0⟩ : ∃ l, l = m[i] := ⟨_, rfl⟩
      rw [← hl0] at hs1 hs2
      by_cases h2 : n < 1048576
      · simp (maxSteps := 1000000) (disch := first | assumption | ((try simp only [LEN, LEN2]); omega)) only [push_cast, Int.reduceToNat, Int.reduceEq, Int.reduceNe, Int.reduceLT, Int.reduceLE, Int.reduceAdd, Int.reduceSub, Int.reduceMul, Int.reduceNeg, Nat.reduceEqDiff, Nat.reduceBEq, Nat.reduceBNe, Nat.reduceAdd, Nat.reduceLeDiff, Nat.reduceLT, Nat.reduceMul, ↓reduceIte, reduceCtorEq, g28, pf28, b28, h1, h2, eMp, ← hl0]
        refine run_loop' (fun x : Nat × Int => [(0, T.one (.d (.sl (m.map eMp)))), (3, T.int .i64 x.2), (4, T.int .i64 i), (5, T.int .i64 x.1)]) (fun x => x.1 ≤ l.length ∧ 0 ≤ x.2 ∧ x.2 ≤ 2097152) (fun x => l.length - x.1) (0, n + l.length) rfl (by simp only; omega) (fun ⟨k, n⟩ hk => ?_)
        simp only at hk
        by_cases h3 : (k : Int) < l.length
        · have hk' : k < l.length := by omega
          have hs := hs2 l[k] (List.getElem_mem hk')
          by_cases h4 : n < 1048576
          · simp (maxSteps := 1000000) (disch := first | assumption | ((try simp only [LEN, LEN2]); omega)) only [push_cast, Int.reduceToNat, Int.reduceEq, Int.reduceNe, Int.reduceLT, Int.reduceLE, Int.reduceAdd, Int.reduceSub, Int.reduceMul, Int.reduceNeg, Nat.reduceEqDiff, Nat.reduceBEq, Nat.reduceBNe, Nat.reduceAdd, Nat.reduceLeDiff, Nat.reduceLT, Nat.reduceMul, ↓reduceIte, reduceCtorEq, g28, pf28, b28, h3, h4, eMp, ← hl0, eRow]
            exact ⟨(k + 1, n + ((l[k].Key.length : Int) + l[k].Value.length) / 8), rfl, by simp only; omega, by simp only; omega⟩
          · simp (maxSteps := 1000000) (disch := first | assumption | ((try simp only [LEN, LEN2]); omega)) only [push_cast, Int.reduceToNat, Int.reduceEq, Int.reduceNe, Int.reduceLT, Int.reduceLE, Int.reduceAdd, Int.reduceSub, Int.reduceMul, Int.reduceNeg, Nat.reduceEqDiff, Nat.reduceBEq, Nat.reduceBNe, Nat.reduceAdd, Nat.reduceLeDiff, Nat.reduceLT, Nat.reduceMul, ↓reduceIte, reduceCtorEq, g28, pf28, b28, h3, h4, eMp, ← hl0]
            exact ⟨(i + 1, n), rfl, by simp only; omega, by simp only; omega⟩
        · simp (maxSteps := 1000000) (disch := first | assumption | ((try simp only [LEN, LEN2]); omega)) only [push_cast, Int.reduceToNat, Int.reduceEq, Int.reduceNe, Int.reduceLT, Int.reduceLE, Int.reduceAdd, Int.reduceSub, Int.reduceMul, Int.reduceNeg, Nat.reduceEqDiff, Nat.reduceBEq, Nat.reduceBNe, Nat.reduceAdd, Nat.reduceLeDiff, Nat.reduceLT, Nat.reduceMul, ↓reduceIte, reduceCtorEq, g28, pf28, b28, h3, eMp, ← hl0]
          exact ⟨(i + 1, n), rfl, by simp only; omega, by simp only; omega⟩
      · simp (maxSteps := 1000000) (disch := first | assumption | ((try simp only [LEN, LEN2]); omega)) only [push_cast, Int.reduceToNat, Int.reduceEq, Int.reduceNe, Int.reduceLT, Int.reduceLE, Int.reduceAdd, Int.reduceSub, Int.reduceMul, Int.reduceNeg, Nat.reduceEqDiff, Nat.reduceBEq, Nat.reduceBNe, Nat.reduceAdd, Nat.reduceLeDiff, Nat.reduceLT, Nat.reduceMul, ↓reduceIte, reduceCtorEq, g28, pf28, b28, h1, h2]
        exact ⟨n, rfl, hi.2⟩
    · simp (maxSteps := 1000000) (disch := first | assumption | ((try simp only [LEN, LEN2]); omega)) only [push_cast, Int.reduceToNat, Int.reduceEq, Int.reduceNe, Int.reduceLT, Int.reduceLE, Int.reduceAdd, Int.reduceSub, Int.reduceMul, Int.reduceNeg, Nat.reduceEqDiff, Nat.reduceBEq, Nat.reduceBNe, Nat.reduceAdd, Nat.reduceLeDiff, Nat.reduceLT, Nat.reduceMul, ↓reduceIte, reduceCtorEq, g28, pf28, b28, h1]
      exact ⟨n, rfl, hi.2⟩)
  exact ⟨n, h1, h2⟩
def eMaps (m : Map) : List D := [.sl (m.map eMp)]
abbrev cAsk (M : List Map) (R : List Record) (S : List (List UInt8)) (N1 : List Int) (L : List (List (List UInt8))) (W : List Wal) (K N : List Int) : List V :=
  [.d (.sl (M.map eMaps)), .d (.sl (R.map eR)), .d (.sl (S.map eS)), .d (.sl (N1.map eN)), .d (.sl (L.map fun l => [.sl (l.map eS)])), .d (.sl (W.map eWal)), .d (.sl (K.map eN)), .d (.sl (N.map eN))]
structure smAsk (M : List Map) (R : List Record) (S : List (List UInt8)) (N1 : List Int) (L : List (List (List UInt8))) (W : List Wal) (K N : List Int) : Prop where
  m : M.length ≤ 1048576
  mm : ∀ m ∈ M, smM m
  r : smR R
  s : smS S
  n1 : N1.length ≤ 1048576
  l : L.length ≤ 1048576 ∧ ∀ l ∈ L, smS l
  w : W.length ≤ 1048576
  k : K.length ≤ 1048576 ∧ ∀ x ∈ K, okN x
  n : N.length ≤ 1048576 ∧ ∀ x ∈ N, okN x
theorem f6 {M : List Map} {R : List Record} {S : List (List UInt8)} {N1 : List Int} {L : List (List (List UInt8))} {W : List Wal} {K N : List Int} (h : smAsk M R S N1 L W K N) : ∃ b : Bool, Fun G 6 [.vs true (cAsk M R S N1 L W K N)] (.bool b, []) := by
  obtain ⟨b17, h17⟩ := f29 h.r h.s h.n1 h.l
  have hm := h.m
  have hw := h.w
  have hk := h.k.1
  have hn := h.n.1
  obtain ⟨r, h1, b, rfl⟩ := Fun.ex_of_run (G := G) (f := 6) (args := [.vs true (cAsk M R S N1 L W K N)]) (Q := fun r => ∃ b : Bool, r = (.bool b, [])) (g := g6) (pf := pf6) rfl rfl rfl rfl (by
    simp (maxSteps := 1000000) (disch := first | assumption | ((try simp only [LEN, LEN2]); omega)) only [push_cast, Int.reduceToNat, Int.reduceEq, Int.reduceNe, Int.reduceLT, Int.reduceLE, Int.reduceAdd, Int.reduceSub, Int.reduceMul, Int.reduceNeg, Nat.reduceEqDiff, Nat.reduceBEq, Nat.reduceBNe, Nat.reduceAdd, Nat.reduceLeDiff, Nat.reduceLT, Nat.reduceMul, ↓reduceIte, reduceCtorEq, g6, pf6, b6]
    refine run_loop' (fun x : Nat × Int => [(1, T.one (.box (cAsk M R S N1 L W K N))), (3, T.int .i64 x.2), (4, T.int .i64 x.1)]) (fun x => x.1 ≤ M.length ∧ 0 ≤ x.2 ∧ x.2 ≤ 8388608) (fun x => M.length - x.1) (0, M.length + W.length + K.length + N.length) rfl (by simp only; omega) (fun ⟨i, n⟩ hi => ?_)
    simp only at hi
    by_cases h1 : (i : Int) < M.length
    · have hi' : i < M.length := by omega
      by_cases h2 : n < 1048576
      · obtain ⟨w, hw1, hw2, hw3⟩ := f28 (h.mm M[i] (List.getElem_mem hi'))
        simp (maxSteps := 1000000) (disch := first | assumption | ((try simp only [LEN, LEN2]); omega)) only [push_cast, Int.reduceToNat, Int.reduceEq, Int.reduceNe, Int.reduceLT, Int.reduceLE, Int.reduceAdd, Int.reduceSub, Int.reduceMul, Int.reduceNeg, Nat.reduceEqDiff, Nat.reduceBEq, Nat.reduceBNe, Nat.reduceAdd, Nat.reduceLeDiff, Nat.reduceLT, Nat.reduceMul, ↓reduceIte, reduceCtorEq, g6, pf6, b6, h1, h2, eMaps, callC_eq hw1]
        exact ⟨(i + 1, n + w), rfl, by simp only; omega, by simp only; omega⟩
      · by_cases h3 : (700 : Int) < n
        · simp (maxSteps := 1000000) (disch := first | assumption | ((try simp only [LEN, LEN2]); omega)) only [push_cast, Int.reduceToNat, Int.reduceEq, Int.reduceNe, Int.reduceLT, Int.reduceLE, Int.reduceAdd, Int.reduceSub, Int.reduceMul, Int.reduceNeg, Nat.reduceEqDiff, Nat.reduceBEq, Nat.reduceBNe, Nat.reduceAdd, Nat.reduceLeDiff, Nat.reduceLT, Nat.reduceMul, ↓reduceIte, reduceCtorEq, g6, pf6, b6, h1, h2, h3]
          exact ⟨_, rfl⟩
        · exact absurd h3 (by omega)
    · by_cases h3 : (700 : Int) < n
      · simp (maxSteps := 1000000) (disch := first | assumption | ((try simp only [LEN, LEN2]); omega)) only [push_cast, Int.reduceToNat, Int.reduceEq, Int.reduceNe, Int.reduceLT, Int.reduceLE, Int.reduceAdd, Int.reduceSub, Int.reduceMul, Int.reduceNeg, Nat.reduceEqDiff, Nat.reduceBEq, Nat.reduceBNe, Nat.reduceAdd, Nat.reduceLeDiff, Nat.reduceLT, Nat.reduceMul, ↓reduceIte, reduceCtorEq, g6, pf6, b6, h1, h3]
        exact ⟨_, rfl⟩
      · simp (maxSteps := 1000000) (disch := first | assumption | ((try simp only [LEN, LEN2]); omega)) only [push_cast, Int.reduceToNat, Int.reduceEq, Int.reduceNe, Int.reduceLT, Int.reduceLE, Int.reduceAdd, Int.reduceSub, Int.reduceMul, Int.reduceNeg, Nat.reduceEqDiff, Nat.reduceBEq, Nat.reduceBNe, Nat.reduceAdd, Nat.reduceLeDiff, Nat.reduceLT, Nat.reduceMul, ↓reduceIte, reduceCtorEq, g6, pf6, b6, h1, h3, callC_eq h17]
        exact ⟨_, rfl⟩)
  exact ⟨b, h1⟩
def mayR (n : Nat) (r : Record) : Bool := okR r && r.Writes.all fun w => decide (w.Table < n)
set_option maxHeartbeats 2000000 in
theorem f25 {m : Map} {R : List Record} (hm : smM m) (hR : smR R) : Fun G 25 [.one (.d (.sl (m.map eMp))), .one (.d (.sl (R.map eR)))] (.bool (R.all (mayR m.length) && okM m), []) := by
  refine Fun.of_run (g := g25) (pf := pf25) rfl rfl rfl rfl ?_
  obtain ⟨hR1, hR2⟩ := hR
  have hm1 := hm.1
  have hbad : ∀ r ∈ R, mayR m.length r = false → (R.all (mayR m.length) && okM m) = false := fun r hr hb => by
    rw [Bool.and_eq_false_iff]
    left
    rw [← Bool.not_eq_true, List.all_eq_true]
    intro hh
    rw [hh r hr] at hb
    cases hb
  simp (maxSteps := 1000000) (disch := first | assumption | ((try simp only [LEN, LEN2]); omega)) only [push_cast, Int.reduceToNat, Int.reduceEq, Int.reduceNe, Int.reduceLT, Int.reduceLE, Int.reduceAdd, Int.reduceSub, Int.reduceMul, Int.reduceNeg, Nat.reduceEqDiff, Nat.reduceBEq, Nat.reduceBNe, Nat.reduceAdd, Nat.reduceLeDiff, Nat.reduceLT, Nat.reduceMul, ↓reduceIte, reduceCtorEq, g25, pf25, b25]
  refine run_loop' (fun i : Nat => [(0, T.one (.d (.sl (m.map eMp)))), (1, T.one (.d (.sl (R.map eR)))), (5, T.int .i64 i)]) (fun i => i ≤ R.length ∧ ∀ x ∈ R.take i, mayR m.length x = true) (fun i => R.length - i) 0 rfl ⟨Nat.zero_le _, by simp⟩ (fun i hi => ?_)
  obtain ⟨hi, ht⟩ := hi
  by_cases h1 : (i : Int) < R.length
  · have hi' : i < R.length := by omega
    have hrm := List.getElem_mem hi'
    have hsw := (hR2 R[i] hrm).1
    obtain ⟨r, hr⟩ : ∃ r, r = R[i] := ⟨_, rfl⟩
    rw [← hr] at hsw hrm
    obtain ⟨c, l⟩ := r
    simp only at hsw
    have hsl := hsw.1
    cases hok : okR ⟨c, l⟩ with
    | false =>
      have hb := hbad _ hrm (by simp [mayR, hok])
      simp (maxSteps := 1000000) (disch := first | assumption | ((try simp only [LEN, LEN2]); omega)) only [push_cast, Int.reduceToNat, Int.reduceEq, Int.reduceNe, Int.reduceLT, Int.reduceLE, Int.reduceAdd, Int.reduceSub, Int.reduceMul, Int.reduceNeg, Nat.reduceEqDiff, Nat.reduceBEq, Nat.reduceBNe, Nat.reduceAdd, Nat.reduceLeDiff, Nat.reduceLT, Nat.reduceMul, ↓reduceIte, reduceCtorEq, g25, pf25, b25, h1, eR, ← hr, hok, hb]
    | true =>
      simp (maxSteps := 1000000) (disch := first | assumption | ((try simp only [LEN, LEN2]); omega)) only [push_cast, Int.reduceToNat, Int.reduceEq, Int.reduceNe, Int.reduceLT, Int.reduceLE, Int.reduceAdd, Int.reduceSub, Int.reduceMul, Int.reduceNeg, Nat.reduceEqDiff, Nat.reduceBEq, Nat.reduceBNe, Nat.reduceAdd, Nat.reduceLeDiff, Nat.reduceLT, Nat.reduceMul, ↓reduceIte, reduceCtorEq, g25, pf25, b25, h1, eR, ← hr, hok]
      refine run_loop' (fun k : Nat => [(0, T.one (.d (.sl (m.map eMp)))), (1, T.one (.d (.sl (R.map eR)))), (5, T.int .i64 i), (6, T.int .i64 k)]) (fun k => k ≤ l.length ∧ ∀ x ∈ l.take k, x.Table < m.length) (fun k => l.length - k) 0 rfl ⟨Nat.zero_le _, by simp⟩ (fun k hk => ?_)
      obtain ⟨hk, htk⟩ := hk
      by_cases h2 : (k : Int) < l.length
      · have hk' : k < l.length := by omega
        by_cases h3 : (m.length : Int) ≤ l[k].Table
        · have hb := hbad _ hrm (by
            simp only [mayR, Bool.and_eq_false_iff]
            right
            rw [← Bool.not_eq_true, List.all_eq_true]
            intro hh
            have := of_decide_eq_true (hh _ (List.getElem_mem hk'))
            omega)
          simp (maxSteps := 1000000) (disch := first | assumption | ((try simp only [LEN, LEN2]); omega)) only [push_cast, Int.reduceToNat, Int.reduceEq, Int.reduceNe, Int.reduceLT, Int.reduceLE, Int.reduceAdd, Int.reduceSub, Int.reduceMul, Int.reduceNeg, Nat.reduceEqDiff, Nat.reduceBEq, Nat.reduceBNe, Nat.reduceAdd, Nat.reduceLeDiff, Nat.reduceLT, Nat.reduceMul, ↓reduceIte, reduceCtorEq, g25, pf25, b25, h2, h3, eR, ← hr, eW, hb]
        · simp (maxSteps := 1000000) (disch := first | assumption | ((try simp only [LEN, LEN2]); omega)) only [push_cast, Int.reduceToNat, Int.reduceEq, Int.reduceNe, Int.reduceLT, Int.reduceLE, Int.reduceAdd, Int.reduceSub, Int.reduceMul, Int.reduceNeg, Nat.reduceEqDiff, Nat.reduceBEq, Nat.reduceBNe, Nat.reduceAdd, Nat.reduceLeDiff, Nat.reduceLT, Nat.reduceMul, ↓reduceIte, reduceCtorEq, g25, pf25, b25, h2, h3, eR, ← hr, eW]
          refine ⟨k + 1, rfl, ⟨by omega, fun x hx => ?_⟩, by omega⟩
          rw [List.take_succ_eq_append_getElem hk', List.mem_append, List.mem_singleton] at hx
          rcases hx with hx | rfl
          · exact htk x hx
          · omega
      · simp (maxSteps := 1000000) (disch := first | assumption | ((try simp only [LEN, LEN2]); omega)) only [push_cast, Int.reduceToNat, Int.reduceEq, Int.reduceNe, Int.reduceLT, Int.reduceLE, Int.reduceAdd, Int.reduceSub, Int.reduceMul, Int.reduceNeg, Nat.reduceEqDiff, Nat.reduceBEq, Nat.reduceBNe, Nat.reduceAdd, Nat.reduceLeDiff, Nat.reduceLT, Nat.reduceMul, ↓reduceIte, reduceCtorEq, g25, pf25, b25, h2, eR, ← hr]
        refine ⟨i + 1, rfl, ⟨by omega, fun x hx => ?_⟩, by omega⟩
        rw [List.take_succ_eq_append_getElem hi', List.mem_append, List.mem_singleton, ← hr] at hx
        rcases hx with hx | rfl
        · exact ht x hx
        · obtain rfl : k = l.length := by omega
          rw [List.take_length] at htk
          simp only [mayR, hok, Bool.true_and, List.all_eq_true, decide_eq_true_eq]
          exact htk
  · obtain rfl : i = R.length := by omega
    rw [List.take_length] at ht
    have e : R.all (mayR m.length) = true := List.all_eq_true.2 ht
    simp (maxSteps := 1000000) (disch := first | assumption | ((try simp only [LEN, LEN2]); omega)) only [push_cast, Int.reduceToNat, Int.reduceEq, Int.reduceNe, Int.reduceLT, Int.reduceLE, Int.reduceAdd, Int.reduceSub, Int.reduceMul, Int.reduceNeg, Nat.reduceEqDiff, Nat.reduceBEq, Nat.reduceBNe, Nat.reduceAdd, Nat.reduceLeDiff, Nat.reduceLT, Nat.reduceMul, ↓reduceIte, reduceCtorEq, g25, pf25, b25, h1, e]
theorem f25c {m : Map} {R : List Record} (hm : smM m) (hR : smR R) {g : VG} {F : Fn} {lk : Bool} {e : Env} {dst : Option Nat} {ops : List Ins} {keep : Option (List Nat)} {K : List Fr} : CallC G g F 25 [.one (.d (.sl (m.map eMp))), .one (.d (.sl (R.map eR)))] lk e dst ops keep K = ThenL G g F (if lk && !(T.noSl (.bool (R.all (mayR m.length) && okM m))) then none else e.put g.un dst (.bool (R.all (mayR m.length) && okM m))) ops keep K := callC_eq (f25 hm hR)
attribute [push_cast] f25c
end Go.Mir.Tryz

set_option linter.unusedVariables false
set_option linter.unusedSimpArgs false
set_option maxRecDepth 100000
namespace Go.Mir.Tryz
open Go.Proofs Go.Mir.Q
theorem okT_all {S : List (List UInt8)} (hS : S.length = 512) (h32 : all32 S) : okT S [] = true := okT_iff.2 ⟨⟨by omega, by omega, by simp⟩, h32, by simp⟩
theorem fPlay {S S' : List (List UInt8)} {l : List Do} (hS : S.length = 512) (h32 : all32 S) (hl : smDo l) (h : playT ⟨S, []⟩ l = (0, ⟨S', []⟩)) : Fun G 22 [.vs true (cT S []), .int .i64 (-1), .one (.d (.sl (l.map eDo)))] (tErr' 0 ⟨S', []⟩, []) := by
  have hp := f22 (S := S) (W := []) (n := -1) (l := l) (by omega) (by simp) hl
  have e : playP S [] (-1) l = (0, ⟨S', []⟩) := by
    unfold playP
    rw [if_pos ⟨okT_all hS h32, by omega⟩, show upto (-1) l = l from rfl, h]
  rw [e] at hp
  exact hp
theorem smDo_lay {run slot : Int} {m : Map} (hm : okM m = true) (h64 : (image m).length ≤ 64) : smDo (layD run slot m) := by
  have hc := okR_cnt (image_okR hm h64)
  refine ⟨?_, fun d hd => ?_⟩
  · simp only [layD, List.length_append, List.length_cons, putsD_len, cuts_len, List.length_nil]; omega
  · simp only [layD, putsD, List.mem_append, List.mem_cons, List.mem_map, List.not_mem_nil, or_false] at hd
    rcases hd with ⟨p, hp, rfl⟩ | rfl | ⟨p, hp, rfl⟩ | rfl
    · have := cuts_32 _ (putsW_mem hp).2.2; simp only; omega
    · simp [syncD]
    · have := (putsW_mem hp).2.2
      simp only [List.mem_singleton] at this
      simp only [this, super_32]; omega
    · simp [syncD]
theorem fLay {S : List (List UInt8)} {run slot : Int} {m : Map} (hS : S.length = 512) (h32 : all32 S) (hm : okM m = true) (h64 : (image m).length ≤ 64) : Fun G 22 [.vs true (cT S []), .int .i64 (-1), .one (.d (.sl ((layD run slot m).map eDo)))] (tErr' 0 ⟨layS S run slot m, []⟩, []) :=
  fPlay hS h32 (smDo_lay hm h64) (play_lay hS hm h64)
theorem okM_len {m : Map} (hm : okM m = true) : m.length ≤ 3 := by simp only [okM, Bool.and_eq_true, decide_eq_true_eq] at hm; exact hm.1
theorem fOpenT {S : List (List UInt8)} {m m' : Map} {l : List Record} {w : Wal} (hS : S.length = 512) (h32 : all32 S) (hm : okM m = true) (h1 : 1 ≤ m.length) (h : openT S m.length = some (m', l, w)) : Fun G 12 [.vs true (cT S []), .int .i64 m.length] (openR m' l w 0, []) := by
  have h3 := okM_len hm
  have hp := f12 (S := S) (W := []) (tables := m.length) (by omega) (by simp)
  have e : openP S [] m.length = (m', l, w, 0) := by
    unfold openP
    rw [if_pos ⟨okT_all hS h32, hS, rfl, by omega, by omega⟩, Int.toNat_natCast, h]
  rw [e] at hp
  exact hp
theorem fOpen {S : List (List UInt8)} {m : Map} {l : List Record} {w : Wal} (h1 : 1 ≤ m.length) (h : Laid S w m l) : Fun G 12 [.vs true (cT S []), .int .i64 m.length] (openR m l w 0, []) :=
  fOpenT h.len h.a32 h.okm h1 h.open
theorem okM_sm {m : Map} (hm : okM m = true) (h64 : (image m).length ≤ 64) : smM m := by
  simp only [okM, Bool.and_eq_true, decide_eq_true_eq, List.all_eq_true] at hm
  refine ⟨by omega, fun l hl => ?_⟩
  have ho := hm.2 l hl
  simp only [okRows, Bool.and_eq_true, List.all_eq_true] at ho
  refine ⟨?_, fun x hx => ?_⟩
  · have : ∀ (m : Map) (t : Nat), l ∈ m → l.length ≤ (imageF t m).length := by
      intro m
      induction m with
      | nil => intro t h; cases h
      | cons x m ih =>
        intro t h
        simp only [imageF, List.length_append, List.length_map]
        rcases List.mem_cons.1 h with rfl | h
        · omega
        · have := ih (t + 1) h; omega
    have := this m 0 hl
    simp only [image] at h64
    omega
  · have := ho.1 x hx
    simp only [okRow, decide_eq_true_eq] at this
    omega
theorem layR_ok {run slot : Int} {m : Map} (hm : okM m = true) (hr : run < 1073741824) (h64 : (image m).length ≤ 64) : layR run slot m = (layD run slot m, ⟨run, slot, 255, 1⟩, 0) := by
  unfold layR; rw [if_neg (by rw [hm]; simp), if_neg (by omega), if_pos h64]
theorem fFormat {m : Map} (hm : okM m = true) (h64 : (image m).length ≤ 64) : Fun G 56 [.one (.d (.sl (m.map eMp)))] (layT (layD 1 0 m) ⟨1, 0, 255, 1⟩ 0, []) := by
  have h := f56 (okM_sm hm h64)
  rw [layR_ok hm (by omega) h64] at h
  exact h
def tape0 : List (List UInt8) := List.replicate 512 zeros
theorem tape0_len : tape0.length = 512 := List.length_replicate
theorem tape0_32 : all32 tape0 := fun s hs => by rw [List.eq_of_mem_replicate hs]; decide
theorem tape0_z : ∀ s ∈ tape0.drop 255, s = zeros := fun s hs => List.eq_of_mem_replicate (List.mem_of_mem_drop hs)
theorem fNew0 : Fun G 7 [.int .i64 512] (.vs true (oT tape0 []), []) := f7 (n := 512) (by omega)
def m0 : Map := [[⟨[97], [118]⟩]]
theorem m0_ok : okM m0 = true := by decide
theorem m0_64 : (image m0).length ≤ 64 := by decide
set_option maxHeartbeats 2000000 in
theorem f20   : Fun G 20 [] (.bool true, []) := by
  refine Fun.of_run (g := g20) (pf := pf20) rfl rfl rfl rfl ?_
  have h1 := fFormat m0_ok m0_64
  have h2 := fNew0
  have h3 := fLay (run := 1) (slot := 0) tape0_len tape0_32 m0_ok m0_64
  have h4 := fOpen (m := m0) (by decide) (Laid.lay (run := 1) (slot := 0) tape0_len tape0_32 (by omega) (by omega) (.inl rfl) m0_ok m0_64 tape0_z)
  have hsm := okM_sm m0_ok m0_64
  have h5 := f17 hsm hsm
  rw [decide_eq_true rfl] at h5
  have ht := Laid.len (Laid.lay (run := 1) (slot := 0) tape0_len tape0_32 (by omega) (by omega) (.inl rfl) m0_ok m0_64 tape0_z)
  have hd := (smDo_lay (run := 1) (slot := 0) m0_ok m0_64).1
  obtain ⟨T', hT⟩ : ∃ T, T = layS tape0 1 0 m0 := ⟨_, rfl⟩
  rw [← hT] at h3 h4 ht
  obtain ⟨L, hL⟩ : ∃ L, L = layD 1 0 m0 := ⟨_, rfl⟩
  rw [← hL] at hd h1 h3
  obtain ⟨Z, hZ⟩ : ∃ Z, Z = tape0 := ⟨_, rfl⟩
  have hz := tape0_len
  rw [← hZ] at hz h2 h3
  clear hT hL hZ hsm
  simp only [push_cast, Int.reduceToNat, Int.reduceEq, Int.reduceNe, Int.reduceLT, Int.reduceLE, Int.reduceAdd, Int.reduceSub, Int.reduceMul, Int.reduceNeg, Nat.reduceEqDiff, Nat.reduceBEq, Nat.reduceBNe, Nat.reduceAdd, Nat.reduceLeDiff, Nat.reduceLT, Nat.reduceMul, ↓reduceIte, reduceCtorEq, cT, oT, tErr', m0, eMp, oMp, eRow, oRow, List.length_cons, List.length_nil] at h1 h2 h3 h4 h5
  simp (maxSteps := 1000000) (disch := first | assumption | ((try simp only [LEN, LEN2]); omega)) only [push_cast, Int.reduceToNat, Int.reduceEq, Int.reduceNe, Int.reduceLT, Int.reduceLE, Int.reduceAdd, Int.reduceSub, Int.reduceMul, Int.reduceNeg, Nat.reduceEqDiff, Nat.reduceBEq, Nat.reduceBNe, Nat.reduceAdd, Nat.reduceLeDiff, Nat.reduceLT, Nat.reduceMul, ↓reduceIte, reduceCtorEq, g20, pf20, b20, eRow, oRow, eMp, oMp, callC_eq h1, callT_eq h1, callC_eq h2, callT_eq h2, callC_eq h3, callT_eq h3, callC_eq h4, callT_eq h4, callC_eq h5, callT_eq h5]
theorem f20c   {g : VG} {F : Fn} {lk : Bool} {e : Env} {dst : Option Nat} {ops : List Ins} {keep : Option (List Nat)} {K : List Fr} : CallC G g F 20 [] lk e dst ops keep K = ThenL G g F (if lk && !(T.noSl (.bool true)) then none else e.put g.un dst (.bool true)) ops keep K := callC_eq (f20 )
attribute [push_cast] f20c
end Go.Mir.Tryz

set_option linter.unusedVariables false
set_option linter.unusedSimpArgs false
set_option maxRecDepth 100000
namespace Go.Mir.Tryz
open Go.Proofs Go.Mir.Q
theorem secP (run n : Int) (i : Nat) (b : Bool) (p : List UInt8) : be 4 run ++ be 4 n ++ be 2 i ++ be 1 (if b = true then 1 else 0) ++ be 1 p.length ++ p ++ List.replicate (20 - p.length) 0 = sec run n i b p := by
  have e1 : byt 1 = 1 := by decide
  have e0 : byt 0 = 0 := by decide
  cases b <;> simp [sec, be, e1, e0]
set_option maxHeartbeats 2000000 in
theorem f76 {n run num' : Int} {l : List Write} (hs : smW l) (hr : okR ⟨n, l⟩ = true) : Fun G 76 [.vs true [.d (.sc (.int .i64 n)), .d (.sl (l.map eW))], .int .i64 run, .int .i64 num'] (.one (.own 9 ((cuts run num' (spelt ⟨n, l⟩)).map oS)), []) := by
  refine Fun.of_run (g := g76) (pf := pf76) rfl rfl rfl rfl ?_
  have h64 : l.length ≤ 64 := by simp [okR] at hr; omega
  obtain ⟨s, hsd⟩ : ∃ s, spelt ⟨n, l⟩ = s := ⟨_, rfl⟩
  obtain ⟨hl1, hl2⟩ := okR_len hr
  obtain ⟨hc1, hc2⟩ := cnt_pos hr
  have hB := f107 (n := n) hs h64
  rw [hsd] at hl1 hl2 hc1 hc2 hB ⊢
  simp (maxSteps := 1000000) (disch := first | assumption | ((try simp only [LEN, LEN2]); omega)) only [push_cast, Int.reduceToNat, Int.reduceEq, Int.reduceNe, Int.reduceLT, Int.reduceLE, Int.reduceAdd, Int.reduceSub, Int.reduceMul, Int.reduceNeg, Nat.reduceEqDiff, Nat.reduceBEq, Nat.reduceBNe, Nat.reduceAdd, Nat.reduceLeDiff, Nat.reduceLT, Nat.reduceMul, ↓reduceIte, reduceCtorEq, g76, pf76, b76, callC_eq hB, callT_eq hB]
  refine run_loop' (fun i : Nat => [(1, T.int .i64 run), (2, T.int .i64 num'), (7, T.str (bs (s.drop (20 * i)))), (8, T.one (.own 9 ((cutK run num' s i).map oS))), (9, T.int .i64 i)]) (fun i => i < cnt s) (fun i => cnt s - i) 0 rfl hc1 (fun i h => ?_)
  have hkl : (cutK run num' s i).length = i := by simp [cutK]
  have hdr : (s.drop (20 * i)).drop (piece s i).length = s.drop (20 * (i + 1)) := by
    rw [List.drop_drop, piece, List.length_take, List.length_drop]
    by_cases h2 : 20 ≤ s.length - 20 * i
    · rw [Nat.min_eq_left h2]; rfl
    · rw [List.drop_of_length_le (by omega), List.drop_of_length_le (by omega)]
  have hb : (((piece s i).length : Int) = (s.drop (20 * i)).length) = (i + 1 = cnt s) := by
    apply propext
    unfold cnt at *
    simp only [piece, List.length_take, List.length_drop]
    omega
  have hm : (if ((s.drop (20 * i)).length : Int) < 20 then ((s.drop (20 * i)).length : Int) else 20) = (piece s i).length := by
    simp only [piece, List.length_take]
    split <;> omega
  have hp := piece_len s i
  have htk : (s.drop (20 * i)).take (piece s i).length = piece s i := by
    simp only [piece, List.length_take]
    by_cases h2 : 20 ≤ (s.drop (20 * i)).length
    · rw [Nat.min_eq_left h2]
    · rw [Nat.min_eq_right (by omega), List.take_of_length_le (Nat.le_refl _), List.take_of_length_le (by omega)]
  have hpd : (piece s i).length ≤ (s.drop (20 * i)).length := by simp only [piece, List.length_take]; omega
  have hdl : (s.drop (20 * i)).length ≤ 3000 := by rw [List.length_drop]; omega
  have hz := f30 (n := 20 - (piece s i).length) (by omega)
  have ez' : ((20 - (piece s i).length : Nat) : Int) = 20 - ((piece s i).length : Int) := by omega
  rw [ez'] at hz
  have hcs := cutK_succ run num' s i
  have hsec := fun b => secP run num' i b (piece s i)
  obtain ⟨d, hd⟩ : ∃ d, s.drop (20 * i) = d := ⟨_, rfl⟩
  obtain ⟨p, hpp⟩ : ∃ p, piece s i = p := ⟨_, rfl⟩
  rw [hd, hpp] at hdr hb hm htk hpd
  rw [hd] at hdl ⊢
  rw [hpp] at hp hz hcs hsec
  have hl4 : (be 4 run).length = 4 := be_length _ _
  have hX : ∀ f : Int, 32 - ((be 4 run ++ be 4 num' ++ be 2 ↑i ++ be 1 f ++ be 1 ↑p.length ++ p).length : Int) = 20 - (p.length : Int) := fun f => by
    simp only [List.length_append, be_length]; omega
  have hdl2 : (s.drop (20 * (i + 1))).length ≤ 3000 := by rw [List.length_drop]; omega
  by_cases hl : i + 1 = cnt s
  · have hsec := hsec true
    rw [if_pos rfl] at hsec
    have hcs : cutK run num' s i ++ [sec run num' i true p] = cuts run num' s := by rw [cuts, ← hl, hcs, hl, decide_eq_true rfl]
    have hX := hX 1
    simp (maxSteps := 1000000) (disch := first | assumption | ((try simp only [LEN, LEN2]); omega)) only [push_cast, Int.reduceToNat, Int.reduceEq, Int.reduceNe, Int.reduceLT, Int.reduceLE, Int.reduceAdd, Int.reduceSub, Int.reduceMul, Int.reduceNeg, Nat.reduceEqDiff, Nat.reduceBEq, Nat.reduceBNe, Nat.reduceAdd, Nat.reduceLeDiff, Nat.reduceLT, Nat.reduceMul, ↓reduceIte, reduceCtorEq, g76, pf76, b76, hm, hb, hl, htk, hX, callC_eq hz, callT_eq hz, foldS1, hsec, hcs, hdr]
    done
  · have hsec := hsec false
    rw [if_neg (by simp)] at hsec
    have hcs : cutK run num' s i ++ [sec run num' i false p] = cutK run num' s (i + 1) := by rw [hcs, decide_eq_false hl]
    have hX := hX 0
    simp (maxSteps := 1000000) (disch := first | assumption | ((try simp only [LEN, LEN2]); omega)) only [push_cast, Int.reduceToNat, Int.reduceEq, Int.reduceNe, Int.reduceLT, Int.reduceLE, Int.reduceAdd, Int.reduceSub, Int.reduceMul, Int.reduceNeg, Nat.reduceEqDiff, Nat.reduceBEq, Nat.reduceBNe, Nat.reduceAdd, Nat.reduceLeDiff, Nat.reduceLT, Nat.reduceMul, ↓reduceIte, reduceCtorEq, g76, pf76, b76, hm, hb, hl, htk, hX, callC_eq hz, callT_eq hz, foldS1, hsec, hcs, hdr]
    exact ⟨i + 1, by simp [hdr], by omega, by omega⟩
theorem f76c {n run num' : Int} {l : List Write} (hs : smW l) (hr : okR ⟨n, l⟩ = true) {g : VG} {F : Fn} {lk : Bool} {e : Env} {dst : Option Nat} {ops : List Ins} {keep : Option (List Nat)} {K : List Fr} : CallC G g F 76 [.vs true [.d (.sc (.int .i64 n)), .d (.sl (l.map eW))], .int .i64 run, .int .i64 num'] lk e dst ops keep K = ThenL G g F (if lk && !(T.noSl (.one (.own 9 ((cuts run num' (spelt ⟨n, l⟩)).map oS)))) then none else e.put g.un dst (.one (.own 9 ((cuts run num' (spelt ⟨n, l⟩)).map oS)))) ops keep K := callC_eq (f76 hs hr)
attribute [push_cast] f76c
set_option maxHeartbeats 2000000 in
theorem f47 {run slot : Int} (hs : slot = 0 ∨ slot = 1) : Fun G 47 [.int .i64 run, .int .i64 slot] (.str (bs (superS run slot)), []) := by
  refine Fun.of_run (g := g47) (pf := pf47) rfl rfl rfl rfl ?_
  have h := f76 (n := slot + 1) (run := 0) (num' := run) (l := []) ⟨by simp, by simp⟩ (okR_super hs)
  rw [cuts_super] at h
  simp only [push_cast, Int.reduceToNat, Int.reduceEq, Int.reduceNe, Int.reduceLT, Int.reduceLE, Int.reduceAdd, Int.reduceSub, Int.reduceMul, Int.reduceNeg, Nat.reduceEqDiff, Nat.reduceBEq, Nat.reduceBNe, Nat.reduceAdd, Nat.reduceLeDiff, Nat.reduceLT, Nat.reduceMul, ↓reduceIte, reduceCtorEq] at h
  rcases hs with rfl | rfl <;> simp only [push_cast, Int.reduceToNat, Int.reduceEq, Int.reduceNe, Int.reduceLT, Int.reduceLE, Int.reduceAdd, Int.reduceSub, Int.reduceMul, Int.reduceNeg, Nat.reduceEqDiff, Nat.reduceBEq, Nat.reduceBNe, Nat.reduceAdd, Nat.reduceLeDiff, Nat.reduceLT, Nat.reduceMul, ↓reduceIte, reduceCtorEq, oS] at h <;> simp (maxSteps := 1000000) (disch := first | assumption | ((try simp only [LEN, LEN2]); omega)) only [push_cast, Int.reduceToNat, Int.reduceEq, Int.reduceNe, Int.reduceLT, Int.reduceLE, Int.reduceAdd, Int.reduceSub, Int.reduceMul, Int.reduceNeg, Nat.reduceEqDiff, Nat.reduceBEq, Nat.reduceBNe, Nat.reduceAdd, Nat.reduceLeDiff, Nat.reduceLT, Nat.reduceMul, ↓reduceIte, reduceCtorEq, g47, pf47, b47, callC_eq h, callT_eq h, oS]
theorem f47c {run slot : Int} (hs : slot = 0 ∨ slot = 1) {g : VG} {F : Fn} {lk : Bool} {e : Env} {dst : Option Nat} {ops : List Ins} {keep : Option (List Nat)} {K : List Fr} : CallC G g F 47 [.int .i64 run, .int .i64 slot] lk e dst ops keep K = ThenL G g F (if lk && !(T.noSl (.str (bs (superS run slot)))) then none else e.put g.un dst (.str (bs (superS run slot)))) ops keep K := callC_eq (f47 hs)
attribute [push_cast] f47c
set_option maxHeartbeats 2000000 in
theorem f48 {s : Int} (hs : s = 0 ∨ s = 1) : Fun G 48 [.int .i64 s] (.int .i64 (startS s), []) := by
  refine Fun.of_run (g := g48) (pf := pf48) rfl rfl rfl rfl ?_
  rcases hs with rfl | rfl <;> simp (maxSteps := 1000000) (disch := first | assumption | ((try simp only [LEN, LEN2]); omega)) only [push_cast, Int.reduceToNat, Int.reduceEq, Int.reduceNe, Int.reduceLT, Int.reduceLE, Int.reduceAdd, Int.reduceSub, Int.reduceMul, Int.reduceNeg, Nat.reduceEqDiff, Nat.reduceBEq, Nat.reduceBNe, Nat.reduceAdd, Nat.reduceLeDiff, Nat.reduceLT, Nat.reduceMul, ↓reduceIte, reduceCtorEq, g48, pf48, b48] <;> rfl
theorem f48c {s : Int} (hs : s = 0 ∨ s = 1) {g : VG} {F : Fn} {lk : Bool} {e : Env} {dst : Option Nat} {ops : List Ins} {keep : Option (List Nat)} {K : List Fr} : CallC G g F 48 [.int .i64 s] lk e dst ops keep K = ThenL G g F (if lk && !(T.noSl (.int .i64 (startS s))) then none else e.put g.un dst (.int .i64 (startS s))) ops keep K := callC_eq (f48 hs)
attribute [push_cast] f48c
set_option maxHeartbeats 2000000 in
theorem f77 {a : Nat} {S : List (List UInt8)} (hS : S.length ≤ 1000000) (ha : a ≤ 1000000) : Fun G 77 [.int .i64 a, .one (.d (.sl (S.map eS)))] (.one (.own 74 ((putsD a S).map oDo)), []) := by
  refine Fun.of_run (g := g77) (pf := pf77) rfl rfl rfl rfl ?_
  simp (maxSteps := 1000000) (disch := first | assumption | ((try simp only [LEN, LEN2]); omega)) only [push_cast, Int.reduceToNat, Int.reduceEq, Int.reduceNe, Int.reduceLT, Int.reduceLE, Int.reduceAdd, Int.reduceSub, Int.reduceMul, Int.reduceNeg, Nat.reduceEqDiff, Nat.reduceBEq, Nat.reduceBNe, Nat.reduceAdd, Nat.reduceLeDiff, Nat.reduceLT, Nat.reduceMul, ↓reduceIte, reduceCtorEq, g77, pf77, b77]
  refine run_loop' (fun i : Nat => [(0, T.int .i64 a), (1, T.one (.d (.sl (S.map eS)))), (5, T.one (.own 74 ((putsD a (S.take i)).map oDo))), (6, T.int .i64 i)]) (fun i => i ≤ S.length) (fun i => S.length - i) 0 (by simp [putsD, putsW]) (Nat.zero_le _) (fun i hi => ?_)
  have hpl := putsD_len (S.take i) a
  rw [List.length_take, Nat.min_eq_left hi] at hpl
  by_cases h : (i : Int) < S.length
  · have hi' : i < S.length := by omega
    simp (maxSteps := 1000000) (disch := first | assumption | ((try simp only [LEN, LEN2]); omega)) only [push_cast, Int.reduceToNat, Int.reduceEq, Int.reduceNe, Int.reduceLT, Int.reduceLE, Int.reduceAdd, Int.reduceSub, Int.reduceMul, Int.reduceNeg, Nat.reduceEqDiff, Nat.reduceBEq, Nat.reduceBNe, Nat.reduceAdd, Nat.reduceLeDiff, Nat.reduceLT, Nat.reduceMul, ↓reduceIte, reduceCtorEq, g77, pf77, b77, h, eS]
    refine ⟨i + 1, ?_, by omega, by omega⟩
    rw [List.take_succ_eq_append_getElem hi', putsD_snoc, List.length_take, Nat.min_eq_left hi]
    simp only [List.map_append, List.map_cons, List.map_nil, oDo, List.append_assoc, Int.natCast_add, Int.cast_ofNat_Int]
  · obtain rfl : i = S.length := by omega
    simp (maxSteps := 1000000) (disch := first | assumption | ((try simp only [LEN, LEN2]); omega)) only [push_cast, Int.reduceToNat, Int.reduceEq, Int.reduceNe, Int.reduceLT, Int.reduceLE, Int.reduceAdd, Int.reduceSub, Int.reduceMul, Int.reduceNeg, Nat.reduceEqDiff, Nat.reduceBEq, Nat.reduceBNe, Nat.reduceAdd, Nat.reduceLeDiff, Nat.reduceLT, Nat.reduceMul, ↓reduceIte, reduceCtorEq, g77, pf77, b77, h]
    simp
theorem f77c {a : Nat} {S : List (List UInt8)} (hS : S.length ≤ 1000000) (ha : a ≤ 1000000) {g : VG} {F : Fn} {lk : Bool} {e : Env} {dst : Option Nat} {ops : List Ins} {keep : Option (List Nat)} {K : List Fr} : CallC G g F 77 [.int .i64 a, .one (.d (.sl (S.map eS)))] lk e dst ops keep K = ThenL G g F (if lk && !(T.noSl (.one (.own 74 ((putsD a S).map oDo)))) then none else e.put g.un dst (.one (.own 74 ((putsD a S).map oDo)))) ops keep K := callC_eq (f77 hS ha)
attribute [push_cast] f77c
end Go.Mir.Tryz

set_option linter.unusedVariables false
set_option linter.unusedSimpArgs false
set_option maxRecDepth 100000
namespace Go.Mir.Tryz
open Go.Proofs Go.Mir.Q
set_option maxHeartbeats 4000000 in
set_option maxHeartbeats 2000000 in
theorem f49 {run nn : Int} {L : List (List UInt8)} (hL : L.length ≤ 4000000) : Fun G 49 [.one (.d (.sl (L.map eS))), .int .i64 run, .int .i64 nn] (.tup [(true, [.d (.sc (.int .i64 (one1 run nn L).1.Commit)), .own 78 ((one1 run nn L).1.Writes.map oW)]), (false, [.d (.sc (.int .i64 (one1 run nn L).2))])], []) := by
  refine Fun.of_run (g := g49) (pf := pf49) rfl rfl rfl rfl ?_
  simp (maxSteps := 1000000) (disch := first | assumption | ((try simp only [LEN, LEN2]); omega)) only [push_cast, Int.reduceToNat, Int.reduceEq, Int.reduceNe, Int.reduceLT, Int.reduceLE, Int.reduceAdd, Int.reduceSub, Int.reduceMul, Int.reduceNeg, Nat.reduceEqDiff, Nat.reduceBEq, Nat.reduceBNe, Nat.reduceAdd, Nat.reduceLeDiff, Nat.reduceLT, Nat.reduceMul, ↓reduceIte, reduceCtorEq, g49, pf49, b49]
  obtain ⟨W, hW⟩ : ∃ W, one1 run nn L = W := ⟨_, rfl⟩
  rw [hW]
  refine run_loop' (fun x : Nat × List UInt8 => [(0, T.one (.d (.sl (L.map eS)))), (1, T.int .i64 run), (2, T.int .i64 nn), (6, T.one (.box [.d (.sc (.int .i64 0)), .own 78 []])), (8, T.str (bs x.2)), (9, T.int .i64 x.1)])
    (fun x => x.1 ≤ L.length ∧ x.2.length ≤ 20 * x.1 ∧ W = one run nn L (L.drop x.1) x.1 x.2) (fun x => L.length - x.1) (0, []) rfl ⟨Nat.zero_le _, by simp, hW.symm⟩ (fun ⟨i, b⟩ hi => ?_)
  obtain ⟨hi, hb, hw⟩ := hi
  simp only at hi hb hw
  by_cases h : (i : Int) < L.length
  · have hi' : i < L.length := by omega
    rw [List.drop_eq_getElem_cons hi', one] at hw
    obtain ⟨s, hs⟩ : ∃ s, L[i] = s := ⟨_, rfl⟩
    rw [hs] at hw
    by_cases h4 : (i : Int) < 4096
    · by_cases h32 : (s.length : Int) = 32
      · have h32' : s.length = 32 := by omega
        obtain ⟨k, hk⟩ : ∃ k, s[11] = k := ⟨_, rfl⟩
        obtain ⟨z, hz⟩ : ∃ z, s[10] = z := ⟨_, rfl⟩
        have hk' : s[11]?.getD 0 = k := by rw [List.getElem?_eq_getElem (by omega), hk]; rfl
        have hz' : s[10]?.getD 0 = z := by rw [List.getElem?_eq_getElem (by omega), hz]; rfl
        have e1 : (s.take 4).length ≤ 6 := by rw [List.length_take]; omega
        have e2 : ((s.take 8).drop 4).length ≤ 6 := by rw [List.length_drop, List.length_take]; omega
        have e3 : ((s.take 10).drop 8).length ≤ 6 := by rw [List.length_drop, List.length_take]; omega
        by_cases a1 : num (s.take 4) = run
        · by_cases a2 : num ((s.take 8).drop 4) = nn
          · by_cases a3 : num ((s.take 10).drop 8) = i
            · by_cases a4 : (1 : Int) < z.toNat
              · rw [if_neg (fun hh => hh.2.2.2.2.2.1 (by rw [hz']; exact a4))] at hw
                simp (maxSteps := 1000000) (disch := first | assumption | ((try simp only [LEN, LEN2]); omega)) only [push_cast, Int.reduceToNat, Int.reduceEq, Int.reduceNe, Int.reduceLT, Int.reduceLE, Int.reduceAdd, Int.reduceSub, Int.reduceMul, Int.reduceNeg, Nat.reduceEqDiff, Nat.reduceBEq, Nat.reduceBNe, Nat.reduceAdd, Nat.reduceLeDiff, Nat.reduceLT, Nat.reduceMul, ↓reduceIte, reduceCtorEq, g49, pf49, b49, h, h4, eS, hs, h32, a1, a2, a3, hz, a4, hw]
              · by_cases a5 : (20 : Int) < k.toNat
                · rw [if_neg (fun hh => hh.2.2.2.2.2.2 (by rw [hk']; exact a5))] at hw
                  simp (maxSteps := 1000000) (disch := first | assumption | ((try simp only [LEN, LEN2]); omega)) only [push_cast, Int.reduceToNat, Int.reduceEq, Int.reduceNe, Int.reduceLT, Int.reduceLE, Int.reduceAdd, Int.reduceSub, Int.reduceMul, Int.reduceNeg, Nat.reduceEqDiff, Nat.reduceBEq, Nat.reduceBNe, Nat.reduceAdd, Nat.reduceLeDiff, Nat.reduceLT, Nat.reduceMul, ↓reduceIte, reduceCtorEq, g49, pf49, b49, h, h4, eS, hs, h32, a1, a2, a3, hz, a4, hk, a5, hw]
                · rw [if_pos ⟨by omega, h32', a1, a2, a3, by rw [hz']; exact a4, by rw [hk']; exact a5⟩] at hw
                  rw [hz'] at hw
                  have hk20 : (12 + (k.toNat : Int)).toNat = 12 + k.toNat := by omega
                  obtain ⟨p, hp⟩ : ∃ p, body1 s = p := ⟨_, rfl⟩
                  have hp2 : (s.take (12 + k.toNat)).drop 12 = p := by rw [← hp, body1, hk']
                  have hpl : p.length ≤ 20 := by rw [← hp2, List.length_drop, List.length_take]; omega
                  rw [hp] at hw
                  by_cases h0 : z = 1
                  · rw [if_pos h0] at hw
                    have hz0 : ((z.toNat : Int) = 1) = True := by subst h0; simp
                    have hbl : (b ++ p).length ≤ 1048576 := by rw [List.length_append]; omega
                    cases ht : take (b ++ p) with
                    | none =>
                      rw [ht] at hw
                      simp (maxSteps := 1000000) (disch := first | assumption | ((try simp only [LEN, LEN2]); omega)) only [push_cast, Int.reduceToNat, Int.reduceEq, Int.reduceNe, Int.reduceLT, Int.reduceLE, Int.reduceAdd, Int.reduceSub, Int.reduceMul, Int.reduceNeg, Nat.reduceEqDiff, Nat.reduceBEq, Nat.reduceBNe, Nat.reduceAdd, Nat.reduceLeDiff, Nat.reduceLT, Nat.reduceMul, ↓reduceIte, reduceCtorEq, g49, pf49, b49, h, h4, eS, hs, h32, a1, a2, a3, hz, a4, hk, a5, hz0, hk20, hp2, ht, hw]
                    | some r =>
                      rw [ht] at hw
                      simp only at hw
                      have hr := take_ok ht
                      have hws := okR_smW hr
                      have hcl : (cuts run nn (spelt r)).length ≤ 1000000000 := by have := (cnt_pos hr).2; rw [cuts_len]; omega
                      have htl : (L.take (i + 1)).length ≤ 1000000000 := by rw [List.length_take]; omega
                      have ei : ((i : Int) + 1).toNat = i + 1 := by omega
                      obtain ⟨c, ws⟩ := r
                      simp only at hws
                      by_cases hc : cuts run nn (spelt ⟨c, ws⟩) = L.take (i + 1)
                      · rw [if_pos hc] at hw
                        simp (maxSteps := 1000000) (disch := first | assumption | ((try simp only [LEN, LEN2]); omega)) only [push_cast, Int.reduceToNat, Int.reduceEq, Int.reduceNe, Int.reduceLT, Int.reduceLE, Int.reduceAdd, Int.reduceSub, Int.reduceMul, Int.reduceNeg, Nat.reduceEqDiff, Nat.reduceBEq, Nat.reduceBNe, Nat.reduceAdd, Nat.reduceLeDiff, Nat.reduceLT, Nat.reduceMul, ↓reduceIte, reduceCtorEq, g49, pf49, b49, h, h4, hs, h32, a1, a2, a3, hz, a4, hk, a5, hz0, hk20, hp2, ht, hw, rc, eS, ei, hc]
                        done
                      · rw [if_neg hc] at hw
                        simp (maxSteps := 1000000) (disch := first | assumption | ((try simp only [LEN, LEN2]); omega)) only [push_cast, Int.reduceToNat, Int.reduceEq, Int.reduceNe, Int.reduceLT, Int.reduceLE, Int.reduceAdd, Int.reduceSub, Int.reduceMul, Int.reduceNeg, Nat.reduceEqDiff, Nat.reduceBEq, Nat.reduceBNe, Nat.reduceAdd, Nat.reduceLeDiff, Nat.reduceLT, Nat.reduceMul, ↓reduceIte, reduceCtorEq, g49, pf49, b49, h, h4, hs, h32, a1, a2, a3, hz, a4, hk, a5, hz0, hk20, hp2, ht, hw, rc, eS, ei, hc]
                        done
                  · rw [if_neg h0] at hw
                    have hz0 : ((z.toNat : Int) = 1) = False := by
                      simp only [eq_iff_iff, iff_false]
                      intro hz0
                      exact h0 (UInt8.toNat_inj.1 (by show z.toNat = 1; omega))
                    simp (maxSteps := 1000000) (disch := first | assumption | ((try simp only [LEN, LEN2]); omega)) only [push_cast, Int.reduceToNat, Int.reduceEq, Int.reduceNe, Int.reduceLT, Int.reduceLE, Int.reduceAdd, Int.reduceSub, Int.reduceMul, Int.reduceNeg, Nat.reduceEqDiff, Nat.reduceBEq, Nat.reduceBNe, Nat.reduceAdd, Nat.reduceLeDiff, Nat.reduceLT, Nat.reduceMul, ↓reduceIte, reduceCtorEq, g49, pf49, b49, h, h4, eS, hs, h32, a1, a2, a3, hz, a4, hk, a5, hz0, hk20, hp2]
                    exact ⟨(i + 1, b ++ p), rfl, ⟨by simp only; omega, by simp only [List.length_append]; omega, hw⟩, by simp only; omega⟩
            · rw [if_neg (fun hh => a3 hh.2.2.2.2.1)] at hw
              simp (maxSteps := 1000000) (disch := first | assumption | ((try simp only [LEN, LEN2]); omega)) only [push_cast, Int.reduceToNat, Int.reduceEq, Int.reduceNe, Int.reduceLT, Int.reduceLE, Int.reduceAdd, Int.reduceSub, Int.reduceMul, Int.reduceNeg, Nat.reduceEqDiff, Nat.reduceBEq, Nat.reduceBNe, Nat.reduceAdd, Nat.reduceLeDiff, Nat.reduceLT, Nat.reduceMul, ↓reduceIte, reduceCtorEq, g49, pf49, b49, h, h4, eS, hs, h32, a1, a2, a3, hw]
          · rw [if_neg (fun hh => a2 hh.2.2.2.1)] at hw
            simp (maxSteps := 1000000) (disch := first | assumption | ((try simp only [LEN, LEN2]); omega)) only [push_cast, Int.reduceToNat, Int.reduceEq, Int.reduceNe, Int.reduceLT, Int.reduceLE, Int.reduceAdd, Int.reduceSub, Int.reduceMul, Int.reduceNeg, Nat.reduceEqDiff, Nat.reduceBEq, Nat.reduceBNe, Nat.reduceAdd, Nat.reduceLeDiff, Nat.reduceLT, Nat.reduceMul, ↓reduceIte, reduceCtorEq, g49, pf49, b49, h, h4, eS, hs, h32, a1, a2, hw]
        · rw [if_neg (fun hh => a1 hh.2.2.1)] at hw
          simp (maxSteps := 1000000) (disch := first | assumption | ((try simp only [LEN, LEN2]); omega)) only [push_cast, Int.reduceToNat, Int.reduceEq, Int.reduceNe, Int.reduceLT, Int.reduceLE, Int.reduceAdd, Int.reduceSub, Int.reduceMul, Int.reduceNeg, Nat.reduceEqDiff, Nat.reduceBEq, Nat.reduceBNe, Nat.reduceAdd, Nat.reduceLeDiff, Nat.reduceLT, Nat.reduceMul, ↓reduceIte, reduceCtorEq, g49, pf49, b49, h, h4, eS, hs, h32, a1, hw]
      · rw [if_neg (fun hh => h32 (by have := hh.2.1; omega))] at hw
        simp (maxSteps := 1000000) (disch := first | assumption | ((try simp only [LEN, LEN2]); omega)) only [push_cast, Int.reduceToNat, Int.reduceEq, Int.reduceNe, Int.reduceLT, Int.reduceLE, Int.reduceAdd, Int.reduceSub, Int.reduceMul, Int.reduceNeg, Nat.reduceEqDiff, Nat.reduceBEq, Nat.reduceBNe, Nat.reduceAdd, Nat.reduceLeDiff, Nat.reduceLT, Nat.reduceMul, ↓reduceIte, reduceCtorEq, g49, pf49, b49, h, h4, eS, hs, h32, hw]
    · rw [if_neg (by omega)] at hw
      simp (maxSteps := 1000000) (disch := first | assumption | ((try simp only [LEN, LEN2]); omega)) only [push_cast, Int.reduceToNat, Int.reduceEq, Int.reduceNe, Int.reduceLT, Int.reduceLE, Int.reduceAdd, Int.reduceSub, Int.reduceMul, Int.reduceNeg, Nat.reduceEqDiff, Nat.reduceBEq, Nat.reduceBNe, Nat.reduceAdd, Nat.reduceLeDiff, Nat.reduceLT, Nat.reduceMul, ↓reduceIte, reduceCtorEq, g49, pf49, b49, h, h4, hw]
  · obtain rfl : i = L.length := by omega
    rw [List.drop_length, one] at hw
    simp (maxSteps := 1000000) (disch := first | assumption | ((try simp only [LEN, LEN2]); omega)) only [push_cast, Int.reduceToNat, Int.reduceEq, Int.reduceNe, Int.reduceLT, Int.reduceLE, Int.reduceAdd, Int.reduceSub, Int.reduceMul, Int.reduceNeg, Nat.reduceEqDiff, Nat.reduceBEq, Nat.reduceBNe, Nat.reduceAdd, Nat.reduceLeDiff, Nat.reduceLT, Nat.reduceMul, ↓reduceIte, reduceCtorEq, g49, pf49, b49, h, hw]
theorem f49c {run nn : Int} {L : List (List UInt8)} (hL : L.length ≤ 4000000) {g : VG} {F : Fn} {lk : Bool} {e : Env} {dst : Option Nat} {ops : List Ins} {keep : Option (List Nat)} {K : List Fr} : CallC G g F 49 [.one (.d (.sl (L.map eS))), .int .i64 run, .int .i64 nn] lk e dst ops keep K = ThenL G g F (if lk && !(T.noSl (.tup [(true, [.d (.sc (.int .i64 (one1 run nn L).1.Commit)), .own 78 ((one1 run nn L).1.Writes.map oW)]), (false, [.d (.sc (.int .i64 (one1 run nn L).2))])])) then none else e.put g.un dst (.tup [(true, [.d (.sc (.int .i64 (one1 run nn L).1.Commit)), .own 78 ((one1 run nn L).1.Writes.map oW)]), (false, [.d (.sc (.int .i64 (one1 run nn L).2))])])) ops keep K := callC_eq (f49 hL)
attribute [push_cast] f49c
theorem f49t {run nn : Int} {L : List (List UInt8)} (hL : L.length ≤ 4000000) {g : VG} {F : Fn} {lk : Bool} {ags : List Arg} {e0 e1 : Env} {dst : Option Nat} {ops : List Ins} {keep : Option (List Nat)} {K : List Fr} : CallT G g F 49 [.one (.d (.sl (L.map eS))), .int .i64 run, .int .i64 nn] lk ags e0 e1 dst ops keep K = RetT G g F (.tup [(true, [.d (.sc (.int .i64 (one1 run nn L).1.Commit)), .own 78 ((one1 run nn L).1.Writes.map oW)]), (false, [.d (.sc (.int .i64 (one1 run nn L).2))])]) [] lk ags e0 e1 dst ops keep K := callT_eq (f49 hL)
attribute [push_cast] f49t
set_option maxHeartbeats 2000000 in
theorem f51 {run n0 : Int} {L : List (List UInt8)} (hL : L.length ≤ 4000000) (h0 : 0 ≤ run) (h1 : run < 4294967296) (hn0 : 0 ≤ n0) (hn1 : n0 ≤ 1073741824) : Fun G 51 [.one (.d (.sl (L.map eS))), .int .i64 run, .int .i64 n0] (.tup [(false, [.own 70 ((rd run n0 L).1.map oR)]), (false, [.d (.sc (.int .i64 (rd run n0 L).2))])], []) := by
  refine Fun.of_run (g := g51) (pf := pf51) rfl rfl rfl rfl ?_
  simp (maxSteps := 1000000) (disch := first | assumption | ((try simp only [LEN, LEN2]); omega)) only [push_cast, Int.reduceToNat, Int.reduceEq, Int.reduceNe, Int.reduceLT, Int.reduceLE, Int.reduceAdd, Int.reduceSub, Int.reduceMul, Int.reduceNeg, Nat.reduceEqDiff, Nat.reduceBEq, Nat.reduceBNe, Nat.reduceAdd, Nat.reduceLeDiff, Nat.reduceLT, Nat.reduceMul, ↓reduceIte, reduceCtorEq, g51, pf51, b51]
  obtain ⟨W, hW⟩ : ∃ W, rd run n0 L = W := ⟨_, rfl⟩
  rw [hW]
  refine run_loop' (fun x : Nat × Nat × List Record => [(0, T.one (.d (.sl (L.map eS)))), (1, T.int .i64 run), (2, T.int .i64 n0), (8, T.one (.own 70 (x.2.2.map oR))), (9, T.int .i64 x.2.1)])
    (fun x => x.2.1 ≤ L.length ∧ L.length - x.2.1 < x.1 ∧ x.2.2.length ≤ x.2.1 ∧ W = (x.2.2 ++ (runF run L x.1 (n0 + x.2.2.length) x.2.1).1, (runF run L x.1 (n0 + x.2.2.length) x.2.1).2)) (fun x => x.1) (L.length + 1, 0, []) rfl ⟨Nat.zero_le _, by simp only; omega, Nat.zero_le _, by simp only [List.length_nil]; rw [show n0 + ((0 : Nat) : Int) = n0 by omega]; exact hW.symm⟩ (fun ⟨j, m, x⟩ hi => ?_)
  obtain ⟨hm, hj, hx, hw⟩ := hi
  simp only at hm hj hx hw
  obtain ⟨j, rfl⟩ : ∃ k, j = k + 1 := ⟨j - 1, by omega⟩
  rw [runF] at hw
  by_cases h : n0 + (x.length : Int) ≤ 1073741824
  · rw [if_neg (by omega)] at hw
    have hdl : (L.drop m).length ≤ 4000000 := by rw [List.length_drop]; omega
    have hle := whole1_le run (n0 + x.length) (L.drop m)
    rw [List.length_drop] at hle
    have ho := one_eq (run := run) (n := n0 + x.length) (L := L.drop m) h0 h1 (by omega) (by omega)
    obtain ⟨⟨⟨c, ws⟩, k⟩, hk⟩ : ∃ x', whole1 run (n0 + x.length) (L.drop m) = x' := ⟨_, rfl⟩
    rw [hk] at hw hle ho
    simp only at hw hle
    by_cases hk0 : k = 0
    · rw [if_pos hk0] at hw
      subst hk0
      simp (maxSteps := 1000000) (disch := first | assumption | ((try simp only [LEN, LEN2]); omega)) only [push_cast, Int.reduceToNat, Int.reduceEq, Int.reduceNe, Int.reduceLT, Int.reduceLE, Int.reduceAdd, Int.reduceSub, Int.reduceMul, Int.reduceNeg, Nat.reduceEqDiff, Nat.reduceBEq, Nat.reduceBNe, Nat.reduceAdd, Nat.reduceLeDiff, Nat.reduceLT, Nat.reduceMul, ↓reduceIte, reduceCtorEq, g51, pf51, b51, h, ho, hw, List.take_length]
      try rfl
      done
    · rw [if_neg hk0] at hw
      have hk1 : ((k : Int) = 0) = False := by simp; omega
      simp (maxSteps := 1000000) (disch := first | assumption | ((try simp only [LEN, LEN2]); omega)) only [push_cast, Int.reduceToNat, Int.reduceEq, Int.reduceNe, Int.reduceLT, Int.reduceLE, Int.reduceAdd, Int.reduceSub, Int.reduceMul, Int.reduceNeg, Nat.reduceEqDiff, Nat.reduceBEq, Nat.reduceBNe, Nat.reduceAdd, Nat.reduceLeDiff, Nat.reduceLT, Nat.reduceMul, ↓reduceIte, reduceCtorEq, g51, pf51, b51, h, ho, hk1, List.take_length]
      refine ⟨(j, m + k, x ++ [⟨c, ws⟩]), by simp [oR], ⟨by simp only; omega, by simp only; omega, by simp only [List.length_append, List.length_singleton]; omega, ?_⟩, by simp only; omega⟩
      rw [hw]
      simp only [List.append_assoc, List.singleton_append, List.length_append, List.length_singleton]
      rw [show n0 + ((x.length + 1 : Nat) : Int) = n0 + (x.length : Int) + 1 by omega]
  · rw [if_pos (by omega)] at hw
    simp (maxSteps := 1000000) (disch := first | assumption | ((try simp only [LEN, LEN2]); omega)) only [push_cast, Int.reduceToNat, Int.reduceEq, Int.reduceNe, Int.reduceLT, Int.reduceLE, Int.reduceAdd, Int.reduceSub, Int.reduceMul, Int.reduceNeg, Nat.reduceEqDiff, Nat.reduceBEq, Nat.reduceBNe, Nat.reduceAdd, Nat.reduceLeDiff, Nat.reduceLT, Nat.reduceMul, ↓reduceIte, reduceCtorEq, g51, pf51, b51, h, hw]
    done
theorem f51c {run n0 : Int} {L : List (List UInt8)} (hL : L.length ≤ 4000000) (h0 : 0 ≤ run) (h1 : run < 4294967296) (hn0 : 0 ≤ n0) (hn1 : n0 ≤ 1073741824) {g : VG} {F : Fn} {lk : Bool} {e : Env} {dst : Option Nat} {ops : List Ins} {keep : Option (List Nat)} {K : List Fr} : CallC G g F 51 [.one (.d (.sl (L.map eS))), .int .i64 run, .int .i64 n0] lk e dst ops keep K = ThenL G g F (if lk && !(T.noSl (.tup [(false, [.own 70 ((rd run n0 L).1.map oR)]), (false, [.d (.sc (.int .i64 (rd run n0 L).2))])])) then none else e.put g.un dst (.tup [(false, [.own 70 ((rd run n0 L).1.map oR)]), (false, [.d (.sc (.int .i64 (rd run n0 L).2))])])) ops keep K := callC_eq (f51 hL h0 h1 hn0 hn1)
attribute [push_cast] f51c
end Go.Mir.Tryz

set_option linter.unusedVariables false
set_option linter.unusedSimpArgs false
set_option maxRecDepth 100000
namespace Go.Mir.Tryz
open Go.Proofs Go.Mir.Q
set_option maxHeartbeats 2000000 in
theorem f33 {run slot : Int} {m : Map} (hm : okM m = true) (h64 : (image m).length ≤ 64) (hs : slot = 0 ∨ slot = 1) : Fun G 33 [.int .i64 run, .int .i64 slot, .one (.d (.sl (m.map eMp)))] (layT (layD run slot m) ⟨run, slot, 255, 1⟩ 0, []) := by
  refine Fun.of_run (g := g33) (pf := pf33) rfl rfl rfl rfl ?_
  have hsm := okM_sm hm h64
  have hR := image_okR hm h64
  have hsw := okR_smW hR
  simp only at hsw
  have hc := okR_cnt hR
  have hc1 := f76 (run := run) (num' := 0) hsw hR
  have hI := f32 hsm
  have hst := startS_le (slot := slot)
  obtain ⟨C, hC⟩ : ∃ C, C = cuts run 0 (spelt ⟨1, image m⟩) := ⟨_, rfl⟩
  have hCl : C.length ≤ 116 := by rw [hC, cuts_len]; exact hc
  rw [← hC] at hc1
  have hp := f77 (a := startS slot) (S := C) (by omega) (by omega)
  have hf := f48 hs
  have hsu := f47 (run := run) hs
  have hpl := putsD_len C (startS slot)
  have ef : layD run slot m = putsD (startS slot) C ++ syncD :: (putsD 0 [superS run slot] ++ [syncD]) := by rw [hC]; rfl
  obtain ⟨I, hI2⟩ : ∃ I, I = image m := ⟨_, rfl⟩
  rw [← hI2] at hc1 hI h64
  have h64' : ¬ (64 : Int) < I.length := by omega
  simp (maxSteps := 1000000) (disch := first | assumption | ((try simp only [LEN, LEN2]); omega)) only [push_cast, Int.reduceToNat, Int.reduceEq, Int.reduceNe, Int.reduceLT, Int.reduceLE, Int.reduceAdd, Int.reduceSub, Int.reduceMul, Int.reduceNeg, Nat.reduceEqDiff, Nat.reduceBEq, Nat.reduceBNe, Nat.reduceAdd, Nat.reduceLeDiff, Nat.reduceLT, Nat.reduceMul, ↓reduceIte, reduceCtorEq, g33, pf33, b33, callC_eq hI, callT_eq hI, callC_eq hc1, callT_eq hc1, callC_eq hp, callT_eq hp, callC_eq hf, callT_eq hf, callC_eq hsu, callT_eq hsu, h64']
  rw [ef]
  simp [layT, oDo, syncD, putsD, putsW]
theorem f33c {run slot : Int} {m : Map} (hm : okM m = true) (h64 : (image m).length ≤ 64) (hs : slot = 0 ∨ slot = 1) {g : VG} {F : Fn} {lk : Bool} {e : Env} {dst : Option Nat} {ops : List Ins} {keep : Option (List Nat)} {K : List Fr} : CallC G g F 33 [.int .i64 run, .int .i64 slot, .one (.d (.sl (m.map eMp)))] lk e dst ops keep K = ThenL G g F (if lk && !(T.noSl (layT (layD run slot m) ⟨run, slot, 255, 1⟩ 0)) then none else e.put g.un dst (layT (layD run slot m) ⟨run, slot, 255, 1⟩ 0)) ops keep K := callC_eq (f33 hm h64 hs)
attribute [push_cast] f33c
set_option maxHeartbeats 2000000 in
theorem f35 {w : Wal} {n : Int} {l : List Write} (hs : smW l) (hr : okR ⟨n, l⟩ = true) (hw : okWal w = true) : Fun G 35 [.vs true (cWal w), .vs true [.d (.sc (.int .i64 n)), .d (.sl (l.map eW))]] (layT (addR w ⟨n, l⟩).1 (addR w ⟨n, l⟩).2.1 (addR w ⟨n, l⟩).2.2, []) := by
  refine Fun.of_run (g := g35) (pf := pf35) rfl rfl rfl rfl ?_
  obtain ⟨a, b, c, d⟩ := w
  have hw' := hw
  simp only [okWal, Bool.and_eq_true, decide_eq_true_eq] at hw'
  have hn : ¬ (okWal ⟨a, b, c, d⟩ = false ∨ okR ⟨n, l⟩ = false) := by rw [hw, hr]; simp
  have hc := okR_cnt hr
  have hcl := cuts_len a d (spelt ⟨n, l⟩)
  by_cases h1 : 1073741823 ≤ d
  · have e : addR ⟨a, b, c, d⟩ ⟨n, l⟩ = ([], ⟨0, 0, 0, 0⟩, 2) := by unfold addR; rw [if_neg hn, if_pos (by simp only; omega)]
    simp (maxSteps := 1000000) (disch := first | assumption | ((try simp only [LEN, LEN2]); omega)) only [push_cast, Int.reduceToNat, Int.reduceEq, Int.reduceNe, Int.reduceLT, Int.reduceLE, Int.reduceAdd, Int.reduceSub, Int.reduceMul, Int.reduceNeg, Nat.reduceEqDiff, Nat.reduceBEq, Nat.reduceBNe, Nat.reduceAdd, Nat.reduceLeDiff, Nat.reduceLT, Nat.reduceMul, ↓reduceIte, reduceCtorEq, g35, pf35, b35, h1, hr, e]
    try rfl
  · by_cases h2 : 512 < c + (cnt (spelt ⟨n, l⟩) : Nat)
    · have e : addR ⟨a, b, c, d⟩ ⟨n, l⟩ = ([], ⟨0, 0, 0, 0⟩, 5) := by unfold addR; rw [if_neg hn, if_neg (by simp only; omega), if_pos (by simp only; omega)]
      simp (maxSteps := 1000000) (disch := first | assumption | ((try simp only [LEN, LEN2]); omega)) only [push_cast, Int.reduceToNat, Int.reduceEq, Int.reduceNe, Int.reduceLT, Int.reduceLE, Int.reduceAdd, Int.reduceSub, Int.reduceMul, Int.reduceNeg, Nat.reduceEqDiff, Nat.reduceBEq, Nat.reduceBNe, Nat.reduceAdd, Nat.reduceLeDiff, Nat.reduceLT, Nat.reduceMul, ↓reduceIte, reduceCtorEq, g35, pf35, b35, h1, hr, hcl, h2, e]
      try rfl
    · have e : addR ⟨a, b, c, d⟩ ⟨n, l⟩ = (putsD c.toNat (cuts a d (spelt ⟨n, l⟩)), ⟨a, b, c + (cnt (spelt ⟨n, l⟩) : Nat), d + 1⟩, 0) := by unfold addR; rw [if_neg hn, if_neg (by simp only; omega), if_neg (by simp only; omega)]
      have hp := f77 (a := c.toNat) (S := cuts a d (spelt ⟨n, l⟩)) (by omega) (by omega)
      rw [show ((c.toNat : Nat) : Int) = c by omega] at hp
      simp (maxSteps := 1000000) (disch := first | assumption | ((try simp only [LEN, LEN2]); omega)) only [push_cast, Int.reduceToNat, Int.reduceEq, Int.reduceNe, Int.reduceLT, Int.reduceLE, Int.reduceAdd, Int.reduceSub, Int.reduceMul, Int.reduceNeg, Nat.reduceEqDiff, Nat.reduceBEq, Nat.reduceBNe, Nat.reduceAdd, Nat.reduceLeDiff, Nat.reduceLT, Nat.reduceMul, ↓reduceIte, reduceCtorEq, g35, pf35, b35, h1, hr, hcl, h2, callC_eq hp, callT_eq hp, e]
      try rfl
theorem f35c {w : Wal} {n : Int} {l : List Write} (hs : smW l) (hr : okR ⟨n, l⟩ = true) (hw : okWal w = true) {g : VG} {F : Fn} {lk : Bool} {e : Env} {dst : Option Nat} {ops : List Ins} {keep : Option (List Nat)} {K : List Fr} : CallC G g F 35 [.vs true (cWal w), .vs true [.d (.sc (.int .i64 n)), .d (.sl (l.map eW))]] lk e dst ops keep K = ThenL G g F (if lk && !(T.noSl (layT (addR w ⟨n, l⟩).1 (addR w ⟨n, l⟩).2.1 (addR w ⟨n, l⟩).2.2)) then none else e.put g.un dst (layT (addR w ⟨n, l⟩).1 (addR w ⟨n, l⟩).2.1 (addR w ⟨n, l⟩).2.2)) ops keep K := callC_eq (f35 hs hr hw)
attribute [push_cast] f35c
def slotI (s : List UInt8) (run : Int) (i : Nat) : Int :=
  if 1 ≤ run ∧ run < 1073741824 then (if 2 ≤ i ∧ s = superS run 1 then 1 else if 1 ≤ i ∧ s = superS run 0 then 0 else -1) else -1
theorem slotI_turn (s : List UInt8) : turnT s = if slotI s (runOf s) 2 < 0 then none else some (runOf s, slotI s (runOf s) 2) := by
  unfold turnT slotI
  by_cases h : 1 ≤ runOf s ∧ runOf s < 1073741824
  · rw [if_pos h, if_pos h]
    by_cases h1 : s = superS (runOf s) 1
    · rw [if_pos h1, if_pos (show 2 ≤ 2 ∧ s = superS (runOf s) 1 from ⟨Nat.le_refl 2, h1⟩)]; rfl
    · rw [if_neg h1, if_neg (show ¬ (2 ≤ 2 ∧ s = superS (runOf s) 1) from fun hh => h1 hh.2)]
      by_cases h0 : s = superS (runOf s) 0
      · rw [if_pos h0, if_pos (show 1 ≤ 2 ∧ s = superS (runOf s) 0 from ⟨by omega, h0⟩)]; rfl
      · rw [if_neg h0, if_neg (show ¬ (1 ≤ 2 ∧ s = superS (runOf s) 0) from fun hh => h0 hh.2)]; rfl
  · rw [if_neg h, if_neg h]; rfl
theorem slotI_step {s : List UInt8} {run : Int} {i : Nat} (hi : i < 2) : slotI s run (i + 1) = if (1 ≤ run ∧ run < 1073741824) ∧ s = superS run i then (i : Int) else slotI s run i := by
  unfold slotI
  by_cases h : 1 ≤ run ∧ run < 1073741824
  · rw [if_pos h, if_pos h]
    rcases (show i = 0 ∨ i = 1 by omega) with rfl | rfl
    · rw [if_neg (show ¬ (2 ≤ 0 + 1 ∧ s = superS run 1) from fun hh => by omega)]
      by_cases h0 : s = superS run 0
      · rw [if_pos (show 1 ≤ 0 + 1 ∧ s = superS run 0 from ⟨by omega, h0⟩), if_pos (show (1 ≤ run ∧ run < 1073741824) ∧ s = superS run ((0 : Nat) : Int) from ⟨h, h0⟩)]; rfl
      · rw [if_neg (show ¬ (1 ≤ 0 + 1 ∧ s = superS run 0) from fun hh => h0 hh.2), if_neg (show ¬ ((1 ≤ run ∧ run < 1073741824) ∧ s = superS run ((0 : Nat) : Int)) from fun hh => h0 hh.2), if_neg (show ¬ (2 ≤ 0 ∧ s = superS run 1) from fun hh => by omega), if_neg (show ¬ (1 ≤ 0 ∧ s = superS run 0) from fun hh => by omega)]
    · by_cases h1 : s = superS run 1
      · rw [if_pos (show 2 ≤ 1 + 1 ∧ s = superS run 1 from ⟨by omega, h1⟩), if_pos (show (1 ≤ run ∧ run < 1073741824) ∧ s = superS run ((1 : Nat) : Int) from ⟨h, h1⟩)]; rfl
      · rw [if_neg (show ¬ (2 ≤ 1 + 1 ∧ s = superS run 1) from fun hh => h1 hh.2), if_neg (show ¬ ((1 ≤ run ∧ run < 1073741824) ∧ s = superS run ((1 : Nat) : Int)) from fun hh => h1 hh.2), if_neg (show ¬ (2 ≤ 1 ∧ s = superS run 1) from fun hh => by omega)]
        by_cases h0 : s = superS run 0
        · rw [if_pos (show 1 ≤ 1 + 1 ∧ s = superS run 0 from ⟨by omega, h0⟩), if_pos (show 1 ≤ 1 ∧ s = superS run 0 from ⟨by omega, h0⟩)]
        · rw [if_neg (show ¬ (1 ≤ 1 + 1 ∧ s = superS run 0) from fun hh => h0 hh.2), if_neg (show ¬ (1 ≤ 1 ∧ s = superS run 0) from fun hh => h0 hh.2)]
  · rw [if_neg h, if_neg h, if_neg (fun hh => h hh.1)]
theorem slotI_01 (s : List UInt8) (run : Int) (i : Nat) (h : ¬ slotI s run i < 0) : (slotI s run i = 0 ∨ slotI s run i = 1) ∧ 1 ≤ run ∧ run < 1073741824 := by
  unfold slotI at h ⊢
  by_cases hr : 1 ≤ run ∧ run < 1073741824
  · rw [if_pos hr] at h ⊢
    refine ⟨?_, hr⟩
    split
    · exact .inr rfl
    · split
      · exact .inl rfl
      · rename_i h1 h2; rw [if_neg h1, if_neg h2] at h; omega
  · rw [if_neg hr] at h; omega
def openQ (S : List (List UInt8)) (tables : Nat) : Map × List Record × Wal × Bool :=
  match openT S tables with
  | some (m, l, w) => (m, l, w, true)
  | none => ([], [], ⟨0, 0, 0, 0⟩, false)
abbrev openV (m : Map) (l : List Record) (w : Wal) (b : Bool) : T := .tup [(false, [.own 79 (m.map oMp)]), (false, [.own 70 (l.map oR)]), (true, cWal w), (false, [.d (.sc (.bool b))])]
set_option maxHeartbeats 8000000 in
set_option maxHeartbeats 2000000 in
theorem f15 {S : List (List UInt8)} {tables : Nat} (hok : okT S [] = true) (hl : S.length = 512) (ht1 : 1 ≤ tables) (ht3 : tables ≤ 3) : Fun G 15 [.vs true (cT S []), .int .i64 tables] (openV (openQ S tables).1 (openQ S tables).2.1 (openQ S tables).2.2.1 (openQ S tables).2.2.2, []) := by
  refine Fun.of_run (g := g15) (pf := pf15) rfl rfl rfl rfl ?_
  have h0 : 0 < S.length := by omega
  have h32 := (okT_iff.1 hok).2.1
  have hs0 : (S[0]).length = 32 := h32 _ (List.getElem_mem h0)
  have hturn := slotI_turn S[0]
  obtain ⟨s, hs⟩ : ∃ s, s = S[0] := ⟨_, rfl⟩
  have hs0' : s = S[0]?.getD [] := by rw [hs, List.getElem?_eq_getElem h0]; rfl
  rw [← hs] at hs0 hturn
  have hnl : ((s.take 8).drop 4).length ≤ 6 := by rw [List.length_drop, List.length_take]; omega
  have hrn : num ((s.take 8).drop 4) = runOf s := by rw [runOf, List.drop_take]
  have hrb := num_bd6 ((s.drop 4).take 4) (by rw [List.length_take]; omega)
  rw [show num ((s.drop 4).take 4) = runOf s from rfl] at hrb
  obtain ⟨run, hrun⟩ : ∃ r, r = runOf s := ⟨_, rfl⟩
  rw [← hrun] at hrn hrb hturn
  simp (maxSteps := 1000000) (disch := first | assumption | ((try simp only [LEN, LEN2]); omega)) only [push_cast, Int.reduceToNat, Int.reduceEq, Int.reduceNe, Int.reduceLT, Int.reduceLE, Int.reduceAdd, Int.reduceSub, Int.reduceMul, Int.reduceNeg, Nat.reduceEqDiff, Nat.reduceBEq, Nat.reduceBNe, Nat.reduceAdd, Nat.reduceLeDiff, Nat.reduceLT, Nat.reduceMul, ↓reduceIte, reduceCtorEq, g15, pf15, b15, eS, ← hs, hrn]
  refine run_loop' (fun i : Nat => [(1, T.int .i64 tables), (2, T.one (.box (cT S []))), (6, T.one (.box (cWal ⟨0, 0, 0, 0⟩))), (8, T.int .i64 run), (9, T.int .i64 (slotI s run i)), (10, T.int .i64 i)]) (fun i => i ≤ 2) (fun i => 2 - i) 0 (by simp [slotI]) (by omega) (fun i hi => ?_)
  by_cases hi2 : (i : Int) < 2
  · have hsp := f47 (run := run) (slot := i) (by omega)
    have hbt : decide ((1 : Int) ≤ run ∧ run ≤ 1073741823) = decide (1 ≤ run ∧ run < 1073741824) := decide_eq_decide.2 (by omega)
    by_cases hr : 1 ≤ run ∧ run < 1073741824
    · have hr' : 1 ≤ run ∧ run ≤ 1073741823 := by omega
      by_cases he : s = superS run i
      · have hst := slotI_step (s := s) (run := run) (i := i) (by omega)
        rw [if_pos ⟨hr, he⟩] at hst
        have he' : decide (s = superS run i) = true := decide_eq_true he
        simp (maxSteps := 1000000) (disch := first | assumption | ((try simp only [LEN, LEN2]); omega)) only [push_cast, Int.reduceToNat, Int.reduceEq, Int.reduceNe, Int.reduceLT, Int.reduceLE, Int.reduceAdd, Int.reduceSub, Int.reduceMul, Int.reduceNeg, Nat.reduceEqDiff, Nat.reduceBEq, Nat.reduceBNe, Nat.reduceAdd, Nat.reduceLeDiff, Nat.reduceLT, Nat.reduceMul, ↓reduceIte, reduceCtorEq, g15, pf15, b15, hi2, hr', eS, ← hs, callC_eq hsp, callT_eq hsp, he']
        exact ⟨i + 1, by rw [hst]; simp, by omega, by omega⟩
      · have hst := slotI_step (s := s) (run := run) (i := i) (by omega)
        rw [if_neg (fun hh => he hh.2)] at hst
        have he' : decide (s = superS run i) = false := decide_eq_false he
        simp (maxSteps := 1000000) (disch := first | assumption | ((try simp only [LEN, LEN2]); omega)) only [push_cast, Int.reduceToNat, Int.reduceEq, Int.reduceNe, Int.reduceLT, Int.reduceLE, Int.reduceAdd, Int.reduceSub, Int.reduceMul, Int.reduceNeg, Nat.reduceEqDiff, Nat.reduceBEq, Nat.reduceBNe, Nat.reduceAdd, Nat.reduceLeDiff, Nat.reduceLT, Nat.reduceMul, ↓reduceIte, reduceCtorEq, g15, pf15, b15, hi2, hr', eS, ← hs, callC_eq hsp, callT_eq hsp, he']
        exact ⟨i + 1, by rw [hst]; simp, by omega, by omega⟩
    · have hr' : ¬ (1 ≤ run ∧ run ≤ 1073741823) := by omega
      have hst := slotI_step (s := s) (run := run) (i := i) (by omega)
      rw [if_neg (fun hh => hr hh.1)] at hst
      simp (maxSteps := 1000000) (disch := first | assumption | ((try simp only [LEN, LEN2]); omega)) only [push_cast, Int.reduceToNat, Int.reduceEq, Int.reduceNe, Int.reduceLT, Int.reduceLE, Int.reduceAdd, Int.reduceSub, Int.reduceMul, Int.reduceNeg, Nat.reduceEqDiff, Nat.reduceBEq, Nat.reduceBNe, Nat.reduceAdd, Nat.reduceLeDiff, Nat.reduceLT, Nat.reduceMul, ↓reduceIte, reduceCtorEq, g15, pf15, b15, hi2, hr']
      exact ⟨i + 1, by rw [hst]; simp, by omega, by omega⟩
  · obtain rfl : i = 2 := by omega
    by_cases hneg : slotI s run 2 < 0
    · rw [if_pos hneg] at hturn
      have e : openQ S tables = ([], [], ⟨0, 0, 0, 0⟩, false) := by unfold openQ; rw [open_none (by rw [← hs0']; exact hturn)]
      simp (maxSteps := 1000000) (disch := first | assumption | ((try simp only [LEN, LEN2]); omega)) only [push_cast, Int.reduceToNat, Int.reduceEq, Int.reduceNe, Int.reduceLT, Int.reduceLE, Int.reduceAdd, Int.reduceSub, Int.reduceMul, Int.reduceNeg, Nat.reduceEqDiff, Nat.reduceBEq, Nat.reduceBNe, Nat.reduceAdd, Nat.reduceLeDiff, Nat.reduceLT, Nat.reduceMul, ↓reduceIte, reduceCtorEq, g15, pf15, b15, hi2, hneg, e]
      rfl
    · rw [if_neg hneg] at hturn
      obtain ⟨h01, hr1, hr2⟩ := slotI_01 s run 2 hneg
      obtain ⟨slot, hslot⟩ : ∃ x, x = slotI s run 2 := ⟨_, rfl⟩
      rw [← hslot] at hturn h01 hneg
      have hst := startS_le (slot := slot)
      have hfi := f48 h01
      obtain ⟨A, hA⟩ : ∃ A, A = startS slot := ⟨_, rfl⟩
      rw [← hA] at hfi hst
      have eA : ((A : Int) + 128 - 1).toNat = A + 127 := by omega
      have hseg : (S.take (A + 127)).drop A = seg S slot := by rw [seg, ← hA, List.drop_take]; congr 1; omega
      obtain ⟨Z, hZ⟩ : ∃ Z, Z = seg S slot := ⟨_, rfl⟩
      rw [← hZ] at hseg
      have hZl : Z.length ≤ 127 := by rw [hZ, seg, List.length_take]; omega
      have hw := f49 (run := run) (nn := 0) (L := Z) (by omega)
      rw [one_eq (by omega) (by omega) (by omega) (by omega)] at hw
      have hbd := whole_bd (run := run) (n := 0) (L := Z) (l := Z) (i := 0) (b := [])
      rw [show whole run 0 Z Z 0 [] = whole1 run 0 Z from rfl] at hbd
      obtain ⟨⟨⟨c, ws⟩, k⟩, hW⟩ : ∃ x, whole1 run 0 Z = x := ⟨_, rfl⟩
      rw [hW] at hw hbd
      have hsm : smW ws ∧ (∀ w ∈ ws, 0 ≤ w.Table) ∧ ws.length ≤ 64 := by
        rcases hbd with g | g
        · simp only [Prod.mk.injEq, Q.Record.mk.injEq] at g
          rw [g.1.2]
          exact ⟨⟨by simp, by simp⟩, by simp, by simp⟩
        · refine ⟨okR_smW g, fun w hw => ?_, by simp only [okR, Bool.and_eq_true, decide_eq_true_eq] at g; omega⟩
          simp only [okR, Bool.and_eq_true, List.all_eq_true] at g
          have := g.2 w hw
          simp only [okW, decide_eq_true_eq] at this
          omega
      obtain ⟨hws, hws0, hws64⟩ := hsm
      have hws1 := hws.1
      have hdl : (S.drop 255).length ≤ 4000000 := by rw [List.length_drop]; omega
      have hrd := f51 (run := run) (n0 := 1) (L := S.drop 255) hdl (by omega) (by omega) (by omega) (by omega)
      have hcn := rd_cnt run 1 (S.drop 255)
      have hcl := rd_le run 1 (S.drop 255)
      have htk : S.take 512 = S := List.take_of_length_le (by omega)
      obtain ⟨⟨R, n⟩, hR⟩ : ∃ x, rd run 1 (S.drop 255) = x := ⟨_, rfl⟩
      rw [hR] at hrd hcn hcl
      rw [List.length_drop] at hcl
      simp only at hcn hcl
      have hq := open_some (tables := tables) (r := ⟨c, ws⟩) (k := k) (by rw [← hs0']; exact hturn) (by rw [← hZ]; exact hW) hR
      simp only [push_cast, Int.reduceToNat, Int.reduceEq, Int.reduceNe, Int.reduceLT, Int.reduceLE, Int.reduceAdd, Int.reduceSub, Int.reduceMul, Int.reduceNeg, Nat.reduceEqDiff, Nat.reduceBEq, Nat.reduceBNe, Nat.reduceAdd, Nat.reduceLeDiff, Nat.reduceLT, Nat.reduceMul, ↓reduceIte, reduceCtorEq] at hw hrd
      by_cases hk : k = 0
      · subst hk
        rw [if_pos rfl] at hq
        have e : openQ S tables = ([], [], ⟨0, 0, 0, 0⟩, false) := by unfold openQ; rw [hq]
        simp (maxSteps := 1000000) (disch := first | assumption | ((try simp only [LEN, LEN2]); omega)) only [push_cast, Int.reduceToNat, Int.reduceEq, Int.reduceNe, Int.reduceLT, Int.reduceLE, Int.reduceAdd, Int.reduceSub, Int.reduceMul, Int.reduceNeg, Nat.reduceEqDiff, Nat.reduceBEq, Nat.reduceBNe, Nat.reduceAdd, Nat.reduceLeDiff, Nat.reduceLT, Nat.reduceMul, ↓reduceIte, reduceCtorEq, g15, pf15, b15, hi2, ← hslot, hneg, callC_eq hfi, callT_eq hfi, eA, hseg, callC_eq hw, callT_eq hw, e]
        rfl
      · have hk1 : ¬ (k : Int) = 0 := by omega
        rw [if_neg hk] at hq
        have hno : rowsT tables ⟨c, ws⟩ = none → openQ S tables = ([], [], ⟨0, 0, 0, 0⟩, false) := fun hx => by rw [hx] at hq; unfold openQ; rw [hq]
        by_cases hc1 : c = 1
        · simp (maxSteps := 1000000) (disch := first | assumption | ((try simp only [LEN, LEN2]); omega)) only [push_cast, Int.reduceToNat, Int.reduceEq, Int.reduceNe, Int.reduceLT, Int.reduceLE, Int.reduceAdd, Int.reduceSub, Int.reduceMul, Int.reduceNeg, Nat.reduceEqDiff, Nat.reduceBEq, Nat.reduceBNe, Nat.reduceAdd, Nat.reduceLeDiff, Nat.reduceLT, Nat.reduceMul, ↓reduceIte, reduceCtorEq, g15, pf15, b15, hi2, ← hslot, hneg, callC_eq hfi, callT_eq hfi, eA, hseg, callC_eq hw, callT_eq hw, hk1, hc1]
          refine run_loop' (fun i : Nat => [(1, T.int .i64 tables), (2, T.one (.box (cT S []))), (6, T.one (.box (cWal ⟨0, 0, 0, 0⟩))), (8, T.int .i64 run), (9, T.int .i64 slot), (12, T.one (.box [.d (.sc (.int .i64 1)), .own 78 (ws.map oW)])), (14, T.one (.own 79 ((groupT tables (ws.take i)).map oMp))), (15, T.int .i64 i)]) (fun i => i ≤ ws.length ∧ ∀ w ∈ ws.take i, w.Table < tables ∧ w.Gone = false) (fun i => ws.length - i) 0 (by rw [List.take_zero, groupT_nil, List.map_replicate]; rfl) ⟨Nat.zero_le _, by simp⟩ (fun i hi => ?_)
          obtain ⟨hi, hg⟩ := hi
          by_cases h : (i : Int) < ws.length
          · have hi' : i < ws.length := by omega
            have ht0 := hws0 ws[i] (List.getElem_mem hi')
            have hmem := List.getElem_mem hi'
            obtain ⟨w, hw0⟩ : ∃ w, w = ws[i] := ⟨_, rfl⟩
            rw [← hw0] at ht0 hmem
            have hbad : ¬ (w.Table < tables ∧ w.Gone = false) → openQ S tables = ([], [], ⟨0, 0, 0, 0⟩, false) := fun hx => hno (by unfold rowsT; rw [if_neg (fun hh => hx (hh.2.1 w hmem))])
            by_cases b1 : (tables : Int) ≤ w.Table
            · simp (maxSteps := 1000000) (disch := first | assumption | ((try simp only [LEN, LEN2]); omega)) only [push_cast, Int.reduceToNat, Int.reduceEq, Int.reduceNe, Int.reduceLT, Int.reduceLE, Int.reduceAdd, Int.reduceSub, Int.reduceMul, Int.reduceNeg, Nat.reduceEqDiff, Nat.reduceBEq, Nat.reduceBNe, Nat.reduceAdd, Nat.reduceLeDiff, Nat.reduceLT, Nat.reduceMul, ↓reduceIte, reduceCtorEq, g15, pf15, b15, h, oW, ← hw0, b1, hbad (by omega)]
              rfl
            · cases b3 : w.Gone with
              | true =>
                simp (maxSteps := 1000000) (disch := first | assumption | ((try simp only [LEN, LEN2]); omega)) only [push_cast, Int.reduceToNat, Int.reduceEq, Int.reduceNe, Int.reduceLT, Int.reduceLE, Int.reduceAdd, Int.reduceSub, Int.reduceMul, Int.reduceNeg, Nat.reduceEqDiff, Nat.reduceBEq, Nat.reduceBNe, Nat.reduceAdd, Nat.reduceLeDiff, Nat.reduceLT, Nat.reduceMul, ↓reduceIte, reduceCtorEq, g15, pf15, b15, h, oW, ← hw0, b1, b3, hbad (by simp [b3])]
                rfl
              | false =>
                obtain ⟨q, hq0⟩ : ∃ q : Nat, w.Table = q := Int.eq_ofNat_of_zero_le ht0
                have hkl : q < tables := by omega
                have b1' := b1
                rw [hq0] at b1'
                obtain ⟨M, hM⟩ : ∃ M, M = groupT tables (ws.take i) := ⟨_, rfl⟩
                have hML : M.length = tables := by rw [hM, groupT_len]
                have hMs := groupT_sm (tables := tables) (by omega) (ws := ws.take i) ⟨by rw [List.length_take]; omega, fun x hx => hws.2 x (List.mem_of_mem_take hx)⟩
                rw [← hM] at hMs
                have hx := (hMs.2 (M[q]'(by omega)) (List.getElem_mem _)).1
                have hgn := group_snoc (tables := tables) (ws := ws.take i) (w := w) (k := q) hq0 hkl
                rw [← hM, List.getElem?_eq_getElem (by omega), Option.getD_some] at hgn
                simp (maxSteps := 1000000) (disch := first | assumption | ((try simp only [LEN, LEN2]); omega)) only [push_cast, Int.reduceToNat, Int.reduceEq, Int.reduceNe, Int.reduceLT, Int.reduceLE, Int.reduceAdd, Int.reduceSub, Int.reduceMul, Int.reduceNeg, Nat.reduceEqDiff, Nat.reduceBEq, Nat.reduceBNe, Nat.reduceAdd, Nat.reduceLeDiff, Nat.reduceLT, Nat.reduceMul, ↓reduceIte, reduceCtorEq, g15, pf15, b15, h, oW, ← hw0, b1', b3, ← hM, hq0, oMp]
                refine ⟨i + 1, ?_, ⟨by omega, fun x hx => ?_⟩, by omega⟩
                · rw [List.take_succ_eq_append_getElem hi', ← hw0, hgn]
                  rw [List.map_set]
                  simp [oMp, oRow]
                · rw [List.take_succ_eq_append_getElem hi', List.mem_append, List.mem_singleton, ← hw0] at hx
                  rcases hx with hx | rfl
                  · exact hg x hx
                  · exact ⟨by omega, b3⟩
          · obtain rfl : i = ws.length := by omega
            rw [List.take_length] at hg ⊢
            have hMs := groupT_sm (tables := tables) (by omega) hws
            obtain ⟨M, hM⟩ : ∃ M, M = groupT tables ws := ⟨_, rfl⟩
            rw [← hM] at hMs ⊢
            have hMl : M.length = tables := by rw [hM, groupT_len]
            have hil := image_len (m := M) (t := 0) fun l hl => (hMs.2 l hl).1
            have hil2 : (image M).length ≤ 4194304 := by simp only [image]; omega
            cases hokm : okM M with
            | false =>
              have e := hno (by unfold rowsT; rw [if_neg (fun hh => by have := hh.2.2.1; rw [← hM, hokm] at this; cases this)])
              simp (maxSteps := 1000000) (disch := first | assumption | ((try simp only [LEN, LEN2]); omega)) only [push_cast, Int.reduceToNat, Int.reduceEq, Int.reduceNe, Int.reduceLT, Int.reduceLE, Int.reduceAdd, Int.reduceSub, Int.reduceMul, Int.reduceNeg, Nat.reduceEqDiff, Nat.reduceBEq, Nat.reduceBNe, Nat.reduceAdd, Nat.reduceLeDiff, Nat.reduceLT, Nat.reduceMul, ↓reduceIte, reduceCtorEq, g15, pf15, b15, h, hokm, e]
              rfl
            | true =>
              by_cases him : image M = ws
              · have hrt : rowsT tables ⟨1, ws⟩ = some M := by
                  unfold rowsT
                  rw [if_pos ⟨rfl, hg, by rw [← hM]; exact hokm, by rw [← hM]; exact him⟩, ← hM]
                subst hc1
                rw [hrt] at hq
                have e : openQ S tables = (M, R, ⟨run, slot, 255 + (n : Nat), 1 + (R.length : Nat)⟩, true) := by unfold openQ; rw [hq]
                have hI := f32 hMs
                have hEq := f50 (a := ws) (b := ws) (by omega) (by omega)
                rw [decide_eq_true rfl] at hEq
                rw [him] at hI
                simp (maxSteps := 1000000) (disch := first | assumption | ((try simp only [LEN, LEN2]); omega)) only [push_cast, Int.reduceToNat, Int.reduceEq, Int.reduceNe, Int.reduceLT, Int.reduceLE, Int.reduceAdd, Int.reduceSub, Int.reduceMul, Int.reduceNeg, Nat.reduceEqDiff, Nat.reduceBEq, Nat.reduceBNe, Nat.reduceAdd, Nat.reduceLeDiff, Nat.reduceLT, Nat.reduceMul, ↓reduceIte, reduceCtorEq, g15, pf15, b15, h, hokm, callC_eq hI, callT_eq hI, callC_eq hEq, callT_eq hEq, List.take_length, hR, e]
                done
              · have e := hno (by unfold rowsT; rw [if_neg (fun hh => him (by rw [hM]; exact hh.2.2.2))])
                have hI := f32 hMs
                have hEq := f50 (a := image M) (b := ws) (by omega) (by omega)
                rw [decide_eq_false him] at hEq
                simp (maxSteps := 1000000) (disch := first | assumption | ((try simp only [LEN, LEN2]); omega)) only [push_cast, Int.reduceToNat, Int.reduceEq, Int.reduceNe, Int.reduceLT, Int.reduceLE, Int.reduceAdd, Int.reduceSub, Int.reduceMul, Int.reduceNeg, Nat.reduceEqDiff, Nat.reduceBEq, Nat.reduceBNe, Nat.reduceAdd, Nat.reduceLeDiff, Nat.reduceLT, Nat.reduceMul, ↓reduceIte, reduceCtorEq, g15, pf15, b15, h, hokm, callC_eq hI, callT_eq hI, callC_eq hEq, callT_eq hEq, e]
                rfl
        · have e := hno (by unfold rowsT; rw [if_neg (fun hh => hc1 hh.1)])
          simp (maxSteps := 1000000) (disch := first | assumption | ((try simp only [LEN, LEN2]); omega)) only [push_cast, Int.reduceToNat, Int.reduceEq, Int.reduceNe, Int.reduceLT, Int.reduceLE, Int.reduceAdd, Int.reduceSub, Int.reduceMul, Int.reduceNeg, Nat.reduceEqDiff, Nat.reduceBEq, Nat.reduceBNe, Nat.reduceAdd, Nat.reduceLeDiff, Nat.reduceLT, Nat.reduceMul, ↓reduceIte, reduceCtorEq, g15, pf15, b15, hi2, ← hslot, hneg, callC_eq hfi, callT_eq hfi, eA, hseg, callC_eq hw, callT_eq hw, hk1, hc1, e]
          rfl
theorem f15c {S : List (List UInt8)} {tables : Nat} (hok : okT S [] = true) (hl : S.length = 512) (ht1 : 1 ≤ tables) (ht3 : tables ≤ 3) {g : VG} {F : Fn} {lk : Bool} {e : Env} {dst : Option Nat} {ops : List Ins} {keep : Option (List Nat)} {K : List Fr} : CallC G g F 15 [.vs true (cT S []), .int .i64 tables] lk e dst ops keep K = ThenL G g F (if lk && !(T.noSl (openV (openQ S tables).1 (openQ S tables).2.1 (openQ S tables).2.2.1 (openQ S tables).2.2.2)) then none else e.put g.un dst (openV (openQ S tables).1 (openQ S tables).2.1 (openQ S tables).2.2.1 (openQ S tables).2.2.2)) ops keep K := callC_eq (f15 hok hl ht1 ht3)
attribute [push_cast] f15c
end Go.Mir.Tryz

set_option linter.unusedVariables false
set_option linter.unusedSimpArgs false
set_option maxRecDepth 100000
namespace Go.Mir.Tryz
open Go.Proofs Go.Mir.Q
theorem sm_R {r : List Record} (h : ∀ x ∈ r, okR x = true) : ∀ x ∈ r, x.Writes.length ≤ 1000000000 := fun x hx => by
  have := (okR_smW (h x hx)).1; omega
def oRd (r : Record) : List V := [.d (.sc (.int .i64 r.Commit)), .d (.sl (r.Writes.map eW))]
theorem toDss_oRd (l : List Record) : toDss (l.map oRd) = some (l.map eR) := toDss_map (fun _ => rfl) l
attribute [push_cast] toDss_oRd
theorem snocR (l : List Record) (r : Record) : l.map oRd ++ [[V.d (D.sc (.int .i64 r.Commit)), V.d (.sl (r.Writes.map eW))]] = (l ++ [r]).map oRd := by simp [oRd]
theorem _root_.Go.Mir.Q.Laid.okWal {S : List (List UInt8)} {w : Wal} {m : Map} {l : List Record} (h : Laid S w m l) : Q.okWal w = true ∧ w.Seq + 1 < 1073741824 := by
  have h1 := h.run
  have h2 := h.slot
  have h3 := h.at_
  have h4 := h.seq
  have h5 := h.few
  simp only [Q.okWal, Bool.and_eq_true, decide_eq_true_eq]
  omega
theorem addR_full {w : Wal} {r : Record} (h1 : okWal w = true) (h2 : okR r = true) (h3 : ¬ 1073741824 ≤ w.Seq + 1) (h : 512 - w.At < (cnt (spelt r) : Nat)) : addR w r = ([], ⟨0, 0, 0, 0⟩, 5) := by
  unfold addR; rw [if_neg (by rw [h1, h2]; simp), if_neg h3, if_pos h]
theorem addR_ok {w : Wal} {r : Record} (h1 : okWal w = true) (h2 : okR r = true) (h3 : ¬ 1073741824 ≤ w.Seq + 1) (h : ¬ 512 - w.At < (cnt (spelt r) : Nat)) : addR w r = (putsD w.At.toNat (cuts w.Run w.Seq (spelt r)), ⟨w.Run, w.Slot, w.At + (cnt (spelt r) : Nat), w.Seq + 1⟩, 0) := by
  unfold addR; rw [if_neg (by rw [h1, h2]; simp), if_neg h3, if_neg h]
structure LaidP (m : Map) (n : Nat) (T0 : List (List UInt8)) (x : Nat × List Put × Wal × List Record) : Prop where
  k : x.1 ≤ n
  k4 : x.1 ≤ 4
  run : x.2.2.1.Run ≤ 3
  wl : x.2.1.length ≤ 116 * x.1
  ok : okT T0 x.2.1 = true
  laid : Laid (flush T0 x.2.1) x.2.2.1 m x.2.2.2
theorem flush_app (S : List (List UInt8)) (A B : List Put) : flush S (A ++ B) = flush (flush S A) B := by simp [flush, List.foldl_append]
theorem smDo_puts0 {a : Nat} {l : List (List UInt8)} (hl : all32 l) (hk : l.length ≤ 1000) : smDo (putsD a l) := by
  refine ⟨?_, fun d hd => ?_⟩
  · simp only [putsD_len]; omega
  · simp only [putsD, List.mem_map] at hd
    obtain ⟨p, hp, rfl⟩ := hd
    have := hl _ (putsW_mem hp).2.2; simp only; omega
set_option maxHeartbeats 8000000 in
theorem f9 {M : List Map} {R : List Record} {S : List (List UInt8)} {N1 : List Int} {L : List (List (List UInt8))} {W : List Wal} {K N : List Int} (h : smAsk M R S N1 L W K N) {i : Nat} (hi : i < M.length) (hok : okM M[i] = true) (hl1 : 1 ≤ M[i].length) (h64 : (image M[i]).length ≤ 64) :
    ∃ (S' : List (List UInt8)) (w : Wal) (all : List Record), Fun G 9 [.vs true (cAsk M R S N1 L W K N), .int .i64 i] (.tup [(true, oT S' []), (true, cWal w), (false, [.own 70 (all.map oRd)])], []) ∧ Laid S' w M[i] all ∧ w.Run ≤ 3 := by
  have hM := h.m
  have hr := h.r
  have hR1 := hr.1
  have hR2 := hr.2
  have hsm := okM_sm hok h64
  obtain ⟨m, hm0⟩ : ∃ m, m = M[i] := ⟨_, rfl⟩
  rw [← hm0] at hok hl1 h64 hsm ⊢
  have hsm1 := hsm.1
  have e3 : (i : Int).tmod 3 = ((i % 3 : Nat) : Int) := by rw [Int.tmod_eq_emod_of_nonneg (by omega)]; omega
  have e2 : (i : Int).tmod 2 = ((i % 2 : Nat) : Int) := by rw [Int.tmod_eq_emod_of_nonneg (by omega)]; omega
  have hA := f33 (run := 1 + ((i % 3 : Nat) : Int)) (slot := ((i % 2 : Nat) : Int)) hok h64 (by omega)
  obtain ⟨run, hrun⟩ : ∃ r : Int, r = 1 + ((i % 3 : Nat) : Int) := ⟨_, rfl⟩
  obtain ⟨slot, hslot⟩ : ∃ r : Int, r = ((i % 2 : Nat) : Int) := ⟨_, rfl⟩
  rw [← hrun, ← hslot] at hA
  have hN := fNew0
  have hP := f34 (n := -1) (okT_all tape0_len tape0_32) (smDo_lay (run := run) (slot := slot) hok h64)
  rw [show upto (-1) (layD run slot m) = layD run slot m from rfl, play_lay tape0_len hok h64] at hP
  have hLd := Laid.lay (run := run) (slot := slot) tape0_len tape0_32 (by omega) (by omega) (by omega) hok h64 tape0_z
  have hlen := hLd.len
  have hd := (smDo_lay (run := run) (slot := slot) hok h64).1
  obtain ⟨T0, hT⟩ : ∃ T, T = layS tape0 run slot m := ⟨_, rfl⟩
  rw [← hT] at hP hLd hlen
  obtain ⟨D', hD⟩ : ∃ D, D = layD run slot m := ⟨_, rfl⟩
  rw [← hD] at hA hP hd
  obtain ⟨Z, hZ⟩ : ∃ Z, Z = tape0 := ⟨_, rfl⟩
  have hz := tape0_len
  rw [← hZ] at hz hN hP
  simp only [push_cast, Int.reduceToNat, Int.reduceEq, Int.reduceNe, Int.reduceLT, Int.reduceLE, Int.reduceAdd, Int.reduceSub, Int.reduceMul, Int.reduceNeg, Nat.reduceEqDiff, Nat.reduceBEq, Nat.reduceBNe, Nat.reduceAdd, Nat.reduceLeDiff, Nat.reduceLT, Nat.reduceMul, ↓reduceIte, reduceCtorEq, cT, oT, tErr, layT] at hA hN hP
  have e1 : (1 + (i : Int).tmod 3) = run := by rw [e3, hrun]
  have e1' : 1 + (i : Int) % 3 = run := by rw [hrun]; omega
  have e0' : (i : Int) % 2 = slot := by rw [hslot]; omega
  have e0 : (i : Int).tmod 2 = slot := by rw [e2, hslot]
  obtain ⟨r, h1, S', w, all, rfl, h2, h3⟩ := Fun.ex_of_run (G := G) (f := 9) (args := [.vs true (cAsk M R S N1 L W K N), .int .i64 i]) (Q := fun r => ∃ (S' : List (List UInt8)) (w : Wal) (all : List Record), r = (.tup [(true, oT S' []), (true, cWal w), (false, [.own 70 (all.map oRd)])], []) ∧ Laid S' w m all ∧ w.Run ≤ 3) (g := g9) (pf := pf9) rfl rfl rfl rfl (by
    simp (maxSteps := 1000000) (disch := first | assumption | ((try simp only [LEN, LEN2]); omega)) only [push_cast, Int.reduceToNat, Int.reduceEq, Int.reduceNe, Int.reduceLT, Int.reduceLE, Int.reduceAdd, Int.reduceSub, Int.reduceMul, Int.reduceNeg, Nat.reduceEqDiff, Nat.reduceBEq, Nat.reduceBNe, Nat.reduceAdd, Nat.reduceLeDiff, Nat.reduceLT, Nat.reduceMul, ↓reduceIte, reduceCtorEq, g9, pf9, b9, e1', e0', eMaps, ← hm0, callC_eq hA, callT_eq hA, callC_eq hN, callT_eq hN, callC_eq hP, callT_eq hP]
    refine run_loop' (fun x : Nat × List Put × Wal × List Record => [(1, T.int .i64 i), (2, T.one (.box (cAsk M R S N1 L W K N))), (4, T.one (.box (oT [] []))), (5, T.one (.box (cWal ⟨0, 0, 0, 0⟩))), (8, T.one (.box (cWal x.2.2.1))), (10, T.one (.box (oT T0 x.2.1))), (12, T.one (.own 70 (x.2.2.2.map oRd))), (13, T.int .i64 x.1)]) (LaidP m R.length T0) (fun x => R.length - x.1) (0, [], ⟨run, slot, 255, 1⟩, []) (by simp) ⟨by simp, by simp, by simp only; omega, by simp, okT_all hLd.len hLd.a32, hLd⟩ (fun ⟨k, W', w, all⟩ hk => ?_)
    obtain ⟨hk, hk4, hwr, hwl, hok', hL⟩ := hk
    simp only at hk hk4 hwr hwl hok' hL
    have hlen' := hL.len
    have hall := hL.few.2
    have hTl : T0.length = 512 := by rw [← flush_length W' T0]; exact hlen'
    by_cases h3 : (k : Int) < R.length ∧ (k : Int) < 4
    · obtain ⟨h3, h4⟩ := h3
      have hk' : k < R.length := by omega
      obtain ⟨⟨hw1, hw2⟩, hw3⟩ := hR2 R[k] (List.getElem_mem hk')
      obtain ⟨⟨c, ws⟩, hr0⟩ : ∃ r, r = R[k] := ⟨_, rfl⟩
      rw [← hr0] at hw1 hw2 hw3
      simp only at hw1 hw2 hw3
      have hcut : (R.take (k + 1)).drop k = [⟨c, ws⟩] := by rw [List.take_succ_eq_append_getElem hk', List.drop_append_of_le_length (by rw [List.length_take]; omega), List.drop_of_length_le (by rw [List.length_take]; omega), ← hr0]; rfl
      have ek : ((k : Int) + 1).toNat = k + 1 := by omega
      have hMay := f25 (m := m) (R := [⟨c, ws⟩]) hsm ⟨by simp, by simp only [List.mem_singleton]; rintro x rfl; exact ⟨⟨hw1, hw2⟩, hw3⟩⟩
      simp only [List.all_cons, List.all_nil, Bool.and_true, hok] at hMay
      cases hmr : mayR m.length ⟨c, ws⟩ with
      | false =>
        rw [hmr] at hMay
        simp only [push_cast, Int.reduceToNat, Int.reduceEq, Int.reduceNe, Int.reduceLT, Int.reduceLE, Int.reduceAdd, Int.reduceSub, Int.reduceMul, Int.reduceNeg, Nat.reduceEqDiff, Nat.reduceBEq, Nat.reduceBNe, Nat.reduceAdd, Nat.reduceLeDiff, Nat.reduceLT, Nat.reduceMul, ↓reduceIte, reduceCtorEq, eR] at hMay
        simp (maxSteps := 1000000) (disch := first | assumption | ((try simp only [LEN, LEN2]); omega)) only [push_cast, Int.reduceToNat, Int.reduceEq, Int.reduceNe, Int.reduceLT, Int.reduceLE, Int.reduceAdd, Int.reduceSub, Int.reduceMul, Int.reduceNeg, Nat.reduceEqDiff, Nat.reduceBEq, Nat.reduceBNe, Nat.reduceAdd, Nat.reduceLeDiff, Nat.reduceLT, Nat.reduceMul, ↓reduceIte, reduceCtorEq, g9, pf9, b9, h3, h4, eMaps, ← hm0, hcut, ek, eR, callC_eq hMay, callT_eq hMay]
        exact ⟨(k + 1, W', w, all), by simp, ⟨by simp only; omega, by simp only; omega, hwr, by simp only; omega, hok', hL⟩, by simp only; omega⟩
      | true =>
        rw [hmr] at hMay
        have hokr0 : okR ⟨c, ws⟩ = true := by simp only [mayR, Bool.and_eq_true] at hmr; exact hmr.1
        obtain ⟨hw, hsq⟩ := hL.okWal
        have hAdd := f35 (w := w) (n := c) (l := ws) ⟨hw1, hw2⟩ hokr0 hw
        have hcb := okR_cnt hokr0
        by_cases hfull : 512 - w.At < (cnt (spelt ⟨c, ws⟩) : Nat)
        · rw [addR_full hw hokr0 (by omega) hfull] at hAdd
          obtain ⟨a, b, a', d⟩ := w
          simp only [push_cast, Int.reduceToNat, Int.reduceEq, Int.reduceNe, Int.reduceLT, Int.reduceLE, Int.reduceAdd, Int.reduceSub, Int.reduceMul, Int.reduceNeg, Nat.reduceEqDiff, Nat.reduceBEq, Nat.reduceBNe, Nat.reduceAdd, Nat.reduceLeDiff, Nat.reduceLT, Nat.reduceMul, ↓reduceIte, reduceCtorEq, eR, layT] at hMay hAdd
          simp (maxSteps := 1000000) (disch := first | assumption | ((try simp only [LEN, LEN2]); omega)) only [push_cast, Int.reduceToNat, Int.reduceEq, Int.reduceNe, Int.reduceLT, Int.reduceLE, Int.reduceAdd, Int.reduceSub, Int.reduceMul, Int.reduceNeg, Nat.reduceEqDiff, Nat.reduceBEq, Nat.reduceBNe, Nat.reduceAdd, Nat.reduceLeDiff, Nat.reduceLT, Nat.reduceMul, ↓reduceIte, reduceCtorEq, g9, pf9, b9, h3, h4, eMaps, ← hm0, ← hr0, hcut, ek, eR, callC_eq hMay, callT_eq hMay, callC_eq hAdd, callT_eq hAdd]
          exact ⟨(k + 1, W', ⟨a, b, a', d⟩, all), by simp, ⟨by simp only; omega, by simp only; omega, hwr, by simp only; omega, hok', hL⟩, by simp only; omega⟩
        · rw [addR_ok hw hokr0 (by omega) hfull] at hAdd
          have hL2 := hL.add hokr0 (by omega)
          have hat := hL.at_
          have hpl := putsD_len (cuts w.Run w.Seq (spelt ⟨c, ws⟩)) w.At.toNat
          have hpw := putsW_len (cuts w.Run w.Seq (spelt ⟨c, ws⟩)) w.At.toNat
          have hcl := cuts_len w.Run w.Seq (spelt ⟨c, ws⟩)
          have hpo := puts_ok (S := T0) (l := cuts w.Run w.Seq (spelt ⟨c, ws⟩)) (a := w.At.toNat) (by omega) cuts_32
          have hP := f34 (n := -1) hok' (smDo_puts0 (a := w.At.toNat) (l := cuts w.Run w.Seq (spelt ⟨c, ws⟩)) cuts_32 (by omega))
          rw [show upto (-1) (putsD w.At.toNat (cuts w.Run w.Seq (spelt ⟨c, ws⟩))) = (putsW w.At.toNat (cuts w.Run w.Seq (spelt ⟨c, ws⟩))).map fun p => ⟨false, p⟩ from rfl, play_puts (putsW w.At.toNat (cuts w.Run w.Seq (spelt ⟨c, ws⟩))) T0 W' hpo (by omega)] at hP
          have hok2 : okT T0 (W' ++ putsW w.At.toNat (cuts w.Run w.Seq (spelt ⟨c, ws⟩))) = true := by
            have h1 := okT_iff.1 hok'
            refine okT_iff.2 ⟨⟨h1.1.1, h1.1.2.1, by rw [List.length_append]; omega⟩, h1.2.1, fun p hp => ?_⟩
            rcases List.mem_append.1 hp with hp | hp
            · exact h1.2.2 p hp
            · exact hpo p hp
          have hov : over (flush T0 W') w.At.toNat (cuts w.Run w.Seq (spelt ⟨c, ws⟩)) = flush T0 (W' ++ putsW w.At.toNat (cuts w.Run w.Seq (spelt ⟨c, ws⟩))) := by rw [flush_app]; rfl
          rw [hov] at hL2
          obtain ⟨P2, hP2⟩ : ∃ T, T = putsW w.At.toNat (cuts w.Run w.Seq (spelt ⟨c, ws⟩)) := ⟨_, rfl⟩
          rw [← hP2] at hL2 hok2 hP hpw
          obtain ⟨D2, hD2⟩ : ∃ D, D = putsD w.At.toNat (cuts w.Run w.Seq (spelt ⟨c, ws⟩)) := ⟨_, rfl⟩
          rw [← hD2] at hAdd hP hpl
          have hsn := snocR all ⟨c, ws⟩
          obtain ⟨a, b, a', d⟩ := w
          simp only at hwr hsn
          simp only [push_cast, Int.reduceToNat, Int.reduceEq, Int.reduceNe, Int.reduceLT, Int.reduceLE, Int.reduceAdd, Int.reduceSub, Int.reduceMul, Int.reduceNeg, Nat.reduceEqDiff, Nat.reduceBEq, Nat.reduceBNe, Nat.reduceAdd, Nat.reduceLeDiff, Nat.reduceLT, Nat.reduceMul, ↓reduceIte, reduceCtorEq, cT, oT, tErr, eR, layT] at hMay hAdd hP
          simp (maxSteps := 1000000) (disch := first | assumption | ((try simp only [LEN, LEN2]); omega)) only [push_cast, Int.reduceToNat, Int.reduceEq, Int.reduceNe, Int.reduceLT, Int.reduceLE, Int.reduceAdd, Int.reduceSub, Int.reduceMul, Int.reduceNeg, Nat.reduceEqDiff, Nat.reduceBEq, Nat.reduceBNe, Nat.reduceAdd, Nat.reduceLeDiff, Nat.reduceLT, Nat.reduceMul, ↓reduceIte, reduceCtorEq, g9, pf9, b9, h3, h4, eMaps, ← hm0, ← hr0, hcut, ek, eR, callC_eq hMay, callT_eq hMay, callC_eq hAdd, callT_eq hAdd, callC_eq hP, callT_eq hP, hsn]
          exact ⟨(k + 1, W' ++ P2, _, all ++ [⟨c, ws⟩]), by simp, ⟨by simp only; omega, by simp only; omega, hwr, by simp only [List.length_append]; omega, hok2, hL2⟩, by simp only; omega⟩
    · have hC := f36 (S := T0) (W := W') (L := [1]) (by omega) (by omega) (by simp) (fun p hp => by have := (okT_iff.1 hok').2.2 p hp; exact ⟨this.1, this.2.1⟩)
      rw [crashS_one] at hC
      simp only [push_cast, Int.reduceToNat, Int.reduceEq, Int.reduceNe, Int.reduceLT, Int.reduceLE, Int.reduceAdd, Int.reduceSub, Int.reduceMul, Int.reduceNeg, Nat.reduceEqDiff, Nat.reduceBEq, Nat.reduceBNe, Nat.reduceAdd, Nat.reduceLeDiff, Nat.reduceLT, Nat.reduceMul, ↓reduceIte, reduceCtorEq, cT, oT, eN] at hC
      obtain ⟨F, hF⟩ : ∃ F, F = flush T0 W' := ⟨_, rfl⟩
      rw [← hF] at hC hL
      obtain ⟨a, b, c, d⟩ := w
      by_cases h3' : (k : Int) < R.length
      · have h4' : ¬ (k : Int) < 4 := fun h => h3 ⟨h3', h⟩
        simp (maxSteps := 1000000) (disch := first | assumption | ((try simp only [LEN, LEN2]); omega)) only [push_cast, Int.reduceToNat, Int.reduceEq, Int.reduceNe, Int.reduceLT, Int.reduceLE, Int.reduceAdd, Int.reduceSub, Int.reduceMul, Int.reduceNeg, Nat.reduceEqDiff, Nat.reduceBEq, Nat.reduceBNe, Nat.reduceAdd, Nat.reduceLeDiff, Nat.reduceLT, Nat.reduceMul, ↓reduceIte, reduceCtorEq, g9, pf9, b9, h3', h4', callC_eq hC, callT_eq hC]
        exact ⟨F, ⟨a, b, c, d⟩, all, rfl, hL, hwr⟩
      · simp (maxSteps := 1000000) (disch := first | assumption | ((try simp only [LEN, LEN2]); omega)) only [push_cast, Int.reduceToNat, Int.reduceEq, Int.reduceNe, Int.reduceLT, Int.reduceLE, Int.reduceAdd, Int.reduceSub, Int.reduceMul, Int.reduceNeg, Nat.reduceEqDiff, Nat.reduceBEq, Nat.reduceBNe, Nat.reduceAdd, Nat.reduceLeDiff, Nat.reduceLT, Nat.reduceMul, ↓reduceIte, reduceCtorEq, g9, pf9, b9, h3', callC_eq hC, callT_eq hC]
        exact ⟨F, ⟨a, b, c, d⟩, all, rfl, hL, hwr⟩)
  exact ⟨S', w, all, h1, h2, h3⟩
end Go.Mir.Tryz

set_option linter.unusedVariables false
set_option maxRecDepth 100000
namespace Go.Mir.Tryz
open Go.Proofs Go.Mir.Q
theorem decS {n : Nat} : Dec Tryz.prog (n + 1) 9 eS (fun _ => True) := dec_str Tryz.underlying9
theorem decN {n : Nat} : Dec Tryz.prog (n + 1) 3 eN okN := dec_int Tryz.underlying3
theorem decRow {n : Nat} : Dec Tryz.prog (n + 2) 81 eRow (fun _ => True) :=
  dec_struct (fun x => (⟨x.1, x.2.1⟩ : Row)) Tryz.underlying81 (decFs_cons (dec_str Tryz.underlying9) (decFs_cons (dec_str Tryz.underlying9) decFs_nil)) (fun _ => by rfl) (fun _ _ => trivial)
theorem decWrite {n : Nat} : Dec Tryz.prog (n + 2) 78 eW (fun w => okN w.Table) :=
  dec_struct (fun x => (⟨x.1, x.2.1, x.2.2.1, x.2.2.2.1⟩ : Write)) Tryz.underlying78 (decFs_cons (dec_int Tryz.underlying3) (decFs_cons (dec_str Tryz.underlying9) (decFs_cons (dec_str Tryz.underlying9) (decFs_cons (dec_bool Tryz.underlying4) decFs_nil)))) (fun _ => by rfl) (fun _ h => by exact h.1)
theorem decRec {n : Nat} : Dec Tryz.prog (n + 4) 70 eR (fun r => okN r.Commit ∧ ∀ w ∈ r.Writes, okN w.Table) :=
  dec_struct (fun x => (⟨x.1, x.2.1⟩ : Record)) Tryz.underlying70 (decFs_cons (dec_int Tryz.underlying3) (decFs_cons (dec_slice Tryz.underlying68 decWrite) decFs_nil)) (fun _ => by rfl) (fun _ h => by exact ⟨h.1, h.2.1⟩)
theorem decWal {n : Nat} : Dec Tryz.prog (n + 2) 41 eWal (fun w => okN w.Run ∧ okN w.Slot ∧ okN w.At ∧ okN w.Seq) :=
  dec_struct (fun x => (⟨x.1, x.2.1, x.2.2.1, x.2.2.2.1⟩ : Wal)) Tryz.underlying41 (decFs_cons (dec_int Tryz.underlying3) (decFs_cons (dec_int Tryz.underlying3) (decFs_cons (dec_int Tryz.underlying3) (decFs_cons (dec_int Tryz.underlying3) decFs_nil)))) (fun _ => by rfl) (fun _ h => by exact ⟨h.1, h.2.1, h.2.2.1, h.2.2.2.1⟩)
abbrev A17 := List Record × List (List UInt8) × List Int × List (List (List UInt8))
def e17 (s : A17) : List D := [.sl (s.1.map eR), .sl (s.2.1.map eS), .sl (s.2.2.1.map eN), .sl (s.2.2.2.map fun l => [.sl (l.map eS)])]
theorem dec17 {n : Nat} : Dec Tryz.prog (n + 6) 28 e17 (fun s => ∀ r ∈ s.1, okN r.Commit ∧ ∀ w ∈ r.Writes, okN w.Table) :=
  dec_struct (fun x => (x.1, x.2.1, x.2.2.1, x.2.2.2.1)) Tryz.underlying28 (decFs_cons (dec_slice Tryz.underlying23 decRec) (decFs_cons (dec_slice Tryz.underlying24 decS) (decFs_cons (dec_slice Tryz.underlying25 decN) (decFs_cons (dec_slice Tryz.underlying26 (dec_slice Tryz.underlying24 decS)) decFs_nil)))) (fun _ => by rfl) (fun _ h => by exact h.1)
abbrev A19 := List Map × A17 × List Wal × List Int × List Int
def eAsk (s : A19) : List D := [.sl (s.1.map eMaps), .sl (s.2.1.1.map eR), .sl (s.2.1.2.1.map eS), .sl (s.2.1.2.2.1.map eN), .sl (s.2.1.2.2.2.map fun l => [.sl (l.map eS)]), .sl (s.2.2.1.map eWal), .sl (s.2.2.2.1.map eN), .sl (s.2.2.2.2.map eN)]
theorem decAsk {n : Nat} : Dec Tryz.prog (n + 8) 31 eAsk (fun s => (∀ r ∈ s.2.1.1, okN r.Commit ∧ ∀ w ∈ r.Writes, okN w.Table) ∧ (∀ x ∈ s.2.2.2.1, okN x) ∧ ∀ x ∈ s.2.2.2.2, okN x) :=
  dec_struct (fun x => (x.1, x.2.1, x.2.2.1, x.2.2.2.1, x.2.2.2.2.1)) Tryz.underlying31 (decFs_cons (dec_slice Tryz.underlying22 (dec_slice Tryz.underlying39 (dec_slice Tryz.underlying79 decRow))) (decFs_cons dec17 (decFs_cons (dec_slice Tryz.underlying29 decWal) (decFs_cons (dec_slice Tryz.underlying25 decN) (decFs_cons (dec_slice Tryz.underlying25 decN) decFs_nil))))) (fun _ => by rfl) (fun _ h => by exact ⟨h.2.1, h.2.2.2.1, h.2.2.2.2.1⟩)
theorem wt_S {l : List (List UInt8)} (h : wtss (l.map eS) ≤ 1048576) : smS l :=
  ⟨by have := len_wtss (en := eS) (fun x => by simp [eS, wts, D.wt]) l; omega, fun s hs => by have := wtss_map (en := eS) hs; simp only [eS, wts, D.wt, bs_size] at this; omega⟩
theorem wt_W {l : List Write} (h : wtss (l.map eW) ≤ 1048576) : smW l :=
  ⟨by have := len_wtss (en := eW) (fun x => by simp only [eW, wts, D.wt]; omega) l; omega, fun s hs => by have := wtss_map (en := eW) hs; simp only [eW, wts, D.wt, bs_size] at this; omega⟩
theorem wt_Rows {l : List Row} (h : wtss (l.map eRow) ≤ 1048576) : smRows l :=
  ⟨by have := len_wtss (en := eRow) (fun x => by simp only [eRow, wts, D.wt]; omega) l; omega, fun s hs => by have := wtss_map (en := eRow) hs; simp only [eRow, wts, D.wt, bs_size] at this; omega⟩
theorem wt_M {m : Map} (h : wtss (m.map eMp) ≤ 1048576) : smM m :=
  ⟨by have := len_wtss (en := eMp) (fun x => by simp only [eMp, wts, D.wt]; omega) m; omega, fun l hl => wt_Rows (by have := wtss_map (en := eMp) hl; simp only [eMp, wts, D.wt] at this; omega)⟩
theorem wt_R {l : List Record} (h : wtss (l.map eR) ≤ 1048576) (hc : ∀ r ∈ l, okN r.Commit ∧ ∀ w ∈ r.Writes, okN w.Table) : smR l :=
  ⟨by have := len_wtss (en := eR) (fun x => by simp only [eR, wts, D.wt]; omega) l; omega, fun r hr => by
    have := wtss_map (en := eR) hr
    simp only [eR, wts, D.wt] at this
    exact ⟨wt_W (by omega), (hc r hr).1⟩⟩
theorem lawAsk {f : FuncId} (hf : ∀ {M : List Map} {R : List Record} {S : List (List UInt8)} {N1 : List Int} {L : List (List (List UInt8))} {W : List Wal} {K N : List Int}, smAsk M R S N1 L W K N → Fun G f [.vs true (cAsk M R S N1 L W K N)] (.bool true, [])) {ds : List D} (h : Fits Tryz.prog 9 31 ds) (hw : wts ds ≤ 1048576) : ∃ k, callK G k f [.vs true (dsV ds)] = some (.bool true, []) := by
  obtain ⟨⟨M, ⟨R, S, N1, L⟩, W, K, N⟩, rfl, hR, hK, hN⟩ := decAsk (n := 1) ds h
  simp only [eAsk, wts, D.wt] at hw hR hK hN
  have h1 := len_wtss (en := eMaps) (fun x => by simp only [eMaps, wts, D.wt]; omega) M
  have h2 := len_wtss (en := eN) (fun x => by simp [eN, wts, D.wt]) N1
  have h3 := len_wtss (en := fun l : List (List UInt8) => [D.sl (l.map eS)]) (fun x => by simp only [wts, D.wt]; omega) L
  have h4 := len_wtss (en := eWal) (fun x => by simp only [eWal, wts, D.wt]; omega) W
  have h5 := len_wtss (en := eN) (fun x => by simp [eN, wts, D.wt]) K
  have h6 := len_wtss (en := eN) (fun x => by simp [eN, wts, D.wt]) N
  exact hf (M := M) (R := R) (S := S) (N1 := N1) (L := L) (W := W) (K := K) (N := N)
    { m := by omega
      mm := fun m hm => wt_M (by have := wtss_map (en := eMaps) hm; simp only [eMaps, wts, D.wt] at this; omega)
      r := wt_R (by omega) hR
      s := wt_S (by omega)
      n1 := by omega
      l := ⟨by omega, fun l hl => wt_S (by have := wtss_map (en := fun l : List (List UInt8) => [D.sl (l.map eS)]) hl; simp only [wts, D.wt] at this; omega)⟩
      w := by omega
      k := ⟨by omega, hK⟩
      n := ⟨by omega, hN⟩ }
end Go.Mir.Tryz

set_option linter.unusedVariables false
set_option linter.unusedSimpArgs false
set_option maxRecDepth 100000
namespace Go.Mir.Tryz
open Go.Proofs Go.Mir.Q
theorem runF_ok {run : Int} {L : List (List UInt8)} : ∀ (j : Nat) (n : Int) (m : Nat), ∀ r ∈ (runF run L j n m).1, okR r = true
  | 0, n, m => by simp [runF]
  | j + 1, n, m => by
    unfold runF
    split
    · simp
    · dsimp only
      split
      · simp
      · rename_i hk
        intro r hr
        simp only [List.mem_cons] at hr
        rcases hr with rfl | hr
        · exact (whole_sound (r := (whole1 run n (L.drop m)).1) (k := (whole1 run n (L.drop m)).2) (run := run) (n := n) (L := L.drop m) (l := L.drop m) (i := 0) (b := []) rfl hk).2
        · exact runF_ok j (n + 1) _ r hr
theorem openT_sm {S : List (List UInt8)} {tables : Nat} {m : Map} {l : List Record} {w : Wal} (hS : S.length = 512) (h : openT S tables = some (m, l, w)) : smM m ∧ (∀ r ∈ l, okR r = true) ∧ l.length ≤ 257 := by
  unfold openT at h
  cases ht : turnT (S[0]?.getD []) with
  | none => rw [ht] at h; cases h
  | some p =>
    obtain ⟨run, slot⟩ := p
    rw [ht] at h
    simp only at h
    by_cases hk : (whole1 run 0 (seg S slot)).2 = 0
    · rw [if_pos hk] at h; cases h
    · rw [if_neg hk] at h
      have hr := (whole_sound (r := (whole1 run 0 (seg S slot)).1) (k := (whole1 run 0 (seg S slot)).2) (run := run) (n := 0) (L := seg S slot) (l := seg S slot) (i := 0) (b := []) rfl hk).2
      cases hm : rowsT tables (whole1 run 0 (seg S slot)).1 with
      | none => rw [hm] at h; cases h
      | some m' =>
        rw [hm] at h
        simp only [Option.some.injEq, Prod.mk.injEq] at h
        obtain ⟨rfl, rfl, _⟩ := h
        refine ⟨?_, runF_ok _ _ _, ?_⟩
        · unfold rowsT at hm
          split at hm
          · rename_i hc
            cases hm
            refine okM_sm hc.2.2.1 ?_
            rw [hc.2.2.2]
            simp only [okR, Bool.and_eq_true, decide_eq_true_eq] at hr
            omega
          · cases hm
        · have h1 := rd_cnt run 1 (S.drop 255)
          have h2 := rd_le run 1 (S.drop 255)
          rw [List.length_drop] at h2
          omega
def oTz (x : Bool × List (List UInt8)) : List V := if x.1 then oT x.2 [] else cT x.2 []
structure OpP (n : Nat) (x : Nat × List (Bool × List (List UInt8))) : Prop where
  i : x.1 ≤ n
  i6 : x.1 ≤ 6
  l : x.2.length ≤ 3 + 5 * x.1
  sm : ∀ t ∈ x.2, smS t.2
theorem smS_32 {S : List (List UInt8)} (hl : S.length ≤ 512) (h : ∀ s ∈ S, s.length ≤ 32) : smS S := ⟨by omega, fun s hs => by have := h s hs; omega⟩
theorem xor_set (s : List UInt8) (j : Nat) (b : UInt8) : ∃ s' : List UInt8, s'.length = s.length ∧ (s.map oB).set j [V.d (D.sc (Value.int .u8 (((BitVec.ofInt IntKind.u8.bits (b.toNat : Int) ^^^ BitVec.ofInt IntKind.u8.bits 1).toNat : Int) % 256)))] = s'.map oB :=
  ⟨s.set j (byt ((BitVec.ofInt IntKind.u8.bits (b.toNat : Int) ^^^ BitVec.ofInt IntKind.u8.bits 1).toNat : Int)), by simp, by rw [List.map_set, oB_byt]⟩
theorem setS (S' : List (List UInt8)) (a : Nat) (x : List UInt8) : (S'.map oS).set a [V.d (D.sc (Value.string (bs x)))] = (S'.set a x).map oS := by rw [List.map_set]; rfl
theorem smS_set {S' : List (List UInt8)} {a : Nat} {x : List UInt8} (h : smS S') (hx : x.length ≤ 1048576) : smS (S'.set a x) := ⟨by rw [List.length_set]; exact h.1, fun s hs => by
  rcases List.mem_or_eq_of_mem_set hs with hs | rfl
  · exact h.2 s hs
  · exact hx⟩
theorem snocT (X : List (Bool × List (List UInt8))) (S' : List (List UInt8)) : X.map oTz ++ [[V.d (D.sl (S'.map eS)), V.d (D.sl [])]] = (X ++ [(false, S')]).map oTz := by simp [oTz, cT]
set_option maxHeartbeats 16000000 in
theorem f3 {M : List Map} {R : List Record} {S : List (List UInt8)} {N1 : List Int} {L : List (List (List UInt8))} {W : List Wal} {K N : List Int} (h : smAsk M R S N1 L W K N) : Fun G 3 [.vs true (cAsk M R S N1 L W K N)] (.bool true, []) := by
  obtain ⟨b, hh⟩ := f6 h
  have hM := h.m
  have hmm := h.mm
  have hK := h.k.1
  refine Fun.of_run (g := g3) (pf := pf3) rfl rfl rfl rfl ?_
  cases b with
  | true => simp (maxSteps := 1000000) (disch := first | assumption | ((try simp only [LEN, LEN2]); omega)) only [push_cast, Int.reduceToNat, Int.reduceEq, Int.reduceNe, Int.reduceLT, Int.reduceLE, Int.reduceAdd, Int.reduceSub, Int.reduceMul, Int.reduceNeg, Nat.reduceEqDiff, Nat.reduceBEq, Nat.reduceBNe, Nat.reduceAdd, Nat.reduceLeDiff, Nat.reduceLT, Nat.reduceMul, ↓reduceIte, reduceCtorEq, g3, pf3, b3, callC_eq hh, callT_eq hh]
  | false =>
  have hN := fNew0
  have hN9 := f7 (n := 9) (by omega)
  obtain ⟨Z, hZ⟩ : ∃ Z, Z = tape0 := ⟨_, rfl⟩
  obtain ⟨Z9, hZ9⟩ : ∃ Z : List (List UInt8), Z = List.replicate 9 zeros := ⟨_, rfl⟩
  have hz := tape0_len
  have hz2 := tape0_32
  rw [← hZ] at hz hz2 hN
  rw [← hZ9] at hN9
  have hz9 : Z9.length = 9 := by rw [hZ9]; simp
  have hz92 : ∀ s ∈ Z9, s.length ≤ 32 := fun s hs => by rw [hZ9] at hs; rw [List.eq_of_mem_replicate hs]; decide
  simp only [push_cast, Int.reduceToNat, Int.reduceEq, Int.reduceNe, Int.reduceLT, Int.reduceLE, Int.reduceAdd, Int.reduceSub, Int.reduceMul, Int.reduceNeg, Nat.reduceEqDiff, Nat.reduceBEq, Nat.reduceBNe, Nat.reduceAdd, Nat.reduceLeDiff, Nat.reduceLT, Nat.reduceMul, ↓reduceIte, reduceCtorEq, oT] at hN hN9
  simp (maxSteps := 1000000) (disch := first | assumption | ((try simp only [LEN, LEN2]); omega)) only [push_cast, Int.reduceToNat, Int.reduceEq, Int.reduceNe, Int.reduceLT, Int.reduceLE, Int.reduceAdd, Int.reduceSub, Int.reduceMul, Int.reduceNeg, Nat.reduceEqDiff, Nat.reduceBEq, Nat.reduceBNe, Nat.reduceAdd, Nat.reduceLeDiff, Nat.reduceLT, Nat.reduceMul, ↓reduceIte, reduceCtorEq, g3, pf3, b3, callC_eq hh, callT_eq hh, callC_eq hN, callT_eq hN, callC_eq hN9, callT_eq hN9]
  refine run_loop' (fun x : Nat × List (Bool × List (List UInt8)) => [(1, T.one (.box (cAsk M R S N1 L W K N))), (3, T.one (.own 35 (x.2.map oTz))), (4, T.int .i64 x.1)]) (OpP M.length) (fun x => M.length - x.1) (0, [(true, []), (true, Z), (true, Z9)]) (by simp [oTz]) ⟨by simp, by simp, by simp, by
    simp only [List.mem_cons, List.not_mem_nil, or_false]
    rintro t (rfl | rfl | rfl)
    · exact ⟨by simp, by simp⟩
    · exact smS_32 (by simp only; omega) (fun s hs => by have := hz2 s hs; omega)
    · exact smS_32 (by simp only; omega) hz92⟩ (fun ⟨i, X⟩ hi => ?_)
  obtain ⟨hi, hi6, hX, hXs⟩ := hi
  simp only at hi hi6 hX hXs
  by_cases h1 : (i : Int) < M.length ∧ (i : Int) < 6
  · obtain ⟨h1, h2⟩ := h1
    have hi' : i < M.length := by omega
    have hsm := hmm M[i] (List.getElem_mem hi')
    obtain ⟨m, hm0⟩ : ∃ m, m = M[i] := ⟨_, rfl⟩
    rw [← hm0] at hsm
    have hsm1 := hsm.1
    by_cases hab : (okM m && decide (1 ≤ m.length ∧ (image m).length ≤ 64)) = true
    · have hab2 := hab
      simp only [Bool.and_eq_true, decide_eq_true_eq] at hab2
      obtain ⟨hok, hl1, h64⟩ := hab2
      obtain ⟨S', w, all, hf, hL, hwr⟩ := f9 h hi' (by rw [← hm0]; exact hok) (by rw [← hm0]; exact hl1) (by rw [← hm0]; exact h64)
      have hlen := hL.len
      have h32 := hL.a32
      obtain ⟨a, b, c, d⟩ := w
      simp (maxSteps := 1000000) (disch := first | assumption | ((try simp only [LEN, LEN2]); omega)) only [push_cast, Int.reduceToNat, Int.reduceEq, Int.reduceNe, Int.reduceLT, Int.reduceLE, Int.reduceAdd, Int.reduceSub, Int.reduceMul, Int.reduceNeg, Nat.reduceEqDiff, Nat.reduceBEq, Nat.reduceBNe, Nat.reduceAdd, Nat.reduceLeDiff, Nat.reduceLT, Nat.reduceMul, ↓reduceIte, reduceCtorEq, g3, pf3, b3, h1, h2, eMaps, ← hm0, hab, callC_eq hf, callT_eq hf, snocT]
      have hS' := smS_32 (S := S') (by omega) (fun s hs => by have := h32 s hs; omega)
      refine run_loop' (fun x : Nat × List (Bool × List (List UInt8)) => [(1, T.one (.box (cAsk M R S N1 L W K N))), (3, T.one (.own 35 (x.2.map oTz))), (4, T.int .i64 i), (5, T.one (.box (cT S' []))), (8, T.int .i64 x.1)]) (fun x => x.1 ≤ 4 ∧ x.2.length ≤ 4 + 5 * i + x.1 ∧ ∀ t ∈ x.2, smS t.2) (fun x => 4 - x.1) (0, X ++ [(false, S')]) (by simp) ⟨by simp, by simp only [List.length_append, List.length_singleton]; omega, fun t ht => by
        rcases List.mem_append.1 ht with ht | ht
        · exact hXs t ht
        · rw [List.mem_singleton.1 ht]; exact hS'⟩ (fun ⟨k, Y⟩ hk => ?_)
      obtain ⟨hk4, hY, hYs⟩ := hk
      simp only at hk4 hY hYs
      by_cases h3 : (k : Int) < 4
      · have hWi := f11 (i := (k : Int) * 7 + K.length) (n := 32) ⟨by omega, by omega⟩ (by omega) (by omega)
        obtain ⟨j, hj⟩ : ∃ j : Nat, (((k : Int) * 7 + K.length) % 18446744073709551616) % 32 = j := Int.eq_ofNat_of_zero_le (by omega)
        have hj32 : j < 32 := by omega
        rw [hj] at hWi
        have hr5 : ((k : Int) + i) % 5 = 0 ∨ ((k : Int) + i) % 5 = 1 ∨ ((k : Int) + i) % 5 = 2 ∨ ((k : Int) + i) % 5 = 3 ∨ ((k : Int) + i) % 5 = 4 := by omega
        have hat : ∀ at' : Nat, at' < 512 → True := fun _ _ => trivial
        have hl0 : S'[0].length = 32 := h32 _ (List.getElem_mem _)
        have hl1' : S'[1].length = 32 := h32 _ (List.getElem_mem _)
        have hl2 : S'[128].length = 32 := h32 _ (List.getElem_mem _)
        have hl3 : S'[255].length = 32 := h32 _ (List.getElem_mem _)
        have hl4 : S'[256].length = 32 := h32 _ (List.getElem_mem _)
        have hCT := f10 (S := S') (W := []) (by omega) (by simp)
        simp only [push_cast, Int.reduceToNat, Int.reduceEq, Int.reduceNe, Int.reduceLT, Int.reduceLE, Int.reduceAdd, Int.reduceSub, Int.reduceMul, Int.reduceNeg, Nat.reduceEqDiff, Nat.reduceBEq, Nat.reduceBNe, Nat.reduceAdd, Nat.reduceLeDiff, Nat.reduceLT, Nat.reduceMul, ↓reduceIte, reduceCtorEq, cT, oT] at hCT
        rcases hr5 with hr5 | hr5 | hr5 | hr5 | hr5
        · have hjl : j < S'[0].length := by omega
          obtain ⟨s', hs'l, hx⟩ := xor_set S'[0] j S'[0][j]
          simp (maxSteps := 1000000) (disch := first | assumption | ((try simp only [LEN, LEN2]); omega)) only [push_cast, Int.reduceToNat, Int.reduceEq, Int.reduceNe, Int.reduceLT, Int.reduceLE, Int.reduceAdd, Int.reduceSub, Int.reduceMul, Int.reduceNeg, Nat.reduceEqDiff, Nat.reduceBEq, Nat.reduceBNe, Nat.reduceAdd, Nat.reduceLeDiff, Nat.reduceLT, Nat.reduceMul, ↓reduceIte, reduceCtorEq, g3, pf3, b3, h3, callC_eq hCT, callT_eq hCT, callC_eq hWi, callT_eq hWi, hr5, hl0, oS, oB]
          simp (maxSteps := 1000000) (disch := first | assumption | ((try simp only [LEN, LEN2]); omega)) only [push_cast, Int.reduceToNat, Int.reduceEq, Int.reduceNe, Int.reduceLT, Int.reduceLE, Int.reduceAdd, Int.reduceSub, Int.reduceMul, Int.reduceNeg, Nat.reduceEqDiff, Nat.reduceBEq, Nat.reduceBNe, Nat.reduceAdd, Nat.reduceLeDiff, Nat.reduceLT, Nat.reduceMul, ↓reduceIte, reduceCtorEq, g3, pf3, b3, hx, oS, setS, snocT]
          exact ⟨(k + 1, Y ++ [(false, S'.set 0 s')]), by simp, ⟨by simp only; omega, by simp only [List.length_append, List.length_singleton]; omega, fun t ht => by
            rcases List.mem_append.1 ht with ht | ht
            · exact hYs t ht
            · rw [List.mem_singleton.1 ht]; exact smS_set hS' (by omega)⟩, by simp only; omega⟩
        · have hjl : j < S'[1].length := by omega
          obtain ⟨s', hs'l, hx⟩ := xor_set S'[1] j S'[1][j]
          simp (maxSteps := 1000000) (disch := first | assumption | ((try simp only [LEN, LEN2]); omega)) only [push_cast, Int.reduceToNat, Int.reduceEq, Int.reduceNe, Int.reduceLT, Int.reduceLE, Int.reduceAdd, Int.reduceSub, Int.reduceMul, Int.reduceNeg, Nat.reduceEqDiff, Nat.reduceBEq, Nat.reduceBNe, Nat.reduceAdd, Nat.reduceLeDiff, Nat.reduceLT, Nat.reduceMul, ↓reduceIte, reduceCtorEq, g3, pf3, b3, h3, callC_eq hCT, callT_eq hCT, callC_eq hWi, callT_eq hWi, hr5, hl1', oS, oB]
          simp (maxSteps := 1000000) (disch := first | assumption | ((try simp only [LEN, LEN2]); omega)) only [push_cast, Int.reduceToNat, Int.reduceEq, Int.reduceNe, Int.reduceLT, Int.reduceLE, Int.reduceAdd, Int.reduceSub, Int.reduceMul, Int.reduceNeg, Nat.reduceEqDiff, Nat.reduceBEq, Nat.reduceBNe, Nat.reduceAdd, Nat.reduceLeDiff, Nat.reduceLT, Nat.reduceMul, ↓reduceIte, reduceCtorEq, g3, pf3, b3, hx, oS, setS, snocT]
          exact ⟨(k + 1, Y ++ [(false, S'.set 1 s')]), by simp, ⟨by simp only; omega, by simp only [List.length_append, List.length_singleton]; omega, fun t ht => by
            rcases List.mem_append.1 ht with ht | ht
            · exact hYs t ht
            · rw [List.mem_singleton.1 ht]; exact smS_set hS' (by omega)⟩, by simp only; omega⟩
        · have hjl : j < S'[128].length := by omega
          obtain ⟨s', hs'l, hx⟩ := xor_set S'[128] j S'[128][j]
          simp (maxSteps := 1000000) (disch := first | assumption | ((try simp only [LEN, LEN2]); omega)) only [push_cast, Int.reduceToNat, Int.reduceEq, Int.reduceNe, Int.reduceLT, Int.reduceLE, Int.reduceAdd, Int.reduceSub, Int.reduceMul, Int.reduceNeg, Nat.reduceEqDiff, Nat.reduceBEq, Nat.reduceBNe, Nat.reduceAdd, Nat.reduceLeDiff, Nat.reduceLT, Nat.reduceMul, ↓reduceIte, reduceCtorEq, g3, pf3, b3, h3, callC_eq hCT, callT_eq hCT, callC_eq hWi, callT_eq hWi, hr5, hl2, oS, oB]
          simp (maxSteps := 1000000) (disch := first | assumption | ((try simp only [LEN, LEN2]); omega)) only [push_cast, Int.reduceToNat, Int.reduceEq, Int.reduceNe, Int.reduceLT, Int.reduceLE, Int.reduceAdd, Int.reduceSub, Int.reduceMul, Int.reduceNeg, Nat.reduceEqDiff, Nat.reduceBEq, Nat.reduceBNe, Nat.reduceAdd, Nat.reduceLeDiff, Nat.reduceLT, Nat.reduceMul, ↓reduceIte, reduceCtorEq, g3, pf3, b3, hx, oS, setS, snocT]
          exact ⟨(k + 1, Y ++ [(false, S'.set 128 s')]), by simp, ⟨by simp only; omega, by simp only [List.length_append, List.length_singleton]; omega, fun t ht => by
            rcases List.mem_append.1 ht with ht | ht
            · exact hYs t ht
            · rw [List.mem_singleton.1 ht]; exact smS_set hS' (by omega)⟩, by simp only; omega⟩
        · have hjl : j < S'[255].length := by omega
          obtain ⟨s', hs'l, hx⟩ := xor_set S'[255] j S'[255][j]
          simp (maxSteps := 1000000) (disch := first | assumption | ((try simp only [LEN, LEN2]); omega)) only [push_cast, Int.reduceToNat, Int.reduceEq, Int.reduceNe, Int.reduceLT, Int.reduceLE, Int.reduceAdd, Int.reduceSub, Int.reduceMul, Int.reduceNeg, Nat.reduceEqDiff, Nat.reduceBEq, Nat.reduceBNe, Nat.reduceAdd, Nat.reduceLeDiff, Nat.reduceLT, Nat.reduceMul, ↓reduceIte, reduceCtorEq, g3, pf3, b3, h3, callC_eq hCT, callT_eq hCT, callC_eq hWi, callT_eq hWi, hr5, hl3, oS, oB]
          simp (maxSteps := 1000000) (disch := first | assumption | ((try simp only [LEN, LEN2]); omega)) only [push_cast, Int.reduceToNat, Int.reduceEq, Int.reduceNe, Int.reduceLT, Int.reduceLE, Int.reduceAdd, Int.reduceSub, Int.reduceMul, Int.reduceNeg, Nat.reduceEqDiff, Nat.reduceBEq, Nat.reduceBNe, Nat.reduceAdd, Nat.reduceLeDiff, Nat.reduceLT, Nat.reduceMul, ↓reduceIte, reduceCtorEq, g3, pf3, b3, hx, oS, setS, snocT]
          exact ⟨(k + 1, Y ++ [(false, S'.set 255 s')]), by simp, ⟨by simp only; omega, by simp only [List.length_append, List.length_singleton]; omega, fun t ht => by
            rcases List.mem_append.1 ht with ht | ht
            · exact hYs t ht
            · rw [List.mem_singleton.1 ht]; exact smS_set hS' (by omega)⟩, by simp only; omega⟩
        · have hjl : j < S'[256].length := by omega
          obtain ⟨s', hs'l, hx⟩ := xor_set S'[256] j S'[256][j]
          simp (maxSteps := 1000000) (disch := first | assumption | ((try simp only [LEN, LEN2]); omega)) only [push_cast, Int.reduceToNat, Int.reduceEq, Int.reduceNe, Int.reduceLT, Int.reduceLE, Int.reduceAdd, Int.reduceSub, Int.reduceMul, Int.reduceNeg, Nat.reduceEqDiff, Nat.reduceBEq, Nat.reduceBNe, Nat.reduceAdd, Nat.reduceLeDiff, Nat.reduceLT, Nat.reduceMul, ↓reduceIte, reduceCtorEq, g3, pf3, b3, h3, callC_eq hCT, callT_eq hCT, callC_eq hWi, callT_eq hWi, hr5, hl4, oS, oB]
          simp (maxSteps := 1000000) (disch := first | assumption | ((try simp only [LEN, LEN2]); omega)) only [push_cast, Int.reduceToNat, Int.reduceEq, Int.reduceNe, Int.reduceLT, Int.reduceLE, Int.reduceAdd, Int.reduceSub, Int.reduceMul, Int.reduceNeg, Nat.reduceEqDiff, Nat.reduceBEq, Nat.reduceBNe, Nat.reduceAdd, Nat.reduceLeDiff, Nat.reduceLT, Nat.reduceMul, ↓reduceIte, reduceCtorEq, g3, pf3, b3, hx, oS, setS, snocT]
          exact ⟨(k + 1, Y ++ [(false, S'.set 256 s')]), by simp, ⟨by simp only; omega, by simp only [List.length_append, List.length_singleton]; omega, fun t ht => by
            rcases List.mem_append.1 ht with ht | ht
            · exact hYs t ht
            · rw [List.mem_singleton.1 ht]; exact smS_set hS' (by omega)⟩, by simp only; omega⟩
      · simp (maxSteps := 1000000) (disch := first | assumption | ((try simp only [LEN, LEN2]); omega)) only [push_cast, Int.reduceToNat, Int.reduceEq, Int.reduceNe, Int.reduceLT, Int.reduceLE, Int.reduceAdd, Int.reduceSub, Int.reduceMul, Int.reduceNeg, Nat.reduceEqDiff, Nat.reduceBEq, Nat.reduceBNe, Nat.reduceAdd, Nat.reduceLeDiff, Nat.reduceLT, Nat.reduceMul, ↓reduceIte, reduceCtorEq, g3, pf3, b3, h3]
        exact ⟨(i + 1, Y), by simp, ⟨by simp only; omega, by simp only; omega, by simp only; omega, hYs⟩, by simp only; omega⟩
    · rw [Bool.not_eq_true] at hab
      simp (maxSteps := 1000000) (disch := first | assumption | ((try simp only [LEN, LEN2]); omega)) only [push_cast, Int.reduceToNat, Int.reduceEq, Int.reduceNe, Int.reduceLT, Int.reduceLE, Int.reduceAdd, Int.reduceSub, Int.reduceMul, Int.reduceNeg, Nat.reduceEqDiff, Nat.reduceBEq, Nat.reduceBNe, Nat.reduceAdd, Nat.reduceLeDiff, Nat.reduceLT, Nat.reduceMul, ↓reduceIte, reduceCtorEq, g3, pf3, b3, h1, h2, eMaps, ← hm0, hab]
      exact ⟨(i + 1, X), by simp, ⟨by simp only; omega, by simp only; omega, by simp only; omega, hXs⟩, by simp only; omega⟩
  · have hwk := f20
    have hsplit : ¬ (i : Int) < M.length ∨ (i : Int) < M.length ∧ ¬ (i : Int) < 6 := by omega
    have hE0 := f17 (a := []) (b := []) ⟨by simp, by simp⟩ ⟨by simp, by simp⟩
    have hQ0 := f18 (a := []) (b := []) (by simp) (by simp) (by simp) (by simp)
    rw [decide_eq_true rfl] at hE0 hQ0
    simp only [push_cast, Int.reduceToNat, Int.reduceEq, Int.reduceNe, Int.reduceLT, Int.reduceLE, Int.reduceAdd, Int.reduceSub, Int.reduceMul, Int.reduceNeg, Nat.reduceEqDiff, Nat.reduceBEq, Nat.reduceBNe, Nat.reduceAdd, Nat.reduceLeDiff, Nat.reduceLT, Nat.reduceMul, ↓reduceIte, reduceCtorEq] at hE0 hQ0
    rcases hsplit with h1' | ⟨h1', h2'⟩
    all_goals
      first | simp (maxSteps := 1000000) (disch := first | assumption | ((try simp only [LEN, LEN2]); omega)) only [push_cast, Int.reduceToNat, Int.reduceEq, Int.reduceNe, Int.reduceLT, Int.reduceLE, Int.reduceAdd, Int.reduceSub, Int.reduceMul, Int.reduceNeg, Nat.reduceEqDiff, Nat.reduceBEq, Nat.reduceBNe, Nat.reduceAdd, Nat.reduceLeDiff, Nat.reduceLT, Nat.reduceMul, ↓reduceIte, reduceCtorEq, g3, pf3, b3, h1', h2'] | simp (maxSteps := 1000000) (disch := first | assumption | ((try simp only [LEN, LEN2]); omega)) only [push_cast, Int.reduceToNat, Int.reduceEq, Int.reduceNe, Int.reduceLT, Int.reduceLE, Int.reduceAdd, Int.reduceSub, Int.reduceMul, Int.reduceNeg, Nat.reduceEqDiff, Nat.reduceBEq, Nat.reduceBNe, Nat.reduceAdd, Nat.reduceLeDiff, Nat.reduceLT, Nat.reduceMul, ↓reduceIte, reduceCtorEq, g3, pf3, b3, h1']
      refine run_loop' (fun q : Nat => [(3, T.one (.own 35 (X.map oTz))), (13, T.int .i64 q)]) (fun q => q ≤ X.length) (fun q => X.length - q) 0 (by simp) (Nat.zero_le _) (fun q hq => ?_)
      by_cases h3 : (q : Int) < X.length
      · have hq' : q < X.length := by omega
        have hsS := hXs X[q] (List.getElem_mem hq')
        obtain ⟨⟨bb, S2⟩, hx⟩ : ∃ x, x = X[q] := ⟨_, rfl⟩
        rw [← hx] at hsS
        simp only at hsS
        have hS1 := hsS.1
        simp (maxSteps := 1000000) (disch := first | assumption | ((try simp only [LEN, LEN2]); omega)) only [push_cast, Int.reduceToNat, Int.reduceEq, Int.reduceNe, Int.reduceLT, Int.reduceLE, Int.reduceAdd, Int.reduceSub, Int.reduceMul, Int.reduceNeg, Nat.reduceEqDiff, Nat.reduceBEq, Nat.reduceBNe, Nat.reduceAdd, Nat.reduceLeDiff, Nat.reduceLT, Nat.reduceMul, ↓reduceIte, reduceCtorEq, g3, pf3, b3, h3]
        refine run_loop' (fun n : Nat => [(3, T.one (.own 35 (X.map oTz))), (13, T.int .i64 q), (14, T.int .i64 n)]) (fun n => n ≤ 5) (fun n => 5 - n) 0 (by simp) (by omega) (fun n hn5 => ?_)
        by_cases h4 : (n : Int) ≤ 4
        · have hCT := f10 (S := S2) (W := []) (by omega) (by simp)
          have hTa := f13 (S := S2) (W := []) hsS ⟨by simp, by simp⟩
          have hEt := f19 (S := S2) (W := []) (S' := S2) (W' := []) (by omega) (by omega) (by simp) (by simp)
          rw [decide_eq_true (show S2 = S2 ∧ ([] : List Put) = [] from ⟨rfl, rfl⟩)] at hEt
          have hOp := f12 (S := S2) (W := []) (tables := n) (by omega) (by simp)
          have hz : ((n : Int)).toNat = n := by omega
          by_cases hcond : okT S2 [] = true ∧ S2.length = 512 ∧ 1 ≤ n ∧ n ≤ 3
          · obtain ⟨c1, c2, c3, c4⟩ := hcond
            have c2' : (S2.length : Int) = 512 := by omega
            have c3' : (1 : Int) ≤ n := by omega
            have c4' : (n : Int) ≤ 3 := by omega
            have hPo := f15 (S := S2) (tables := n) c1 c2 c3 c4
            have e : openP S2 [] n = match openT S2 n with | some (m, l, w) => (m, l, w, 0) | none => ([], [], ⟨0, 0, 0, 0⟩, 10) := by
              unfold openP; rw [if_pos ⟨c1, c2, rfl, c3', c4'⟩, hz] <;> rfl
            rw [e] at hOp
            rw [c1] at hTa
            unfold openQ at hPo
            cases hop : openT S2 n with
            | none =>
              rw [hop] at hOp hPo
              simp only [push_cast, Int.reduceToNat, Int.reduceEq, Int.reduceNe, Int.reduceLT, Int.reduceLE, Int.reduceAdd, Int.reduceSub, Int.reduceMul, Int.reduceNeg, Nat.reduceEqDiff, Nat.reduceBEq, Nat.reduceBNe, Nat.reduceAdd, Nat.reduceLeDiff, Nat.reduceLT, Nat.reduceMul, ↓reduceIte, reduceCtorEq, cT, oT, openR, openV] at hCT hTa hEt hOp hPo
              cases bb <;> simp (maxSteps := 1000000) (disch := first | assumption | ((try simp only [LEN, LEN2]); omega)) only [push_cast, Int.reduceToNat, Int.reduceEq, Int.reduceNe, Int.reduceLT, Int.reduceLE, Int.reduceAdd, Int.reduceSub, Int.reduceMul, Int.reduceNeg, Nat.reduceEqDiff, Nat.reduceBEq, Nat.reduceBNe, Nat.reduceAdd, Nat.reduceLeDiff, Nat.reduceLT, Nat.reduceMul, ↓reduceIte, reduceCtorEq, g3, pf3, b3, h4, ← hx, oTz, cT, oT, callC_eq hCT, callT_eq hCT, callC_eq hTa, callT_eq hTa, callC_eq hEt, callT_eq hEt, callC_eq hOp, callT_eq hOp, callC_eq hPo, callT_eq hPo, c2', c3', c4', callC_eq hE0, callT_eq hE0, callC_eq hQ0, callT_eq hQ0] <;> exact ⟨n + 1, by simp, by omega, by omega⟩
            | some p =>
              obtain ⟨pm, pl, a, b, c, d⟩ := p
              rw [hop] at hOp hPo
              obtain ⟨g1, g2, g3⟩ := openT_sm c2 hop
              have hE := f17 g1 g1
              have hQ := f18 (a := pl) (b := pl) (by omega) (by omega) (sm_R g2) (sm_R g2)
              rw [decide_eq_true rfl] at hE hQ
              simp only [push_cast, Int.reduceToNat, Int.reduceEq, Int.reduceNe, Int.reduceLT, Int.reduceLE, Int.reduceAdd, Int.reduceSub, Int.reduceMul, Int.reduceNeg, Nat.reduceEqDiff, Nat.reduceBEq, Nat.reduceBNe, Nat.reduceAdd, Nat.reduceLeDiff, Nat.reduceLT, Nat.reduceMul, ↓reduceIte, reduceCtorEq, cT, oT, openR, openV] at hCT hTa hEt hOp hPo
              cases bb <;> simp (maxSteps := 1000000) (disch := first | assumption | ((try simp only [LEN, LEN2]); omega)) only [push_cast, Int.reduceToNat, Int.reduceEq, Int.reduceNe, Int.reduceLT, Int.reduceLE, Int.reduceAdd, Int.reduceSub, Int.reduceMul, Int.reduceNeg, Nat.reduceEqDiff, Nat.reduceBEq, Nat.reduceBNe, Nat.reduceAdd, Nat.reduceLeDiff, Nat.reduceLT, Nat.reduceMul, ↓reduceIte, reduceCtorEq, g3, pf3, b3, h4, ← hx, oTz, cT, oT, callC_eq hCT, callT_eq hCT, callC_eq hTa, callT_eq hTa, callC_eq hEt, callT_eq hEt, callC_eq hOp, callT_eq hOp, callC_eq hPo, callT_eq hPo, c2', c3', c4', callC_eq hE, callT_eq hE, callC_eq hQ, callT_eq hQ] <;> exact ⟨n + 1, by simp, by omega, by omega⟩
          · have e : openP S2 [] n = ([], [], ⟨0, 0, 0, 0⟩, 1) := by
              unfold openP; rw [if_neg (fun hh => hcond ⟨hh.1, hh.2.1, by omega, by omega⟩)]
            rw [e] at hOp
            simp only [push_cast, Int.reduceToNat, Int.reduceEq, Int.reduceNe, Int.reduceLT, Int.reduceLE, Int.reduceAdd, Int.reduceSub, Int.reduceMul, Int.reduceNeg, Nat.reduceEqDiff, Nat.reduceBEq, Nat.reduceBNe, Nat.reduceAdd, Nat.reduceLeDiff, Nat.reduceLT, Nat.reduceMul, ↓reduceIte, reduceCtorEq, cT, oT, openR] at hCT hTa hEt hOp
            cases c1 : okT S2 [] with
            | false =>
              rw [c1] at hTa
              cases bb <;> simp (maxSteps := 1000000) (disch := first | assumption | ((try simp only [LEN, LEN2]); omega)) only [push_cast, Int.reduceToNat, Int.reduceEq, Int.reduceNe, Int.reduceLT, Int.reduceLE, Int.reduceAdd, Int.reduceSub, Int.reduceMul, Int.reduceNeg, Nat.reduceEqDiff, Nat.reduceBEq, Nat.reduceBNe, Nat.reduceAdd, Nat.reduceLeDiff, Nat.reduceLT, Nat.reduceMul, ↓reduceIte, reduceCtorEq, g3, pf3, b3, h4, ← hx, oTz, cT, oT, callC_eq hCT, callT_eq hCT, callC_eq hTa, callT_eq hTa, callC_eq hEt, callT_eq hEt, callC_eq hOp, callT_eq hOp, callC_eq hE0, callT_eq hE0, callC_eq hQ0, callT_eq hQ0] <;> exact ⟨n + 1, by simp, by omega, by omega⟩
            | true =>
              rw [c1] at hTa
              by_cases c2 : (S2.length : Int) = 512
              · have c3 : ¬ ((1 : Int) ≤ n ∧ (n : Int) ≤ 3) := fun hh => hcond ⟨c1, by omega, by omega, by omega⟩
                cases bb <;> simp (maxSteps := 1000000) (disch := first | assumption | ((try simp only [LEN, LEN2]); omega)) only [push_cast, Int.reduceToNat, Int.reduceEq, Int.reduceNe, Int.reduceLT, Int.reduceLE, Int.reduceAdd, Int.reduceSub, Int.reduceMul, Int.reduceNeg, Nat.reduceEqDiff, Nat.reduceBEq, Nat.reduceBNe, Nat.reduceAdd, Nat.reduceLeDiff, Nat.reduceLT, Nat.reduceMul, ↓reduceIte, reduceCtorEq, g3, pf3, b3, h4, ← hx, oTz, cT, oT, callC_eq hCT, callT_eq hCT, callC_eq hTa, callT_eq hTa, callC_eq hEt, callT_eq hEt, callC_eq hOp, callT_eq hOp, c2, c3, callC_eq hE0, callT_eq hE0, callC_eq hQ0, callT_eq hQ0] <;> exact ⟨n + 1, by simp, by omega, by omega⟩
              · cases bb <;> simp (maxSteps := 1000000) (disch := first | assumption | ((try simp only [LEN, LEN2]); omega)) only [push_cast, Int.reduceToNat, Int.reduceEq, Int.reduceNe, Int.reduceLT, Int.reduceLE, Int.reduceAdd, Int.reduceSub, Int.reduceMul, Int.reduceNeg, Nat.reduceEqDiff, Nat.reduceBEq, Nat.reduceBNe, Nat.reduceAdd, Nat.reduceLeDiff, Nat.reduceLT, Nat.reduceMul, ↓reduceIte, reduceCtorEq, g3, pf3, b3, h4, ← hx, oTz, cT, oT, callC_eq hCT, callT_eq hCT, callC_eq hTa, callT_eq hTa, callC_eq hEt, callT_eq hEt, callC_eq hOp, callT_eq hOp, c2, callC_eq hE0, callT_eq hE0, callC_eq hQ0, callT_eq hQ0] <;> exact ⟨n + 1, by simp, by omega, by omega⟩
        · simp (maxSteps := 1000000) (disch := first | assumption | ((try simp only [LEN, LEN2]); omega)) only [push_cast, Int.reduceToNat, Int.reduceEq, Int.reduceNe, Int.reduceLT, Int.reduceLE, Int.reduceAdd, Int.reduceSub, Int.reduceMul, Int.reduceNeg, Nat.reduceEqDiff, Nat.reduceBEq, Nat.reduceBNe, Nat.reduceAdd, Nat.reduceLeDiff, Nat.reduceLT, Nat.reduceMul, ↓reduceIte, reduceCtorEq, g3, pf3, b3, h4]
          exact ⟨q + 1, by simp, by omega, by omega⟩
      · simp (maxSteps := 1000000) (disch := first | assumption | ((try simp only [LEN, LEN2]); omega)) only [push_cast, Int.reduceToNat, Int.reduceEq, Int.reduceNe, Int.reduceLT, Int.reduceLE, Int.reduceAdd, Int.reduceSub, Int.reduceMul, Int.reduceNeg, Nat.reduceEqDiff, Nat.reduceBEq, Nat.reduceBNe, Nat.reduceAdd, Nat.reduceLeDiff, Nat.reduceLT, Nat.reduceMul, ↓reduceIte, reduceCtorEq, g3, pf3, b3, h3, callC_eq hwk, callT_eq hwk]
        done
end Go.Mir.Tryz
