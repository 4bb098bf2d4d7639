/- Wherever the power goes in a Save, or in adding records, and whatever stays, Open tells what the law says. Part 4 of its proof. -/
import Derived.Test.YtpjomofniedilaaGreatMirWp3
set_option linter.unusedVariables false
set_option linter.unusedSimpArgs false
set_option maxRecDepth 100000
namespace Go.Mir.Tryz
open Go.Proofs Go.Mir.Q
set_option maxHeartbeats 2000000 in
theorem f37 {l : List (List UInt8)} (hl : l.length ≤ 1000000000) : Fun G 37 [.one (.d (.sl (l.map eS)))] (.one (.own 9 (l.map oS)), []) := by
  refine Fun.of_run (g := g37) (pf := pf37) rfl rfl rfl rfl ?_
  simp (maxSteps := 1000000) (disch := first | assumption | ((try simp only [LEN, LEN2]); omega)) only [push_cast, Int.reduceToNat, Int.reduceEq, Int.reduceNe, Int.reduceLT, Int.reduceLE, Int.reduceAdd, Int.reduceSub, Int.reduceMul, Int.reduceNeg, Nat.reduceEqDiff, Nat.reduceBEq, Nat.reduceBNe, Nat.reduceAdd, Nat.reduceLeDiff, Nat.reduceLT, Nat.reduceMul, ↓reduceIte, reduceCtorEq, g37, pf37, b37]
  refine run_loop' (fun i : Nat => [(0, T.one (.d (.sl (l.map eS)))), (3, T.one (.own 9 ((l.take i).map oS))), (4, T.int .i64 i)]) (fun i => i ≤ l.length) (fun i => l.length - i) 0 rfl (Nat.zero_le _) (fun i hi => ?_)
  simp (maxSteps := 1000000) (disch := first | assumption | ((try simp only [LEN, LEN2]); omega)) only [push_cast, Int.reduceToNat, Int.reduceEq, Int.reduceNe, Int.reduceLT, Int.reduceLE, Int.reduceAdd, Int.reduceSub, Int.reduceMul, Int.reduceNeg, Nat.reduceEqDiff, Nat.reduceBEq, Nat.reduceBNe, Nat.reduceAdd, Nat.reduceLeDiff, Nat.reduceLT, Nat.reduceMul, ↓reduceIte, reduceCtorEq, g37, pf37, b37]
  refine If.dec (fun h => ?_) (fun h => ?_)
  · replace h : i < l.length := by omega
    simp (maxSteps := 1000000) (disch := first | assumption | ((try simp only [LEN, LEN2]); omega)) only [push_cast, Int.reduceToNat, Int.reduceEq, Int.reduceNe, Int.reduceLT, Int.reduceLE, Int.reduceAdd, Int.reduceSub, Int.reduceMul, Int.reduceNeg, Nat.reduceEqDiff, Nat.reduceBEq, Nat.reduceBNe, Nat.reduceAdd, Nat.reduceLeDiff, Nat.reduceLT, Nat.reduceMul, ↓reduceIte, reduceCtorEq, g37, pf37, b37, eS]
    refine ⟨i + 1, ?_, by omega, by omega⟩
    simp only [List.take_succ_eq_append_getElem h, List.map_append, List.map_cons, List.map_nil, oS, Int.natCast_add, Int.cast_ofNat_Int]
  · obtain rfl : i = l.length := by omega
    simp (maxSteps := 1000000) (disch := first | assumption | ((try simp only [LEN, LEN2]); omega)) only [push_cast, Int.reduceToNat, Int.reduceEq, Int.reduceNe, Int.reduceLT, Int.reduceLE, Int.reduceAdd, Int.reduceSub, Int.reduceMul, Int.reduceNeg, Nat.reduceEqDiff, Nat.reduceBEq, Nat.reduceBNe, Nat.reduceAdd, Nat.reduceLeDiff, Nat.reduceLT, Nat.reduceMul, ↓reduceIte, reduceCtorEq, g37, pf37, b37, eS]
    simp
theorem f37c {l : List (List UInt8)} (hl : l.length ≤ 1000000000) {g : VG} {F : Fn} {lk : Bool} {e : Env} {dst : Option Nat} {ops : List Ins} {keep : Option (List Nat)} {K : List Fr} : CallC G g F 37 [.one (.d (.sl (l.map eS)))] lk e dst ops keep K = ThenL G g F (if lk && !(T.noSl (.one (.own 9 (l.map oS)))) then none else e.put g.un dst (.one (.own 9 (l.map oS)))) ops keep K := callC_eq (f37 hl)
attribute [push_cast] f37c
set_option maxHeartbeats 2000000 in
theorem f38 {l : List (Put)} (hl : l.length ≤ 1000000000) : Fun G 38 [.one (.d (.sl (l.map eP)))] (.one (.own 72 (l.map oP)), []) := by
  refine Fun.of_run (g := g38) (pf := pf38) rfl rfl rfl rfl ?_
  simp (maxSteps := 1000000) (disch := first | assumption | ((try simp only [LEN, LEN2]); omega)) only [push_cast, Int.reduceToNat, Int.reduceEq, Int.reduceNe, Int.reduceLT, Int.reduceLE, Int.reduceAdd, Int.reduceSub, Int.reduceMul, Int.reduceNeg, Nat.reduceEqDiff, Nat.reduceBEq, Nat.reduceBNe, Nat.reduceAdd, Nat.reduceLeDiff, Nat.reduceLT, Nat.reduceMul, ↓reduceIte, reduceCtorEq, g38, pf38, b38]
  refine run_loop' (fun i : Nat => [(0, T.one (.d (.sl (l.map eP)))), (3, T.one (.own 72 ((l.take i).map oP))), (4, T.int .i64 i)]) (fun i => i ≤ l.length) (fun i => l.length - i) 0 rfl (Nat.zero_le _) (fun i hi => ?_)
  simp (maxSteps := 1000000) (disch := first | assumption | ((try simp only [LEN, LEN2]); omega)) only [push_cast, Int.reduceToNat, Int.reduceEq, Int.reduceNe, Int.reduceLT, Int.reduceLE, Int.reduceAdd, Int.reduceSub, Int.reduceMul, Int.reduceNeg, Nat.reduceEqDiff, Nat.reduceBEq, Nat.reduceBNe, Nat.reduceAdd, Nat.reduceLeDiff, Nat.reduceLT, Nat.reduceMul, ↓reduceIte, reduceCtorEq, g38, pf38, b38]
  refine If.dec (fun h => ?_) (fun h => ?_)
  · replace h : i < l.length := by omega
    simp (maxSteps := 1000000) (disch := first | assumption | ((try simp only [LEN, LEN2]); omega)) only [push_cast, Int.reduceToNat, Int.reduceEq, Int.reduceNe, Int.reduceLT, Int.reduceLE, Int.reduceAdd, Int.reduceSub, Int.reduceMul, Int.reduceNeg, Nat.reduceEqDiff, Nat.reduceBEq, Nat.reduceBNe, Nat.reduceAdd, Nat.reduceLeDiff, Nat.reduceLT, Nat.reduceMul, ↓reduceIte, reduceCtorEq, g38, pf38, b38, eP]
    refine ⟨i + 1, ?_, by omega, by omega⟩
    simp only [List.take_succ_eq_append_getElem h, List.map_append, List.map_cons, List.map_nil, oP, Int.natCast_add, Int.cast_ofNat_Int]
  · obtain rfl : i = l.length := by omega
    simp (maxSteps := 1000000) (disch := first | assumption | ((try simp only [LEN, LEN2]); omega)) only [push_cast, Int.reduceToNat, Int.reduceEq, Int.reduceNe, Int.reduceLT, Int.reduceLE, Int.reduceAdd, Int.reduceSub, Int.reduceMul, Int.reduceNeg, Nat.reduceEqDiff, Nat.reduceBEq, Nat.reduceBNe, Nat.reduceAdd, Nat.reduceLeDiff, Nat.reduceLT, Nat.reduceMul, ↓reduceIte, reduceCtorEq, g38, pf38, b38, eP]
    simp
theorem f38c {l : List (Put)} (hl : l.length ≤ 1000000000) {g : VG} {F : Fn} {lk : Bool} {e : Env} {dst : Option Nat} {ops : List Ins} {keep : Option (List Nat)} {K : List Fr} : CallC G g F 38 [.one (.d (.sl (l.map eP)))] lk e dst ops keep K = ThenL G g F (if lk && !(T.noSl (.one (.own 72 (l.map oP)))) then none else e.put g.un dst (.one (.own 72 (l.map oP)))) ops keep K := callC_eq (f38 hl)
attribute [push_cast] f38c
set_option maxHeartbeats 2000000 in
theorem f90 {l : List (Write)} (hl : l.length ≤ 1000000000) : Fun G 90 [.one (.d (.sl (l.map eW)))] (.one (.own 78 (l.map oW)), []) := by
  refine Fun.of_run (g := g90) (pf := pf90) rfl rfl rfl rfl ?_
  simp (maxSteps := 1000000) (disch := first | assumption | ((try simp only [LEN, LEN2]); omega)) only [push_cast, Int.reduceToNat, Int.reduceEq, Int.reduceNe, Int.reduceLT, Int.reduceLE, Int.reduceAdd, Int.reduceSub, Int.reduceMul, Int.reduceNeg, Nat.reduceEqDiff, Nat.reduceBEq, Nat.reduceBNe, Nat.reduceAdd, Nat.reduceLeDiff, Nat.reduceLT, Nat.reduceMul, ↓reduceIte, reduceCtorEq, g90, pf90, b90]
  refine run_loop' (fun i : Nat => [(0, T.one (.d (.sl (l.map eW)))), (3, T.one (.own 78 ((l.take i).map oW))), (4, T.int .i64 i)]) (fun i => i ≤ l.length) (fun i => l.length - i) 0 rfl (Nat.zero_le _) (fun i hi => ?_)
  simp (maxSteps := 1000000) (disch := first | assumption | ((try simp only [LEN, LEN2]); omega)) only [push_cast, Int.reduceToNat, Int.reduceEq, Int.reduceNe, Int.reduceLT, Int.reduceLE, Int.reduceAdd, Int.reduceSub, Int.reduceMul, Int.reduceNeg, Nat.reduceEqDiff, Nat.reduceBEq, Nat.reduceBNe, Nat.reduceAdd, Nat.reduceLeDiff, Nat.reduceLT, Nat.reduceMul, ↓reduceIte, reduceCtorEq, g90, pf90, b90]
  refine If.dec (fun h => ?_) (fun h => ?_)
  · replace h : i < l.length := by omega
    simp (maxSteps := 1000000) (disch := first | assumption | ((try simp only [LEN, LEN2]); omega)) only [push_cast, Int.reduceToNat, Int.reduceEq, Int.reduceNe, Int.reduceLT, Int.reduceLE, Int.reduceAdd, Int.reduceSub, Int.reduceMul, Int.reduceNeg, Nat.reduceEqDiff, Nat.reduceBEq, Nat.reduceBNe, Nat.reduceAdd, Nat.reduceLeDiff, Nat.reduceLT, Nat.reduceMul, ↓reduceIte, reduceCtorEq, g90, pf90, b90, eW]
    refine ⟨i + 1, ?_, by omega, by omega⟩
    simp only [List.take_succ_eq_append_getElem h, List.map_append, List.map_cons, List.map_nil, oW, Int.natCast_add, Int.cast_ofNat_Int]
  · obtain rfl : i = l.length := by omega
    simp (maxSteps := 1000000) (disch := first | assumption | ((try simp only [LEN, LEN2]); omega)) only [push_cast, Int.reduceToNat, Int.reduceEq, Int.reduceNe, Int.reduceLT, Int.reduceLE, Int.reduceAdd, Int.reduceSub, Int.reduceMul, Int.reduceNeg, Nat.reduceEqDiff, Nat.reduceBEq, Nat.reduceBNe, Nat.reduceAdd, Nat.reduceLeDiff, Nat.reduceLT, Nat.reduceMul, ↓reduceIte, reduceCtorEq, g90, pf90, b90, eW]
    simp
theorem f90c {l : List (Write)} (hl : l.length ≤ 1000000000) {g : VG} {F : Fn} {lk : Bool} {e : Env} {dst : Option Nat} {ops : List Ins} {keep : Option (List Nat)} {K : List Fr} : CallC G g F 90 [.one (.d (.sl (l.map eW)))] lk e dst ops keep K = ThenL G g F (if lk && !(T.noSl (.one (.own 78 (l.map oW)))) then none else e.put g.un dst (.one (.own 78 (l.map oW)))) ops keep K := callC_eq (f90 hl)
attribute [push_cast] f90c
set_option maxHeartbeats 2000000 in
theorem f50 {a b : List (Write)} (ha : a.length ≤ 1000000000) (hb : b.length ≤ 1000000000) : Fun G 50 [.one (.d (.sl (a.map eW))), .one (.d (.sl (b.map eW)))] (.bool (decide (a = b)), []) := by
  refine Fun.of_run (g := g50) (pf := pf50) rfl rfl rfl rfl ?_
  simp (maxSteps := 1000000) (disch := first | assumption | ((try simp only [LEN, LEN2]); omega)) only [push_cast, Int.reduceToNat, Int.reduceEq, Int.reduceNe, Int.reduceLT, Int.reduceLE, Int.reduceAdd, Int.reduceSub, Int.reduceMul, Int.reduceNeg, Nat.reduceEqDiff, Nat.reduceBEq, Nat.reduceBNe, Nat.reduceAdd, Nat.reduceLeDiff, Nat.reduceLT, Nat.reduceMul, ↓reduceIte, reduceCtorEq, g50, pf50, b50]
  refine If.dec (fun h => ?_) (fun h => ?_)
  · have : a ≠ b := fun e => h (by rw [e])
    simp (maxSteps := 1000000) (disch := first | assumption | ((try simp only [LEN, LEN2]); omega)) only [push_cast, Int.reduceToNat, Int.reduceEq, Int.reduceNe, Int.reduceLT, Int.reduceLE, Int.reduceAdd, Int.reduceSub, Int.reduceMul, Int.reduceNeg, Nat.reduceEqDiff, Nat.reduceBEq, Nat.reduceBNe, Nat.reduceAdd, Nat.reduceLeDiff, Nat.reduceLT, Nat.reduceMul, ↓reduceIte, reduceCtorEq, g50, pf50, b50]
    simp [this]
  simp (maxSteps := 1000000) (disch := first | assumption | ((try simp only [LEN, LEN2]); omega)) only [push_cast, Int.reduceToNat, Int.reduceEq, Int.reduceNe, Int.reduceLT, Int.reduceLE, Int.reduceAdd, Int.reduceSub, Int.reduceMul, Int.reduceNeg, Nat.reduceEqDiff, Nat.reduceBEq, Nat.reduceBNe, Nat.reduceAdd, Nat.reduceLeDiff, Nat.reduceLT, Nat.reduceMul, ↓reduceIte, reduceCtorEq, g50, pf50, b50]
  have hl : a.length = b.length := by omega
  refine run_loop' (fun i : Nat => [(0, T.one (.d (.sl (a.map eW)))), (1, T.one (.d (.sl (b.map eW)))), (5, T.int .i64 i)]) (fun i => i ≤ a.length ∧ a.take i = b.take i) (fun i => a.length - i) 0 rfl ⟨Nat.zero_le _, by simp⟩ (fun i hi => ?_)
  obtain ⟨hi, ht⟩ := hi
  simp (maxSteps := 1000000) (disch := first | assumption | ((try simp only [LEN, LEN2]); omega)) only [push_cast, Int.reduceToNat, Int.reduceEq, Int.reduceNe, Int.reduceLT, Int.reduceLE, Int.reduceAdd, Int.reduceSub, Int.reduceMul, Int.reduceNeg, Nat.reduceEqDiff, Nat.reduceBEq, Nat.reduceBNe, Nat.reduceAdd, Nat.reduceLeDiff, Nat.reduceLT, Nat.reduceMul, ↓reduceIte, reduceCtorEq, g50, pf50, b50]
  refine If.dec (fun h => ?_) (fun h => ?_)
  · replace h : i < a.length := by omega
    have h' : i < b.length := by omega
    simp (maxSteps := 1000000) (disch := first | assumption | ((try simp only [LEN, LEN2]); omega)) only [push_cast, Int.reduceToNat, Int.reduceEq, Int.reduceNe, Int.reduceLT, Int.reduceLE, Int.reduceAdd, Int.reduceSub, Int.reduceMul, Int.reduceNeg, Nat.reduceEqDiff, Nat.reduceBEq, Nat.reduceBNe, Nat.reduceAdd, Nat.reduceLeDiff, Nat.reduceLT, Nat.reduceMul, ↓reduceIte, reduceCtorEq, g50, pf50, b50, eW, eqW_fold]
    by_cases he : a[i] = b[i]
    · simp (maxSteps := 1000000) (disch := first | assumption | ((try simp only [LEN, LEN2]); omega)) only [push_cast, Int.reduceToNat, Int.reduceEq, Int.reduceNe, Int.reduceLT, Int.reduceLE, Int.reduceAdd, Int.reduceSub, Int.reduceMul, Int.reduceNeg, Nat.reduceEqDiff, Nat.reduceBEq, Nat.reduceBNe, Nat.reduceAdd, Nat.reduceLeDiff, Nat.reduceLT, Nat.reduceMul, ↓reduceIte, reduceCtorEq, g50, pf50, b50, he]
      refine ⟨i + 1, rfl, ⟨by omega, ?_⟩, by omega⟩
      rw [List.take_succ_eq_append_getElem h, List.take_succ_eq_append_getElem h', ht, he]
    · have hne : a ≠ b := fun e => he (by subst e; rfl)
      simp (maxSteps := 1000000) (disch := first | assumption | ((try simp only [LEN, LEN2]); omega)) only [push_cast, Int.reduceToNat, Int.reduceEq, Int.reduceNe, Int.reduceLT, Int.reduceLE, Int.reduceAdd, Int.reduceSub, Int.reduceMul, Int.reduceNeg, Nat.reduceEqDiff, Nat.reduceBEq, Nat.reduceBNe, Nat.reduceAdd, Nat.reduceLeDiff, Nat.reduceLT, Nat.reduceMul, ↓reduceIte, reduceCtorEq, g50, pf50, b50, he]
      simp [hne]
  · obtain rfl : i = a.length := by omega
    have : a = b := by rw [List.take_length] at ht; rw [ht, hl, List.take_length]
    simp (maxSteps := 1000000) (disch := first | assumption | ((try simp only [LEN, LEN2]); omega)) only [push_cast, Int.reduceToNat, Int.reduceEq, Int.reduceNe, Int.reduceLT, Int.reduceLE, Int.reduceAdd, Int.reduceSub, Int.reduceMul, Int.reduceNeg, Nat.reduceEqDiff, Nat.reduceBEq, Nat.reduceBNe, Nat.reduceAdd, Nat.reduceLeDiff, Nat.reduceLT, Nat.reduceMul, ↓reduceIte, reduceCtorEq, g50, pf50, b50]
    simp [this]
theorem f50c {a b : List (Write)} (ha : a.length ≤ 1000000000) (hb : b.length ≤ 1000000000) {g : VG} {F : Fn} {lk : Bool} {e : Env} {dst : Option Nat} {ops : List Ins} {keep : Option (List Nat)} {K : List Fr} : CallC G g F 50 [.one (.d (.sl (a.map eW))), .one (.d (.sl (b.map eW)))] lk e dst ops keep K = ThenL G g F (if lk && !(T.noSl (.bool (decide (a = b)))) then none else e.put g.un dst (.bool (decide (a = b)))) ops keep K := callC_eq (f50 ha hb)
attribute [push_cast] f50c
set_option maxHeartbeats 2000000 in
theorem f52 {a b : List (Row)} (ha : a.length ≤ 1000000000) (hb : b.length ≤ 1000000000) : Fun G 52 [.one (.d (.sl (a.map eRow))), .one (.d (.sl (b.map eRow)))] (.bool (decide (a = b)), []) := by
  refine Fun.of_run (g := g52) (pf := pf52) rfl rfl rfl rfl ?_
  simp (maxSteps := 1000000) (disch := first | assumption | ((try simp only [LEN, LEN2]); omega)) only [push_cast, Int.reduceToNat, Int.reduceEq, Int.reduceNe, Int.reduceLT, Int.reduceLE, Int.reduceAdd, Int.reduceSub, Int.reduceMul, Int.reduceNeg, Nat.reduceEqDiff, Nat.reduceBEq, Nat.reduceBNe, Nat.reduceAdd, Nat.reduceLeDiff, Nat.reduceLT, Nat.reduceMul, ↓reduceIte, reduceCtorEq, g52, pf52, b52]
  refine If.dec (fun h => ?_) (fun h => ?_)
  · have : a ≠ b := fun e => h (by rw [e])
    simp (maxSteps := 1000000) (disch := first | assumption | ((try simp only [LEN, LEN2]); omega)) only [push_cast, Int.reduceToNat, Int.reduceEq, Int.reduceNe, Int.reduceLT, Int.reduceLE, Int.reduceAdd, Int.reduceSub, Int.reduceMul, Int.reduceNeg, Nat.reduceEqDiff, Nat.reduceBEq, Nat.reduceBNe, Nat.reduceAdd, Nat.reduceLeDiff, Nat.reduceLT, Nat.reduceMul, ↓reduceIte, reduceCtorEq, g52, pf52, b52]
    simp [this]
  simp (maxSteps := 1000000) (disch := first | assumption | ((try simp only [LEN, LEN2]); omega)) only [push_cast, Int.reduceToNat, Int.reduceEq, Int.reduceNe, Int.reduceLT, Int.reduceLE, Int.reduceAdd, Int.reduceSub, Int.reduceMul, Int.reduceNeg, Nat.reduceEqDiff, Nat.reduceBEq, Nat.reduceBNe, Nat.reduceAdd, Nat.reduceLeDiff, Nat.reduceLT, Nat.reduceMul, ↓reduceIte, reduceCtorEq, g52, pf52, b52]
  have hl : a.length = b.length := by omega
  refine run_loop' (fun i : Nat => [(0, T.one (.d (.sl (a.map eRow)))), (1, T.one (.d (.sl (b.map eRow)))), (5, T.int .i64 i)]) (fun i => i ≤ a.length ∧ a.take i = b.take i) (fun i => a.length - i) 0 rfl ⟨Nat.zero_le _, by simp⟩ (fun i hi => ?_)
  obtain ⟨hi, ht⟩ := hi
  simp (maxSteps := 1000000) (disch := first | assumption | ((try simp only [LEN, LEN2]); omega)) only [push_cast, Int.reduceToNat, Int.reduceEq, Int.reduceNe, Int.reduceLT, Int.reduceLE, Int.reduceAdd, Int.reduceSub, Int.reduceMul, Int.reduceNeg, Nat.reduceEqDiff, Nat.reduceBEq, Nat.reduceBNe, Nat.reduceAdd, Nat.reduceLeDiff, Nat.reduceLT, Nat.reduceMul, ↓reduceIte, reduceCtorEq, g52, pf52, b52]
  refine If.dec (fun h => ?_) (fun h => ?_)
  · replace h : i < a.length := by omega
    have h' : i < b.length := by omega
    simp (maxSteps := 1000000) (disch := first | assumption | ((try simp only [LEN, LEN2]); omega)) only [push_cast, Int.reduceToNat, Int.reduceEq, Int.reduceNe, Int.reduceLT, Int.reduceLE, Int.reduceAdd, Int.reduceSub, Int.reduceMul, Int.reduceNeg, Nat.reduceEqDiff, Nat.reduceBEq, Nat.reduceBNe, Nat.reduceAdd, Nat.reduceLeDiff, Nat.reduceLT, Nat.reduceMul, ↓reduceIte, reduceCtorEq, g52, pf52, b52, eRow, eqRow_fold]
    by_cases he : a[i] = b[i]
    · simp (maxSteps := 1000000) (disch := first | assumption | ((try simp only [LEN, LEN2]); omega)) only [push_cast, Int.reduceToNat, Int.reduceEq, Int.reduceNe, Int.reduceLT, Int.reduceLE, Int.reduceAdd, Int.reduceSub, Int.reduceMul, Int.reduceNeg, Nat.reduceEqDiff, Nat.reduceBEq, Nat.reduceBNe, Nat.reduceAdd, Nat.reduceLeDiff, Nat.reduceLT, Nat.reduceMul, ↓reduceIte, reduceCtorEq, g52, pf52, b52, he]
      refine ⟨i + 1, rfl, ⟨by omega, ?_⟩, by omega⟩
      rw [List.take_succ_eq_append_getElem h, List.take_succ_eq_append_getElem h', ht, he]
    · have hne : a ≠ b := fun e => he (by subst e; rfl)
      simp (maxSteps := 1000000) (disch := first | assumption | ((try simp only [LEN, LEN2]); omega)) only [push_cast, Int.reduceToNat, Int.reduceEq, Int.reduceNe, Int.reduceLT, Int.reduceLE, Int.reduceAdd, Int.reduceSub, Int.reduceMul, Int.reduceNeg, Nat.reduceEqDiff, Nat.reduceBEq, Nat.reduceBNe, Nat.reduceAdd, Nat.reduceLeDiff, Nat.reduceLT, Nat.reduceMul, ↓reduceIte, reduceCtorEq, g52, pf52, b52, he]
      simp [hne]
  · obtain rfl : i = a.length := by omega
    have : a = b := by rw [List.take_length] at ht; rw [ht, hl, List.take_length]
    simp (maxSteps := 1000000) (disch := first | assumption | ((try simp only [LEN, LEN2]); omega)) only [push_cast, Int.reduceToNat, Int.reduceEq, Int.reduceNe, Int.reduceLT, Int.reduceLE, Int.reduceAdd, Int.reduceSub, Int.reduceMul, Int.reduceNeg, Nat.reduceEqDiff, Nat.reduceBEq, Nat.reduceBNe, Nat.reduceAdd, Nat.reduceLeDiff, Nat.reduceLT, Nat.reduceMul, ↓reduceIte, reduceCtorEq, g52, pf52, b52]
    simp [this]
theorem f52c {a b : List (Row)} (ha : a.length ≤ 1000000000) (hb : b.length ≤ 1000000000) {g : VG} {F : Fn} {lk : Bool} {e : Env} {dst : Option Nat} {ops : List Ins} {keep : Option (List Nat)} {K : List Fr} : CallC G g F 52 [.one (.d (.sl (a.map eRow))), .one (.d (.sl (b.map eRow)))] lk e dst ops keep K = ThenL G g F (if lk && !(T.noSl (.bool (decide (a = b)))) then none else e.put g.un dst (.bool (decide (a = b)))) ops keep K := callC_eq (f52 ha hb)
attribute [push_cast] f52c
set_option maxHeartbeats 2000000 in
theorem f11 {i n : Int} (h0 : okN i) (h1 : 0 < n) (h2 : n ≤ 9223372036854775807) : Fun G 11 [.int .i64 i, .int .i64 n] (.int .i64 ((i % 18446744073709551616) % n), []) := by
  refine Fun.of_run (g := g11) (pf := pf11) rfl rfl rfl rfl ?_
  have e1 : IntKind.u64.wrap i = i % 18446744073709551616 := by rw [wrap_u64]
  have e2 : IntKind.u64.wrap n = n := by rw [wrap_u64]; omega
  have e3 : IntKind.i64.wrap ((i % 18446744073709551616) % n) = (i % 18446744073709551616) % n := wrap_i64 (by have := Int.emod_nonneg (i % 18446744073709551616) (by omega : n ≠ 0); omega) (by have := Int.emod_lt_of_pos (i % 18446744073709551616) h1; omega)
  have e4 : (i % 18446744073709551616).tmod n = (i % 18446744073709551616) % n := Int.tmod_eq_emod_of_nonneg (by omega)
  simp (maxSteps := 1000000) (disch := first | assumption | ((try simp only [LEN, LEN2]); omega)) only [push_cast, Int.reduceToNat, Int.reduceEq, Int.reduceNe, Int.reduceLT, Int.reduceLE, Int.reduceAdd, Int.reduceSub, Int.reduceMul, Int.reduceNeg, Nat.reduceEqDiff, Nat.reduceBEq, Nat.reduceBNe, Nat.reduceAdd, Nat.reduceLeDiff, Nat.reduceLT, Nat.reduceMul, ↓reduceIte, reduceCtorEq, g11, pf11, b11, e1, e2, e3, e4]
theorem f11c {i n : Int} (h0 : okN i) (h1 : 0 < n) (h2 : n ≤ 9223372036854775807) {g : VG} {F : Fn} {lk : Bool} {e : Env} {dst : Option Nat} {ops : List Ins} {keep : Option (List Nat)} {K : List Fr} : CallC G g F 11 [.int .i64 i, .int .i64 n] lk e dst ops keep K = ThenL G g F (if lk && !(T.noSl (.int .i64 ((i % 18446744073709551616) % n))) then none else e.put g.un dst (.int .i64 ((i % 18446744073709551616) % n))) ops keep K := callC_eq (f11 h0 h1 h2)
attribute [push_cast] f11c
set_option maxHeartbeats 2000000 in
theorem f16 {i : Int}  : Fun G 16 [.int .i64 i] (.int .i64 i, []) := by
  refine Fun.of_run (g := g16) (pf := pf16) rfl rfl rfl rfl ?_
  simp (maxSteps := 1000000) (disch := first | assumption | ((try simp only [LEN, LEN2]); omega)) only [push_cast, Int.reduceToNat, Int.reduceEq, Int.reduceNe, Int.reduceLT, Int.reduceLE, Int.reduceAdd, Int.reduceSub, Int.reduceMul, Int.reduceNeg, Nat.reduceEqDiff, Nat.reduceBEq, Nat.reduceBNe, Nat.reduceAdd, Nat.reduceLeDiff, Nat.reduceLT, Nat.reduceMul, ↓reduceIte, reduceCtorEq, g16, pf16, b16]
theorem f16c {i : Int}  {g : VG} {F : Fn} {lk : Bool} {e : Env} {dst : Option Nat} {ops : List Ins} {keep : Option (List Nat)} {K : List Fr} : CallC G g F 16 [.int .i64 i] lk e dst ops keep K = ThenL G g F (if lk && !(T.noSl (.int .i64 i)) then none else e.put g.un dst (.int .i64 i)) ops keep K := callC_eq (f16 )
attribute [push_cast] f16c
set_option maxHeartbeats 2000000 in
theorem f14 {n a b : Int}  : Fun G 14 [.int .i64 n, .int .i64 a, .int .i64 b] (.bool (decide (a ≤ n ∧ n ≤ b)), []) := by
  refine Fun.of_run (g := g14) (pf := pf14) rfl rfl rfl rfl ?_
  by_cases h : a ≤ n <;> by_cases h' : n ≤ b <;> simp (maxSteps := 1000000) (disch := first | assumption | ((try simp only [LEN, LEN2]); omega)) only [push_cast, Int.reduceToNat, Int.reduceEq, Int.reduceNe, Int.reduceLT, Int.reduceLE, Int.reduceAdd, Int.reduceSub, Int.reduceMul, Int.reduceNeg, Nat.reduceEqDiff, Nat.reduceBEq, Nat.reduceBNe, Nat.reduceAdd, Nat.reduceLeDiff, Nat.reduceLT, Nat.reduceMul, ↓reduceIte, reduceCtorEq, g14, pf14, b14, h, h']
theorem f14c {n a b : Int}  {g : VG} {F : Fn} {lk : Bool} {e : Env} {dst : Option Nat} {ops : List Ins} {keep : Option (List Nat)} {K : List Fr} : CallC G g F 14 [.int .i64 n, .int .i64 a, .int .i64 b] lk e dst ops keep K = ThenL G g F (if lk && !(T.noSl (.bool (decide (a ≤ n ∧ n ≤ b)))) then none else e.put g.un dst (.bool (decide (a ≤ n ∧ n ≤ b)))) ops keep K := callC_eq (f14 )
attribute [push_cast] f14c
set_option maxHeartbeats 2000000 in
theorem f45 {n a : Int}  : Fun G 45 [.int .i64 n, .int .i64 a] (.bool (decide (0 ≤ n ∧ n ≤ a)), []) := by
  refine Fun.of_run (g := g45) (pf := pf45) rfl rfl rfl rfl ?_
  by_cases h : 0 ≤ n <;> by_cases h' : n ≤ a <;> simp (maxSteps := 1000000) (disch := first | assumption | ((try simp only [LEN, LEN2]); omega)) only [push_cast, Int.reduceToNat, Int.reduceEq, Int.reduceNe, Int.reduceLT, Int.reduceLE, Int.reduceAdd, Int.reduceSub, Int.reduceMul, Int.reduceNeg, Nat.reduceEqDiff, Nat.reduceBEq, Nat.reduceBNe, Nat.reduceAdd, Nat.reduceLeDiff, Nat.reduceLT, Nat.reduceMul, ↓reduceIte, reduceCtorEq, g45, pf45, b45, h, h']
theorem f45c {n a : Int}  {g : VG} {F : Fn} {lk : Bool} {e : Env} {dst : Option Nat} {ops : List Ins} {keep : Option (List Nat)} {K : List Fr} : CallC G g F 45 [.int .i64 n, .int .i64 a] lk e dst ops keep K = ThenL G g F (if lk && !(T.noSl (.bool (decide (0 ≤ n ∧ n ≤ a)))) then none else e.put g.un dst (.bool (decide (0 ≤ n ∧ n ≤ a)))) ops keep K := callC_eq (f45 )
attribute [push_cast] f45c
abbrev oT (S : List (List UInt8)) (W : List Put) : List V := [.own 9 (S.map oS), .own 72 (W.map oP)]
set_option maxHeartbeats 2000000 in
theorem f10 {S : List (List UInt8)} {W : List Put} (h1 : S.length ≤ 1000000000) (h3 : W.length ≤ 1000000000) : Fun G 10 [.vs true (cT S W)] (.vs true (oT S W), []) := by
  refine Fun.of_run (g := g10) (pf := pf10) rfl rfl rfl rfl ?_
  simp (maxSteps := 1000000) (disch := first | assumption | ((try simp only [LEN, LEN2]); omega)) only [push_cast, Int.reduceToNat, Int.reduceEq, Int.reduceNe, Int.reduceLT, Int.reduceLE, Int.reduceAdd, Int.reduceSub, Int.reduceMul, Int.reduceNeg, Nat.reduceEqDiff, Nat.reduceBEq, Nat.reduceBNe, Nat.reduceAdd, Nat.reduceLeDiff, Nat.reduceLT, Nat.reduceMul, ↓reduceIte, reduceCtorEq, g10, pf10, b10]
theorem f10c {S : List (List UInt8)} {W : List Put} (h1 : S.length ≤ 1000000000) (h3 : W.length ≤ 1000000000) {g : VG} {F : Fn} {lk : Bool} {e : Env} {dst : Option Nat} {ops : List Ins} {keep : Option (List Nat)} {K : List Fr} : CallC G g F 10 [.vs true (cT S W)] lk e dst ops keep K = ThenL G g F (if lk && !(T.noSl (.vs true (oT S W))) then none else e.put g.un dst (.vs true (oT S W))) ops keep K := callC_eq (f10 h1 h3)
attribute [push_cast] f10c
def oMp (l : List Row) : List V := [.own 81 (l.map oRow)]
theorem toDss_oMp (l : Map) : toDss (l.map oMp) = some (l.map eMp) := toDss_map (fun x => by simp [oMp, eMp, toDs, V.toD, toDss_oRow]) l
theorem noSlss_oMp (l : Map) : noSlss (l.map oMp) = true := noSlss_map (fun x => by simp [oMp, noSls, V.noSl, noSlss_oRow]) l
attribute [push_cast] toDss_oMp noSlss_oMp
set_option maxHeartbeats 2000000 in
theorem f17 {a b : Map} (ha : smM a) (hb : smM b) : Fun G 17 [.one (.d (.sl (a.map eMp))), .one (.d (.sl (b.map eMp)))] (.bool (decide (a = b)), []) := by
  refine Fun.of_run (g := g17) (pf := pf17) rfl rfl rfl rfl ?_
  obtain ⟨ha, ha2⟩ := ha
  obtain ⟨hb, hb2⟩ := hb
  simp (maxSteps := 1000000) (disch := first | assumption | ((try simp only [LEN, LEN2]); omega)) only [push_cast, Int.reduceToNat, Int.reduceEq, Int.reduceNe, Int.reduceLT, Int.reduceLE, Int.reduceAdd, Int.reduceSub, Int.reduceMul, Int.reduceNeg, Nat.reduceEqDiff, Nat.reduceBEq, Nat.reduceBNe, Nat.reduceAdd, Nat.reduceLeDiff, Nat.reduceLT, Nat.reduceMul, ↓reduceIte, reduceCtorEq, g17, pf17, b17]
  refine If.dec (fun h => ?_) (fun h => ?_)
  · have : a ≠ b := fun e => h (by rw [e])
    simp (maxSteps := 1000000) (disch := first | assumption | ((try simp only [LEN, LEN2]); omega)) only [push_cast, Int.reduceToNat, Int.reduceEq, Int.reduceNe, Int.reduceLT, Int.reduceLE, Int.reduceAdd, Int.reduceSub, Int.reduceMul, Int.reduceNeg, Nat.reduceEqDiff, Nat.reduceBEq, Nat.reduceBNe, Nat.reduceAdd, Nat.reduceLeDiff, Nat.reduceLT, Nat.reduceMul, ↓reduceIte, reduceCtorEq, g17, pf17, b17]
    simp [this]
  simp (maxSteps := 1000000) (disch := first | assumption | ((try simp only [LEN, LEN2]); omega)) only [push_cast, Int.reduceToNat, Int.reduceEq, Int.reduceNe, Int.reduceLT, Int.reduceLE, Int.reduceAdd, Int.reduceSub, Int.reduceMul, Int.reduceNeg, Nat.reduceEqDiff, Nat.reduceBEq, Nat.reduceBNe, Nat.reduceAdd, Nat.reduceLeDiff, Nat.reduceLT, Nat.reduceMul, ↓reduceIte, reduceCtorEq, g17, pf17, b17]
  have hl : a.length = b.length := by omega
  refine run_loop' (fun i : Nat => [(0, T.one (.d (.sl (a.map eMp)))), (1, T.one (.d (.sl (b.map eMp)))), (5, T.int .i64 i)]) (fun i => i ≤ a.length ∧ a.take i = b.take i) (fun i => a.length - i) 0 rfl ⟨Nat.zero_le _, by simp⟩ (fun i hi => ?_)
  obtain ⟨hi, ht⟩ := hi
  simp (maxSteps := 1000000) (disch := first | assumption | ((try simp only [LEN, LEN2]); omega)) only [push_cast, Int.reduceToNat, Int.reduceEq, Int.reduceNe, Int.reduceLT, Int.reduceLE, Int.reduceAdd, Int.reduceSub, Int.reduceMul, Int.reduceNeg, Nat.reduceEqDiff, Nat.reduceBEq, Nat.reduceBNe, Nat.reduceAdd, Nat.reduceLeDiff, Nat.reduceLT, Nat.reduceMul, ↓reduceIte, reduceCtorEq, g17, pf17, b17]
  refine If.dec (fun h => ?_) (fun h => ?_)
  · replace h : i < a.length := by omega
    have h' : i < b.length := by omega
    have h1 := (ha2 a[i] (List.getElem_mem h)).1
    have h2 := (hb2 b[i] (List.getElem_mem h')).1
    simp (maxSteps := 1000000) (disch := first | assumption | ((try simp only [LEN, LEN2]); omega)) only [push_cast, Int.reduceToNat, Int.reduceEq, Int.reduceNe, Int.reduceLT, Int.reduceLE, Int.reduceAdd, Int.reduceSub, Int.reduceMul, Int.reduceNeg, Nat.reduceEqDiff, Nat.reduceBEq, Nat.reduceBNe, Nat.reduceAdd, Nat.reduceLeDiff, Nat.reduceLT, Nat.reduceMul, ↓reduceIte, reduceCtorEq, g17, pf17, b17, eMp]
    by_cases he : a[i] = b[i]
    · simp (maxSteps := 1000000) (disch := first | assumption | ((try simp only [LEN, LEN2]); omega)) only [push_cast, Int.reduceToNat, Int.reduceEq, Int.reduceNe, Int.reduceLT, Int.reduceLE, Int.reduceAdd, Int.reduceSub, Int.reduceMul, Int.reduceNeg, Nat.reduceEqDiff, Nat.reduceBEq, Nat.reduceBNe, Nat.reduceAdd, Nat.reduceLeDiff, Nat.reduceLT, Nat.reduceMul, ↓reduceIte, reduceCtorEq, g17, pf17, b17, he]
      refine ⟨i + 1, rfl, ⟨by omega, ?_⟩, by omega⟩
      rw [List.take_succ_eq_append_getElem h, List.take_succ_eq_append_getElem h', ht, he]
    · have hne : a ≠ b := fun e => he (by subst e; rfl)
      simp (maxSteps := 1000000) (disch := first | assumption | ((try simp only [LEN, LEN2]); omega)) only [push_cast, Int.reduceToNat, Int.reduceEq, Int.reduceNe, Int.reduceLT, Int.reduceLE, Int.reduceAdd, Int.reduceSub, Int.reduceMul, Int.reduceNeg, Nat.reduceEqDiff, Nat.reduceBEq, Nat.reduceBNe, Nat.reduceAdd, Nat.reduceLeDiff, Nat.reduceLT, Nat.reduceMul, ↓reduceIte, reduceCtorEq, g17, pf17, b17, he]
      simp [hne]
  · obtain rfl : i = a.length := by omega
    have : a = b := by rw [List.take_length] at ht; rw [ht, hl, List.take_length]
    simp (maxSteps := 1000000) (disch := first | assumption | ((try simp only [LEN, LEN2]); omega)) only [push_cast, Int.reduceToNat, Int.reduceEq, Int.reduceNe, Int.reduceLT, Int.reduceLE, Int.reduceAdd, Int.reduceSub, Int.reduceMul, Int.reduceNeg, Nat.reduceEqDiff, Nat.reduceBEq, Nat.reduceBNe, Nat.reduceAdd, Nat.reduceLeDiff, Nat.reduceLT, Nat.reduceMul, ↓reduceIte, reduceCtorEq, g17, pf17, b17]
    simp [this]
theorem f17c {a b : Map} (ha : smM a) (hb : smM b) {g : VG} {F : Fn} {lk : Bool} {e : Env} {dst : Option Nat} {ops : List Ins} {keep : Option (List Nat)} {K : List Fr} : CallC G g F 17 [.one (.d (.sl (a.map eMp))), .one (.d (.sl (b.map eMp)))] lk e dst ops keep K = ThenL G g F (if lk && !(T.noSl (.bool (decide (a = b)))) then none else e.put g.un dst (.bool (decide (a = b)))) ops keep K := callC_eq (f17 ha hb)
attribute [push_cast] f17c
set_option maxHeartbeats 2000000 in
theorem f96 {b : Bool}  : Fun G 96 [.bool b] (.int .u8 (if b then 1 else 0), []) := by
  refine Fun.of_run (g := g96) (pf := pf96) rfl rfl rfl rfl ?_
  cases b <;> simp (maxSteps := 1000000) (disch := first | assumption | ((try simp only [LEN, LEN2]); omega)) only [push_cast, Int.reduceToNat, Int.reduceEq, Int.reduceNe, Int.reduceLT, Int.reduceLE, Int.reduceAdd, Int.reduceSub, Int.reduceMul, Int.reduceNeg, Nat.reduceEqDiff, Nat.reduceBEq, Nat.reduceBNe, Nat.reduceAdd, Nat.reduceLeDiff, Nat.reduceLT, Nat.reduceMul, ↓reduceIte, reduceCtorEq, g96, pf96, b96]
theorem f96c {b : Bool}  {g : VG} {F : Fn} {lk : Bool} {e : Env} {dst : Option Nat} {ops : List Ins} {keep : Option (List Nat)} {K : List Fr} : CallC G g F 96 [.bool b] lk e dst ops keep K = ThenL G g F (if lk && !(T.noSl (.int .u8 (if b then 1 else 0))) then none else e.put g.un dst (.int .u8 (if b then 1 else 0))) ops keep K := callC_eq (f96 )
attribute [push_cast] f96c
set_option maxHeartbeats 2000000 in
theorem f74 {s : List UInt8} (h : s.length ≤ 9223372036854775807) : Fun G 74 [.str (bs s)] (.bool (decide (1 ≤ s.length ∧ s.length ≤ 12)), []) := by
  refine Fun.of_run (g := g74) (pf := pf74) rfl rfl rfl rfl ?_
  simp (maxSteps := 1000000) (disch := first | assumption | ((try simp only [LEN, LEN2]); omega)) only [push_cast, Int.reduceToNat, Int.reduceEq, Int.reduceNe, Int.reduceLT, Int.reduceLE, Int.reduceAdd, Int.reduceSub, Int.reduceMul, Int.reduceNeg, Nat.reduceEqDiff, Nat.reduceBEq, Nat.reduceBNe, Nat.reduceAdd, Nat.reduceLeDiff, Nat.reduceLT, Nat.reduceMul, ↓reduceIte, reduceCtorEq, g74, pf74, b74]
  exact boolRes (by omega)
theorem f74c {s : List UInt8} (h : s.length ≤ 9223372036854775807) {g : VG} {F : Fn} {lk : Bool} {e : Env} {dst : Option Nat} {ops : List Ins} {keep : Option (List Nat)} {K : List Fr} : CallC G g F 74 [.str (bs s)] lk e dst ops keep K = ThenL G g F (if lk && !(T.noSl (.bool (decide (1 ≤ s.length ∧ s.length ≤ 12)))) then none else e.put g.un dst (.bool (decide (1 ≤ s.length ∧ s.length ≤ 12)))) ops keep K := callC_eq (f74 h)
attribute [push_cast] f74c
set_option maxHeartbeats 2000000 in
theorem f75 {s : List UInt8}  : Fun G 75 [.str (bs s)] (.bool (decide (s.length ≤ 20)), []) := by
  refine Fun.of_run (g := g75) (pf := pf75) rfl rfl rfl rfl ?_
  simp (maxSteps := 1000000) (disch := first | assumption | ((try simp only [LEN, LEN2]); omega)) only [push_cast, Int.reduceToNat, Int.reduceEq, Int.reduceNe, Int.reduceLT, Int.reduceLE, Int.reduceAdd, Int.reduceSub, Int.reduceMul, Int.reduceNeg, Nat.reduceEqDiff, Nat.reduceBEq, Nat.reduceBNe, Nat.reduceAdd, Nat.reduceLeDiff, Nat.reduceLT, Nat.reduceMul, ↓reduceIte, reduceCtorEq, g75, pf75, b75]
  exact boolRes (by omega)
theorem f75c {s : List UInt8}  {g : VG} {F : Fn} {lk : Bool} {e : Env} {dst : Option Nat} {ops : List Ins} {keep : Option (List Nat)} {K : List Fr} : CallC G g F 75 [.str (bs s)] lk e dst ops keep K = ThenL G g F (if lk && !(T.noSl (.bool (decide (s.length ≤ 20)))) then none else e.put g.un dst (.bool (decide (s.length ≤ 20)))) ops keep K := callC_eq (f75 )
attribute [push_cast] f75c
set_option maxHeartbeats 2000000 in
theorem f115 {s : List UInt8}  : Fun G 115 [.str (bs s)] (.bool (decide (s.length ≤ 20)), []) := by
  refine Fun.of_run (g := g115) (pf := pf115) rfl rfl rfl rfl ?_
  simp (maxSteps := 1000000) (disch := first | assumption | ((try simp only [LEN, LEN2]); omega)) only [push_cast, Int.reduceToNat, Int.reduceEq, Int.reduceNe, Int.reduceLT, Int.reduceLE, Int.reduceAdd, Int.reduceSub, Int.reduceMul, Int.reduceNeg, Nat.reduceEqDiff, Nat.reduceBEq, Nat.reduceBNe, Nat.reduceAdd, Nat.reduceLeDiff, Nat.reduceLT, Nat.reduceMul, ↓reduceIte, reduceCtorEq, g115, pf115, b115]
  exact boolRes (by omega)
theorem f115c {s : List UInt8}  {g : VG} {F : Fn} {lk : Bool} {e : Env} {dst : Option Nat} {ops : List Ins} {keep : Option (List Nat)} {K : List Fr} : CallC G g F 115 [.str (bs s)] lk e dst ops keep K = ThenL G g F (if lk && !(T.noSl (.bool (decide (s.length ≤ 20)))) then none else e.put g.un dst (.bool (decide (s.length ≤ 20)))) ops keep K := callC_eq (f115 )
attribute [push_cast] f115c
set_option maxHeartbeats 2000000 in
theorem f113 {t : Int}  : Fun G 113 [.int .i64 t] (.bool (decide (0 ≤ t ∧ t < 3)), []) := by
  refine Fun.of_run (g := g113) (pf := pf113) rfl rfl rfl rfl ?_
  by_cases h : 0 ≤ t <;> by_cases h' : t < 3 <;> simp (maxSteps := 1000000) (disch := first | assumption | ((try simp only [LEN, LEN2]); omega)) only [push_cast, Int.reduceToNat, Int.reduceEq, Int.reduceNe, Int.reduceLT, Int.reduceLE, Int.reduceAdd, Int.reduceSub, Int.reduceMul, Int.reduceNeg, Nat.reduceEqDiff, Nat.reduceBEq, Nat.reduceBNe, Nat.reduceAdd, Nat.reduceLeDiff, Nat.reduceLT, Nat.reduceMul, ↓reduceIte, reduceCtorEq, g113, pf113, b113, h, h']
theorem f113c {t : Int}  {g : VG} {F : Fn} {lk : Bool} {e : Env} {dst : Option Nat} {ops : List Ins} {keep : Option (List Nat)} {K : List Fr} : CallC G g F 113 [.int .i64 t] lk e dst ops keep K = ThenL G g F (if lk && !(T.noSl (.bool (decide (0 ≤ t ∧ t < 3)))) then none else e.put g.un dst (.bool (decide (0 ≤ t ∧ t < 3)))) ops keep K := callC_eq (f113 )
attribute [push_cast] f113c
set_option maxHeartbeats 2000000 in
theorem f114 {s : List UInt8}  : Fun G 114 [.str (bs s)] (.bool (decide (s ≠ [] ∧ s.length ≤ 12)), []) := by
  refine Fun.of_run (g := g114) (pf := pf114) rfl rfl rfl rfl ?_
  by_cases h : s = [] <;> by_cases h' : (s.length : Int) ≤ 12 <;> simp (maxSteps := 1000000) (disch := first | assumption | ((try simp only [LEN, LEN2]); omega)) only [push_cast, Int.reduceToNat, Int.reduceEq, Int.reduceNe, Int.reduceLT, Int.reduceLE, Int.reduceAdd, Int.reduceSub, Int.reduceMul, Int.reduceNeg, Nat.reduceEqDiff, Nat.reduceBEq, Nat.reduceBNe, Nat.reduceAdd, Nat.reduceLeDiff, Nat.reduceLT, Nat.reduceMul, ↓reduceIte, reduceCtorEq, g114, pf114, b114, h, h'] <;> simp <;> omega
theorem f114c {s : List UInt8}  {g : VG} {F : Fn} {lk : Bool} {e : Env} {dst : Option Nat} {ops : List Ins} {keep : Option (List Nat)} {K : List Fr} : CallC G g F 114 [.str (bs s)] lk e dst ops keep K = ThenL G g F (if lk && !(T.noSl (.bool (decide (s ≠ [] ∧ s.length ≤ 12)))) then none else e.put g.un dst (.bool (decide (s ≠ [] ∧ s.length ≤ 12)))) ops keep K := callC_eq (f114 )
attribute [push_cast] f114c
set_option maxHeartbeats 2000000 in
theorem f93 {t : Int} {k v : List UInt8} {d : Bool}  : Fun G 93 [.vs true (cW t k v d)] (.bool (okW ⟨t, k, v, d⟩), []) := by
  refine Fun.of_run (g := g93) (pf := pf93) rfl rfl rfl rfl ?_
  by_cases h1 : 0 ≤ t ∧ t < 3
  · by_cases h2 : k = []
    · simp (maxSteps := 1000000) (disch := first | assumption | ((try simp only [LEN, LEN2]); omega)) only [push_cast, Int.reduceToNat, Int.reduceEq, Int.reduceNe, Int.reduceLT, Int.reduceLE, Int.reduceAdd, Int.reduceSub, Int.reduceMul, Int.reduceNeg, Nat.reduceEqDiff, Nat.reduceBEq, Nat.reduceBNe, Nat.reduceAdd, Nat.reduceLeDiff, Nat.reduceLT, Nat.reduceMul, ↓reduceIte, reduceCtorEq, g93, pf93, b93, h1, h2]
      simp [okW]
    · by_cases h3 : k.length ≤ 12
      · by_cases h4 : v.length ≤ 20
        · cases d <;> by_cases h5 : v = [] <;> simp (maxSteps := 1000000) (disch := first | assumption | ((try simp only [LEN, LEN2]); omega)) only [push_cast, Int.reduceToNat, Int.reduceEq, Int.reduceNe, Int.reduceLT, Int.reduceLE, Int.reduceAdd, Int.reduceSub, Int.reduceMul, Int.reduceNeg, Nat.reduceEqDiff, Nat.reduceBEq, Nat.reduceBNe, Nat.reduceAdd, Nat.reduceLeDiff, Nat.reduceLT, Nat.reduceMul, ↓reduceIte, reduceCtorEq, g93, pf93, b93, h1, h2, h3, h4, h5] <;> simp [okW, *]
        · simp (maxSteps := 1000000) (disch := first | assumption | ((try simp only [LEN, LEN2]); omega)) only [push_cast, Int.reduceToNat, Int.reduceEq, Int.reduceNe, Int.reduceLT, Int.reduceLE, Int.reduceAdd, Int.reduceSub, Int.reduceMul, Int.reduceNeg, Nat.reduceEqDiff, Nat.reduceBEq, Nat.reduceBNe, Nat.reduceAdd, Nat.reduceLeDiff, Nat.reduceLT, Nat.reduceMul, ↓reduceIte, reduceCtorEq, g93, pf93, b93, h1, h2, h3, h4]
          simp [okW, *]
      · simp (maxSteps := 1000000) (disch := first | assumption | ((try simp only [LEN, LEN2]); omega)) only [push_cast, Int.reduceToNat, Int.reduceEq, Int.reduceNe, Int.reduceLT, Int.reduceLE, Int.reduceAdd, Int.reduceSub, Int.reduceMul, Int.reduceNeg, Nat.reduceEqDiff, Nat.reduceBEq, Nat.reduceBNe, Nat.reduceAdd, Nat.reduceLeDiff, Nat.reduceLT, Nat.reduceMul, ↓reduceIte, reduceCtorEq, g93, pf93, b93, h1, h2, h3]
        simp [okW, *]
  · simp (maxSteps := 1000000) (disch := first | assumption | ((try simp only [LEN, LEN2]); omega)) only [push_cast, Int.reduceToNat, Int.reduceEq, Int.reduceNe, Int.reduceLT, Int.reduceLE, Int.reduceAdd, Int.reduceSub, Int.reduceMul, Int.reduceNeg, Nat.reduceEqDiff, Nat.reduceBEq, Nat.reduceBNe, Nat.reduceAdd, Nat.reduceLeDiff, Nat.reduceLT, Nat.reduceMul, ↓reduceIte, reduceCtorEq, g93, pf93, b93, h1]
    have : okW ⟨t, k, v, d⟩ = false := by simp only [okW, decide_eq_false_iff_not]; omega
    rw [this]
theorem f93c {t : Int} {k v : List UInt8} {d : Bool}  {g : VG} {F : Fn} {lk : Bool} {e : Env} {dst : Option Nat} {ops : List Ins} {keep : Option (List Nat)} {K : List Fr} : CallC G g F 93 [.vs true (cW t k v d)] lk e dst ops keep K = ThenL G g F (if lk && !(T.noSl (.bool (okW ⟨t, k, v, d⟩))) then none else e.put g.un dst (.bool (okW ⟨t, k, v, d⟩))) ops keep K := callC_eq (f93 )
attribute [push_cast] f93c
set_option maxHeartbeats 2000000 in
theorem f91 {t : Int} {k v : List UInt8} {d : Bool} (h : k.length ≤ 9223372036854775807) : Fun G 91 [.vs true (cW t k v d)] (.bool (okW ⟨t, k, v, d⟩), []) := by
  refine Fun.of_run (g := g91) (pf := pf91) rfl rfl rfl rfl ?_
  by_cases h1 : 0 ≤ t ∧ t ≤ 2
  · by_cases h2 : 1 ≤ k.length ∧ k.length ≤ 12
    · have h0 : k ≠ [] := by intro hk; subst hk; simp at h2
      by_cases h4 : v.length ≤ 20
      · cases d <;> by_cases h5 : v = [] <;> simp (maxSteps := 1000000) (disch := first | assumption | ((try simp only [LEN, LEN2]); omega)) only [push_cast, Int.reduceToNat, Int.reduceEq, Int.reduceNe, Int.reduceLT, Int.reduceLE, Int.reduceAdd, Int.reduceSub, Int.reduceMul, Int.reduceNeg, Nat.reduceEqDiff, Nat.reduceBEq, Nat.reduceBNe, Nat.reduceAdd, Nat.reduceLeDiff, Nat.reduceLT, Nat.reduceMul, ↓reduceIte, reduceCtorEq, g91, pf91, b91, h1, h2, h4, h5] <;> simp [okW, *] <;> omega
      · simp (maxSteps := 1000000) (disch := first | assumption | ((try simp only [LEN, LEN2]); omega)) only [push_cast, Int.reduceToNat, Int.reduceEq, Int.reduceNe, Int.reduceLT, Int.reduceLE, Int.reduceAdd, Int.reduceSub, Int.reduceMul, Int.reduceNeg, Nat.reduceEqDiff, Nat.reduceBEq, Nat.reduceBNe, Nat.reduceAdd, Nat.reduceLeDiff, Nat.reduceLT, Nat.reduceMul, ↓reduceIte, reduceCtorEq, g91, pf91, b91, h1, h2, h4]
        simp [okW, *]
    · have : okW ⟨t, k, v, d⟩ = false := by
        simp only [okW, decide_eq_false_iff_not]
        rintro ⟨_, _, hk, hl, _⟩
        have := List.length_pos_iff.2 hk
        omega
      simp (maxSteps := 1000000) (disch := first | assumption | ((try simp only [LEN, LEN2]); omega)) only [push_cast, Int.reduceToNat, Int.reduceEq, Int.reduceNe, Int.reduceLT, Int.reduceLE, Int.reduceAdd, Int.reduceSub, Int.reduceMul, Int.reduceNeg, Nat.reduceEqDiff, Nat.reduceBEq, Nat.reduceBNe, Nat.reduceAdd, Nat.reduceLeDiff, Nat.reduceLT, Nat.reduceMul, ↓reduceIte, reduceCtorEq, g91, pf91, b91, h1, h2]
      rw [this]
  · simp (maxSteps := 1000000) (disch := first | assumption | ((try simp only [LEN, LEN2]); omega)) only [push_cast, Int.reduceToNat, Int.reduceEq, Int.reduceNe, Int.reduceLT, Int.reduceLE, Int.reduceAdd, Int.reduceSub, Int.reduceMul, Int.reduceNeg, Nat.reduceEqDiff, Nat.reduceBEq, Nat.reduceBNe, Nat.reduceAdd, Nat.reduceLeDiff, Nat.reduceLT, Nat.reduceMul, ↓reduceIte, reduceCtorEq, g91, pf91, b91, h1]
    have : okW ⟨t, k, v, d⟩ = false := by simp only [okW, decide_eq_false_iff_not]; omega
    rw [this]
theorem f91c {t : Int} {k v : List UInt8} {d : Bool} (h : k.length ≤ 9223372036854775807) {g : VG} {F : Fn} {lk : Bool} {e : Env} {dst : Option Nat} {ops : List Ins} {keep : Option (List Nat)} {K : List Fr} : CallC G g F 91 [.vs true (cW t k v d)] lk e dst ops keep K = ThenL G g F (if lk && !(T.noSl (.bool (okW ⟨t, k, v, d⟩))) then none else e.put g.un dst (.bool (okW ⟨t, k, v, d⟩))) ops keep K := callC_eq (f91 h)
attribute [push_cast] f91c
set_option maxHeartbeats 2000000 in
theorem f92 {t : Int} {k v : List UInt8} {d : Bool}  : Fun G 92 [.vs true (cW t k v d)] (.bool (!okW ⟨t, k, v, d⟩), []) := by
  refine Fun.of_run (g := g92) (pf := pf92) rfl rfl rfl rfl ?_
  simp (maxSteps := 1000000) (disch := first | assumption | ((try simp only [LEN, LEN2]); omega)) only [push_cast, Int.reduceToNat, Int.reduceEq, Int.reduceNe, Int.reduceLT, Int.reduceLE, Int.reduceAdd, Int.reduceSub, Int.reduceMul, Int.reduceNeg, Nat.reduceEqDiff, Nat.reduceBEq, Nat.reduceBNe, Nat.reduceAdd, Nat.reduceLeDiff, Nat.reduceLT, Nat.reduceMul, ↓reduceIte, reduceCtorEq, g92, pf92, b92]
theorem f92c {t : Int} {k v : List UInt8} {d : Bool}  {g : VG} {F : Fn} {lk : Bool} {e : Env} {dst : Option Nat} {ops : List Ins} {keep : Option (List Nat)} {K : List Fr} : CallC G g F 92 [.vs true (cW t k v d)] lk e dst ops keep K = ThenL G g F (if lk && !(T.noSl (.bool (!okW ⟨t, k, v, d⟩))) then none else e.put g.un dst (.bool (!okW ⟨t, k, v, d⟩))) ops keep K := callC_eq (f92 )
attribute [push_cast] f92c
set_option maxHeartbeats 2000000 in
theorem f53 {n m : Int} {a b : List Write} (ha : a.length ≤ 1000000000) (hb : b.length ≤ 1000000000) : Fun G 53 [.vs true [.d (.sc (.int .i64 n)), .d (.sl (a.map eW))], .vs true [.d (.sc (.int .i64 m)), .d (.sl (b.map eW))]] (.bool (decide (n = m ∧ a = b)), []) := by
  refine Fun.of_run (g := g53) (pf := pf53) rfl rfl rfl rfl ?_
  by_cases h : n = m <;> simp (maxSteps := 1000000) (disch := first | assumption | ((try simp only [LEN, LEN2]); omega)) only [push_cast, Int.reduceToNat, Int.reduceEq, Int.reduceNe, Int.reduceLT, Int.reduceLE, Int.reduceAdd, Int.reduceSub, Int.reduceMul, Int.reduceNeg, Nat.reduceEqDiff, Nat.reduceBEq, Nat.reduceBNe, Nat.reduceAdd, Nat.reduceLeDiff, Nat.reduceLT, Nat.reduceMul, ↓reduceIte, reduceCtorEq, g53, pf53, b53, h] <;> simp
theorem f53c {n m : Int} {a b : List Write} (ha : a.length ≤ 1000000000) (hb : b.length ≤ 1000000000) {g : VG} {F : Fn} {lk : Bool} {e : Env} {dst : Option Nat} {ops : List Ins} {keep : Option (List Nat)} {K : List Fr} : CallC G g F 53 [.vs true [.d (.sc (.int .i64 n)), .d (.sl (a.map eW))], .vs true [.d (.sc (.int .i64 m)), .d (.sl (b.map eW))]] lk e dst ops keep K = ThenL G g F (if lk && !(T.noSl (.bool (decide (n = m ∧ a = b)))) then none else e.put g.un dst (.bool (decide (n = m ∧ a = b)))) ops keep K := callC_eq (f53 ha hb)
attribute [push_cast] f53c
set_option maxHeartbeats 2000000 in
theorem f61 {n : Int} {a : List Write} (ha : a.length ≤ 1000000000) : Fun G 61 [.vs true [.d (.sc (.int .i64 n)), .d (.sl (a.map eW))]] (.vs true [.d (.sc (.int .i64 n)), .own 78 (a.map oW)], []) := by
  refine Fun.of_run (g := g61) (pf := pf61) rfl rfl rfl rfl ?_
  simp (maxSteps := 1000000) (disch := first | assumption | ((try simp only [LEN, LEN2]); omega)) only [push_cast, Int.reduceToNat, Int.reduceEq, Int.reduceNe, Int.reduceLT, Int.reduceLE, Int.reduceAdd, Int.reduceSub, Int.reduceMul, Int.reduceNeg, Nat.reduceEqDiff, Nat.reduceBEq, Nat.reduceBNe, Nat.reduceAdd, Nat.reduceLeDiff, Nat.reduceLT, Nat.reduceMul, ↓reduceIte, reduceCtorEq, g61, pf61, b61]
theorem f61c {n : Int} {a : List Write} (ha : a.length ≤ 1000000000) {g : VG} {F : Fn} {lk : Bool} {e : Env} {dst : Option Nat} {ops : List Ins} {keep : Option (List Nat)} {K : List Fr} : CallC G g F 61 [.vs true [.d (.sc (.int .i64 n)), .d (.sl (a.map eW))]] lk e dst ops keep K = ThenL G g F (if lk && !(T.noSl (.vs true [.d (.sc (.int .i64 n)), .own 78 (a.map oW)])) then none else e.put g.un dst (.vs true [.d (.sc (.int .i64 n)), .own 78 (a.map oW)])) ops keep K := callC_eq (f61 ha)
attribute [push_cast] f61c
theorem f73 {l : List (List UInt8)} (hl : l.length ≤ 1048576) (h : ∀ s ∈ l, s.length ≤ 1048576) : ∃ n : Int, Fun G 73 [.one (.d (.sl (l.map eS)))] (.int .i64 n, []) ∧ 0 ≤ n ∧ n ≤ 2097152 := by
  obtain ⟨r, h1, n, rfl, h2⟩ := Fun.ex_of_run (G := G) (f := 73) (args := [.one (.d (.sl (l.map eS)))]) (Q := fun r => ∃ n : Int, r = (.int .i64 n, []) ∧ 0 ≤ n ∧ n ≤ 2097152) (g := g73) (pf := pf73) rfl rfl rfl rfl (by
    simp (maxSteps := 1000000) (disch := first | assumption | ((try simp only [LEN, LEN2]); omega)) only [push_cast, Int.reduceToNat, Int.reduceEq, Int.reduceNe, Int.reduceLT, Int.reduceLE, Int.reduceAdd, Int.reduceSub, Int.reduceMul, Int.reduceNeg, Nat.reduceEqDiff, Nat.reduceBEq, Nat.reduceBNe, Nat.reduceAdd, Nat.reduceLeDiff, Nat.reduceLT, Nat.reduceMul, ↓reduceIte, reduceCtorEq, g73, pf73, b73]
    refine run_loop' (fun x : Nat × Int => [(0, T.one (.d (.sl (l.map eS)))), (3, T.int .i64 x.2), (4, T.int .i64 x.1)]) (fun x => x.1 ≤ l.length ∧ 0 ≤ x.2 ∧ x.2 ≤ 2097152) (fun x => l.length - x.1) (0, l.length) rfl (by simp only; omega) (fun ⟨i, n⟩ hi => ?_)
    simp only at hi
    by_cases h1 : (i : Int) < l.length
    · have hi' : i < l.length := by omega
      have hs := h l[i] (List.getElem_mem hi')
      simp (maxSteps := 1000000) (disch := first | assumption | ((try simp only [LEN, LEN2]); omega)) only [push_cast, Int.reduceToNat, Int.reduceEq, Int.reduceNe, Int.reduceLT, Int.reduceLE, Int.reduceAdd, Int.reduceSub, Int.reduceMul, Int.reduceNeg, Nat.reduceEqDiff, Nat.reduceBEq, Nat.reduceBNe, Nat.reduceAdd, Nat.reduceLeDiff, Nat.reduceLT, Nat.reduceMul, ↓reduceIte, reduceCtorEq, g73, pf73, b73, h1]
      refine If.dec (fun h2 => ?_) (fun h2 => ?_)
      · simp (maxSteps := 1000000) (disch := first | assumption | ((try simp only [LEN, LEN2]); omega)) only [push_cast, Int.reduceToNat, Int.reduceEq, Int.reduceNe, Int.reduceLT, Int.reduceLE, Int.reduceAdd, Int.reduceSub, Int.reduceMul, Int.reduceNeg, Nat.reduceEqDiff, Nat.reduceBEq, Nat.reduceBNe, Nat.reduceAdd, Nat.reduceLeDiff, Nat.reduceLT, Nat.reduceMul, ↓reduceIte, reduceCtorEq, g73, pf73, b73, eS]
        exact ⟨(i + 1, n + l[i].length), rfl, by simp only; omega, by simp only; omega⟩
      · simp (maxSteps := 1000000) (disch := first | assumption | ((try simp only [LEN, LEN2]); omega)) only [push_cast, Int.reduceToNat, Int.reduceEq, Int.reduceNe, Int.reduceLT, Int.reduceLE, Int.reduceAdd, Int.reduceSub, Int.reduceMul, Int.reduceNeg, Nat.reduceEqDiff, Nat.reduceBEq, Nat.reduceBNe, Nat.reduceAdd, Nat.reduceLeDiff, Nat.reduceLT, Nat.reduceMul, ↓reduceIte, reduceCtorEq, g73, pf73, b73]
        exact ⟨n, rfl, hi.2⟩
    · simp (maxSteps := 1000000) (disch := first | assumption | ((try simp only [LEN, LEN2]); omega)) only [push_cast, Int.reduceToNat, Int.reduceEq, Int.reduceNe, Int.reduceLT, Int.reduceLE, Int.reduceAdd, Int.reduceSub, Int.reduceMul, Int.reduceNeg, Nat.reduceEqDiff, Nat.reduceBEq, Nat.reduceBNe, Nat.reduceAdd, Nat.reduceLeDiff, Nat.reduceLT, Nat.reduceMul, ↓reduceIte, reduceCtorEq, g73, pf73, b73, h1]
      exact ⟨n, rfl, hi.2⟩)
  exact ⟨n, h1, h2⟩
theorem f106 {l : List Write} (hl : smW l) : ∃ n : Int, Fun G 106 [.one (.d (.sl (l.map eW)))] (.int .i64 n, []) ∧ 0 ≤ n ∧ n ≤ 2097152 := by
  obtain ⟨hl, h⟩ := hl
  obtain ⟨r, h1, n, rfl, h2⟩ := Fun.ex_of_run (G := G) (f := 106) (args := [.one (.d (.sl (l.map eW)))]) (Q := fun r => ∃ n : Int, r = (.int .i64 n, []) ∧ 0 ≤ n ∧ n ≤ 2097152) (g := g106) (pf := pf106) rfl rfl rfl rfl (by
    simp (maxSteps := 1000000) (disch := first | assumption | ((try simp only [LEN, LEN2]); omega)) only [push_cast, Int.reduceToNat, Int.reduceEq, Int.reduceNe, Int.reduceLT, Int.reduceLE, Int.reduceAdd, Int.reduceSub, Int.reduceMul, Int.reduceNeg, Nat.reduceEqDiff, Nat.reduceBEq, Nat.reduceBNe, Nat.reduceAdd, Nat.reduceLeDiff, Nat.reduceLT, Nat.reduceMul, ↓reduceIte, reduceCtorEq, g106, pf106, b106]
    refine run_loop' (fun x : Nat × Int => [(0, T.one (.d (.sl (l.map eW)))), (3, T.int .i64 x.2), (4, T.int .i64 x.1)]) (fun x => x.1 ≤ l.length ∧ 0 ≤ x.2 ∧ x.2 ≤ 2097152) (fun x => l.length - x.1) (0, l.length) rfl (by simp only; omega) (fun ⟨i, n⟩ hi => ?_)
    simp only at hi
    by_cases h1 : (i : Int) < l.length
    · have hi' : i < l.length := by omega
      have hs := h l[i] (List.getElem_mem hi')
      simp (maxSteps := 1000000) (disch := first | assumption | ((try simp only [LEN, LEN2]); omega)) only [push_cast, Int.reduceToNat, Int.reduceEq, Int.reduceNe, Int.reduceLT, Int.reduceLE, Int.reduceAdd, Int.reduceSub, Int.reduceMul, Int.reduceNeg, Nat.reduceEqDiff, Nat.reduceBEq, Nat.reduceBNe, Nat.reduceAdd, Nat.reduceLeDiff, Nat.reduceLT, Nat.reduceMul, ↓reduceIte, reduceCtorEq, g106, pf106, b106, h1]
      refine If.dec (fun h2 => ?_) (fun h2 => ?_)
      · simp (maxSteps := 1000000) (disch := first | assumption | ((try simp only [LEN, LEN2]); omega)) only [push_cast, Int.reduceToNat, Int.reduceEq, Int.reduceNe, Int.reduceLT, Int.reduceLE, Int.reduceAdd, Int.reduceSub, Int.reduceMul, Int.reduceNeg, Nat.reduceEqDiff, Nat.reduceBEq, Nat.reduceBNe, Nat.reduceAdd, Nat.reduceLeDiff, Nat.reduceLT, Nat.reduceMul, ↓reduceIte, reduceCtorEq, g106, pf106, b106, eW]
        exact ⟨(i + 1, n + ((l[i].Key.length : Int) + l[i].Value.length) / 8), rfl, by simp only; omega, by simp only; omega⟩
      · simp (maxSteps := 1000000) (disch := first | assumption | ((try simp only [LEN, LEN2]); omega)) only [push_cast, Int.reduceToNat, Int.reduceEq, Int.reduceNe, Int.reduceLT, Int.reduceLE, Int.reduceAdd, Int.reduceSub, Int.reduceMul, Int.reduceNeg, Nat.reduceEqDiff, Nat.reduceBEq, Nat.reduceBNe, Nat.reduceAdd, Nat.reduceLeDiff, Nat.reduceLT, Nat.reduceMul, ↓reduceIte, reduceCtorEq, g106, pf106, b106]
        exact ⟨n, rfl, hi.2⟩
    · simp (maxSteps := 1000000) (disch := first | assumption | ((try simp only [LEN, LEN2]); omega)) only [push_cast, Int.reduceToNat, Int.reduceEq, Int.reduceNe, Int.reduceLT, Int.reduceLE, Int.reduceAdd, Int.reduceSub, Int.reduceMul, Int.reduceNeg, Nat.reduceEqDiff, Nat.reduceBEq, Nat.reduceBNe, Nat.reduceAdd, Nat.reduceLeDiff, Nat.reduceLT, Nat.reduceMul, ↓reduceIte, reduceCtorEq, g106, pf106, b106, h1]
      exact ⟨n, rfl, hi.2⟩)
  exact ⟨n, h1, h2⟩
theorem f72 {l : List Record} (hl : smR l) : ∃ n : Int, Fun G 72 [.one (.d (.sl (l.map eR)))] (.int .i64 n, []) ∧ 0 ≤ n ∧ n ≤ 4194304 := by
  obtain ⟨hl, h⟩ := hl
  obtain ⟨r, h1, n, rfl, h2⟩ := Fun.ex_of_run (G := G) (f := 72) (args := [.one (.d (.sl (l.map eR)))]) (Q := fun r => ∃ n : Int, r = (.int .i64 n, []) ∧ 0 ≤ n ∧ n ≤ 4194304) (g := g72) (pf := pf72) rfl rfl rfl rfl (by
    simp (maxSteps := 1000000) (disch := first | assumption | ((try simp only [LEN, LEN2]); omega)) only [push_cast, Int.reduceToNat, Int.reduceEq, Int.reduceNe, Int.reduceLT, Int.reduceLE, Int.reduceAdd, Int.reduceSub, Int.reduceMul, Int.reduceNeg, Nat.reduceEqDiff, Nat.reduceBEq, Nat.reduceBNe, Nat.reduceAdd, Nat.reduceLeDiff, Nat.reduceLT, Nat.reduceMul, ↓reduceIte, reduceCtorEq, g72, pf72, b72]
    refine run_loop' (fun x : Nat × Int => [(0, T.one (.d (.sl (l.map eR)))), (3, T.int .i64 x.2), (4, T.int .i64 x.1)]) (fun x => x.1 ≤ l.length ∧ 0 ≤ x.2 ∧ x.2 ≤ 4194304) (fun x => l.length - x.1) (0, l.length) rfl (by simp only; omega) (fun ⟨i, n⟩ hi => ?_)
    simp only at hi
    by_cases h1 : (i : Int) < l.length
    · have hi' : i < l.length := by omega
      obtain ⟨m, hm, hm1, hm2⟩ := f106 (h l[i] (List.getElem_mem hi')).1
      simp (maxSteps := 1000000) (disch := first | assumption | ((try simp only [LEN, LEN2]); omega)) only [push_cast, Int.reduceToNat, Int.reduceEq, Int.reduceNe, Int.reduceLT, Int.reduceLE, Int.reduceAdd, Int.reduceSub, Int.reduceMul, Int.reduceNeg, Nat.reduceEqDiff, Nat.reduceBEq, Nat.reduceBNe, Nat.reduceAdd, Nat.reduceLeDiff, Nat.reduceLT, Nat.reduceMul, ↓reduceIte, reduceCtorEq, g72, pf72, b72, h1]
      refine If.dec (fun h2 => ?_) (fun h2 => ?_)
      · simp (maxSteps := 1000000) (disch := first | assumption | ((try simp only [LEN, LEN2]); omega)) only [push_cast, Int.reduceToNat, Int.reduceEq, Int.reduceNe, Int.reduceLT, Int.reduceLE, Int.reduceAdd, Int.reduceSub, Int.reduceMul, Int.reduceNeg, Nat.reduceEqDiff, Nat.reduceBEq, Nat.reduceBNe, Nat.reduceAdd, Nat.reduceLeDiff, Nat.reduceLT, Nat.reduceMul, ↓reduceIte, reduceCtorEq, g72, pf72, b72, eR, callC_eq hm]
        exact ⟨(i + 1, n + m), rfl, by simp only; omega, by simp only; omega⟩
      · simp (maxSteps := 1000000) (disch := first | assumption | ((try simp only [LEN, LEN2]); omega)) only [push_cast, Int.reduceToNat, Int.reduceEq, Int.reduceNe, Int.reduceLT, Int.reduceLE, Int.reduceAdd, Int.reduceSub, Int.reduceMul, Int.reduceNeg, Nat.reduceEqDiff, Nat.reduceBEq, Nat.reduceBNe, Nat.reduceAdd, Nat.reduceLeDiff, Nat.reduceLT, Nat.reduceMul, ↓reduceIte, reduceCtorEq, g72, pf72, b72]
        exact ⟨n, rfl, hi.2⟩
    · simp (maxSteps := 1000000) (disch := first | assumption | ((try simp only [LEN, LEN2]); omega)) only [push_cast, Int.reduceToNat, Int.reduceEq, Int.reduceNe, Int.reduceLT, Int.reduceLE, Int.reduceAdd, Int.reduceSub, Int.reduceMul, Int.reduceNeg, Nat.reduceEqDiff, Nat.reduceBEq, Nat.reduceBNe, Nat.reduceAdd, Nat.reduceLeDiff, Nat.reduceLT, Nat.reduceMul, ↓reduceIte, reduceCtorEq, g72, pf72, b72, h1]
      exact ⟨n, rfl, hi.2⟩)
  exact ⟨n, h1, h2⟩
theorem f29 {R : List Record} {S : List (List UInt8)} {N : List Int} {L : List (List (List UInt8))} (hR : smR R) (hS : smS S) (hN : N.length ≤ 1048576) (hL : L.length ≤ 1048576 ∧ ∀ l ∈ L, smS l) :
    ∃ b : Bool, Fun G 29 [.vs true [.d (.sl (R.map eR)), .d (.sl (S.map eS)), .d (.sl (N.map eN)), .d (.sl (L.map fun l => [.sl (l.map eS)]))]] (.bool b, []) := by
  obtain ⟨a, ha, ha1, ha2⟩ := f72 hR
  obtain ⟨c, hc, hc1, hc2⟩ := f73 hS.1 hS.2
  obtain ⟨r, h1, b, rfl⟩ := Fun.ex_of_run (G := G) (f := 29) (args := [.vs true [.d (.sl (R.map eR)), .d (.sl (S.map eS)), .d (.sl (N.map eN)), .d (.sl (L.map fun l => [.sl (l.map eS)]))]]) (Q := fun r => ∃ b : Bool, r = (.bool b, [])) (g := g29) (pf := pf29) rfl rfl rfl rfl (by
    simp (maxSteps := 1000000) (disch := first | assumption | ((try simp only [LEN, LEN2]); omega)) only [push_cast, Int.reduceToNat, Int.reduceEq, Int.reduceNe, Int.reduceLT, Int.reduceLE, Int.reduceAdd, Int.reduceSub, Int.reduceMul, Int.reduceNeg, Nat.reduceEqDiff, Nat.reduceBEq, Nat.reduceBNe, Nat.reduceAdd, Nat.reduceLeDiff, Nat.reduceLT, Nat.reduceMul, ↓reduceIte, reduceCtorEq, g29, pf29, b29, callC_eq ha, callC_eq hc]
    refine run_loop' (fun x : Nat × Int => [(1, T.one (.box [.d (.sl (R.map eR)), .d (.sl (S.map eS)), .d (.sl (N.map eN)), .d (.sl (L.map fun l => [.sl (l.map eS)]))])), (3, T.int .i64 x.2), (4, T.int .i64 x.1)]) (fun x => x.1 ≤ L.length ∧ 0 ≤ x.2 ∧ x.2 ≤ 1099511627776) (fun x => L.length - x.1) (0, a * 8 + c + N.length + L.length) rfl (by simp only; omega) (fun ⟨i, n⟩ hi => ?_)
    simp only at hi
    by_cases h1 : (i : Int) < L.length
    · have hi' : i < L.length := by omega
      have hs := hL.2 L[i] (List.getElem_mem hi')
      obtain ⟨m, hm, hm1, hm2⟩ := f73 hs.1 hs.2
      simp (maxSteps := 1000000) (disch := first | assumption | ((try simp only [LEN, LEN2]); omega)) only [push_cast, Int.reduceToNat, Int.reduceEq, Int.reduceNe, Int.reduceLT, Int.reduceLE, Int.reduceAdd, Int.reduceSub, Int.reduceMul, Int.reduceNeg, Nat.reduceEqDiff, Nat.reduceBEq, Nat.reduceBNe, Nat.reduceAdd, Nat.reduceLeDiff, Nat.reduceLT, Nat.reduceMul, ↓reduceIte, reduceCtorEq, g29, pf29, b29, h1]
      refine If.dec (fun h2 => ?_) (fun h2 => ?_)
      · simp (maxSteps := 1000000) (disch := first | assumption | ((try simp only [LEN, LEN2]); omega)) only [push_cast, Int.reduceToNat, Int.reduceEq, Int.reduceNe, Int.reduceLT, Int.reduceLE, Int.reduceAdd, Int.reduceSub, Int.reduceMul, Int.reduceNeg, Nat.reduceEqDiff, Nat.reduceBEq, Nat.reduceBNe, Nat.reduceAdd, Nat.reduceLeDiff, Nat.reduceLT, Nat.reduceMul, ↓reduceIte, reduceCtorEq, g29, pf29, b29, callC_eq hm]
        exact ⟨(i + 1, n + m), rfl, by simp only; omega, by simp only; omega⟩
      · simp (maxSteps := 1000000) (disch := first | assumption | ((try simp only [LEN, LEN2]); omega)) only [push_cast, Int.reduceToNat, Int.reduceEq, Int.reduceNe, Int.reduceLT, Int.reduceLE, Int.reduceAdd, Int.reduceSub, Int.reduceMul, Int.reduceNeg, Nat.reduceEqDiff, Nat.reduceBEq, Nat.reduceBNe, Nat.reduceAdd, Nat.reduceLeDiff, Nat.reduceLT, Nat.reduceMul, ↓reduceIte, reduceCtorEq, g29, pf29, b29]
        exact ⟨_, rfl⟩
    · simp (maxSteps := 1000000) (disch := first | assumption | ((try simp only [LEN, LEN2]); omega)) only [push_cast, Int.reduceToNat, Int.reduceEq, Int.reduceNe, Int.reduceLT, Int.reduceLE, Int.reduceAdd, Int.reduceSub, Int.reduceMul, Int.reduceNeg, Nat.reduceEqDiff, Nat.reduceBEq, Nat.reduceBNe, Nat.reduceAdd, Nat.reduceLeDiff, Nat.reduceLT, Nat.reduceMul, ↓reduceIte, reduceCtorEq, g29, pf29, b29, h1]
      exact ⟨_, rfl⟩)
  exact ⟨b, h1⟩
set_option maxHeartbeats 2000000 in
theorem f18 {a b : List Record} (ha : a.length ≤ 1000000000) (hb : b.length ≤ 1000000000) (ha' : ∀ r ∈ a, r.Writes.length ≤ 1000000000) (hb' : ∀ r ∈ b, r.Writes.length ≤ 1000000000) : Fun G 18 [.one (.d (.sl (a.map eR))), .one (.d (.sl (b.map eR)))] (.bool (decide (a = b)), []) := by
  refine Fun.of_run (g := g18) (pf := pf18) rfl rfl rfl rfl ?_
  simp (maxSteps := 1000000) (disch := first | assumption | ((try simp only [LEN, LEN2]); omega)) only [push_cast, Int.reduceToNat, Int.reduceEq, Int.reduceNe, Int.reduceLT, Int.reduceLE, Int.reduceAdd, Int.reduceSub, Int.reduceMul, Int.reduceNeg, Nat.reduceEqDiff, Nat.reduceBEq, Nat.reduceBNe, Nat.reduceAdd, Nat.reduceLeDiff, Nat.reduceLT, Nat.reduceMul, ↓reduceIte, reduceCtorEq, g18, pf18, b18]
  refine If.dec (fun h => ?_) (fun h => ?_)
  · have : a ≠ b := fun e => h (by rw [e])
    simp (maxSteps := 1000000) (disch := first | assumption | ((try simp only [LEN, LEN2]); omega)) only [push_cast, Int.reduceToNat, Int.reduceEq, Int.reduceNe, Int.reduceLT, Int.reduceLE, Int.reduceAdd, Int.reduceSub, Int.reduceMul, Int.reduceNeg, Nat.reduceEqDiff, Nat.reduceBEq, Nat.reduceBNe, Nat.reduceAdd, Nat.reduceLeDiff, Nat.reduceLT, Nat.reduceMul, ↓reduceIte, reduceCtorEq, g18, pf18, b18]
    simp [this]
  simp (maxSteps := 1000000) (disch := first | assumption | ((try simp only [LEN, LEN2]); omega)) only [push_cast, Int.reduceToNat, Int.reduceEq, Int.reduceNe, Int.reduceLT, Int.reduceLE, Int.reduceAdd, Int.reduceSub, Int.reduceMul, Int.reduceNeg, Nat.reduceEqDiff, Nat.reduceBEq, Nat.reduceBNe, Nat.reduceAdd, Nat.reduceLeDiff, Nat.reduceLT, Nat.reduceMul, ↓reduceIte, reduceCtorEq, g18, pf18, b18]
  have hl : a.length = b.length := by omega
  refine run_loop' (fun i : Nat => [(0, T.one (.d (.sl (a.map eR)))), (1, T.one (.d (.sl (b.map eR)))), (5, T.int .i64 i)]) (fun i => i ≤ a.length ∧ a.take i = b.take i) (fun i => a.length - i) 0 rfl ⟨Nat.zero_le _, by simp⟩ (fun i hi => ?_)
  obtain ⟨hi, ht⟩ := hi
  simp (maxSteps := 1000000) (disch := first | assumption | ((try simp only [LEN, LEN2]); omega)) only [push_cast, Int.reduceToNat, Int.reduceEq, Int.reduceNe, Int.reduceLT, Int.reduceLE, Int.reduceAdd, Int.reduceSub, Int.reduceMul, Int.reduceNeg, Nat.reduceEqDiff, Nat.reduceBEq, Nat.reduceBNe, Nat.reduceAdd, Nat.reduceLeDiff, Nat.reduceLT, Nat.reduceMul, ↓reduceIte, reduceCtorEq, g18, pf18, b18]
  refine If.dec (fun h => ?_) (fun h => ?_)
  · replace h : i < a.length := by omega
    have h' : i < b.length := by omega
    have h1 := ha' a[i] (List.getElem_mem h)
    have h2 := hb' b[i] (List.getElem_mem h')
    by_cases he : a[i].Commit = b[i].Commit ∧ a[i].Writes = b[i].Writes
    · simp (maxSteps := 1000000) (disch := first | assumption | ((try simp only [LEN, LEN2]); omega)) only [push_cast, Int.reduceToNat, Int.reduceEq, Int.reduceNe, Int.reduceLT, Int.reduceLE, Int.reduceAdd, Int.reduceSub, Int.reduceMul, Int.reduceNeg, Nat.reduceEqDiff, Nat.reduceBEq, Nat.reduceBNe, Nat.reduceAdd, Nat.reduceLeDiff, Nat.reduceLT, Nat.reduceMul, ↓reduceIte, reduceCtorEq, g18, pf18, b18, eR, he]
      refine ⟨i + 1, rfl, ⟨by omega, ?_⟩, by omega⟩
      rw [List.take_succ_eq_append_getElem h, List.take_succ_eq_append_getElem h', ht, show a[i] = b[i] by cases hx : a[i]; cases hy : b[i]; rw [hx, hy] at he; simpa using he]
    · have hne : a ≠ b := fun e => he (by subst e; exact ⟨rfl, rfl⟩)
      simp (maxSteps := 1000000) (disch := first | assumption | ((try simp only [LEN, LEN2]); omega)) only [push_cast, Int.reduceToNat, Int.reduceEq, Int.reduceNe, Int.reduceLT, Int.reduceLE, Int.reduceAdd, Int.reduceSub, Int.reduceMul, Int.reduceNeg, Nat.reduceEqDiff, Nat.reduceBEq, Nat.reduceBNe, Nat.reduceAdd, Nat.reduceLeDiff, Nat.reduceLT, Nat.reduceMul, ↓reduceIte, reduceCtorEq, g18, pf18, b18, eR, he]
      simp [hne]
  · obtain rfl : i = a.length := by omega
    have : a = b := by rw [List.take_length] at ht; rw [ht, hl, List.take_length]
    simp (maxSteps := 1000000) (disch := first | assumption | ((try simp only [LEN, LEN2]); omega)) only [push_cast, Int.reduceToNat, Int.reduceEq, Int.reduceNe, Int.reduceLT, Int.reduceLE, Int.reduceAdd, Int.reduceSub, Int.reduceMul, Int.reduceNeg, Nat.reduceEqDiff, Nat.reduceBEq, Nat.reduceBNe, Nat.reduceAdd, Nat.reduceLeDiff, Nat.reduceLT, Nat.reduceMul, ↓reduceIte, reduceCtorEq, g18, pf18, b18]
    simp [this]
theorem f18c {a b : List Record} (ha : a.length ≤ 1000000000) (hb : b.length ≤ 1000000000) (ha' : ∀ r ∈ a, r.Writes.length ≤ 1000000000) (hb' : ∀ r ∈ b, r.Writes.length ≤ 1000000000) {g : VG} {F : Fn} {lk : Bool} {e : Env} {dst : Option Nat} {ops : List Ins} {keep : Option (List Nat)} {K : List Fr} : CallC G g F 18 [.one (.d (.sl (a.map eR))), .one (.d (.sl (b.map eR)))] lk e dst ops keep K = ThenL G g F (if lk && !(T.noSl (.bool (decide (a = b)))) then none else e.put g.un dst (.bool (decide (a = b)))) ops keep K := callC_eq (f18 ha hb ha' hb')
attribute [push_cast] f18c
end Go.Mir.Tryz

set_option linter.unusedVariables false
set_option linter.unusedSimpArgs false
set_option maxRecDepth 100000
namespace Go.Mir.Tryz
open Go.Proofs Go.Mir.Q
set_option maxHeartbeats 2000000 in
theorem f95 {b : List UInt8} {n : Int} (hb : b.length ≤ 1000000000) : Fun G 95 [.one (.own 5 (b.map oB)), .int .i64 n] (.one (.own 5 ((b ++ be 4 n).map oB)), []) := by
  refine Fun.of_run (g := g95) (pf := pf95) rfl rfl rfl rfl ?_
  simp (maxSteps := 1000000) (disch := first | assumption | ((try simp only [LEN, LEN2]); omega)) only [push_cast, Int.reduceToNat, Int.reduceEq, Int.reduceNe, Int.reduceLT, Int.reduceLE, Int.reduceAdd, Int.reduceSub, Int.reduceMul, Int.reduceNeg, Nat.reduceEqDiff, Nat.reduceBEq, Nat.reduceBNe, Nat.reduceAdd, Nat.reduceLeDiff, Nat.reduceLT, Nat.reduceMul, ↓reduceIte, reduceCtorEq, g95, pf95, b95]
  simp only [be4, List.map_append, List.map_cons, List.map_nil, oB_byt]
theorem f95t {b : List UInt8} {n : Int} (hb : b.length ≤ 1000000000) {g : VG} {F : Fn} {lk : Bool} {ags : List Arg} {e0 e1 : Env} {dst : Option Nat} {ops : List Ins} {keep : Option (List Nat)} {K : List Fr} : CallT G g F 95 [.one (.own 5 (b.map oB)), .int .i64 n] lk ags e0 e1 dst ops keep K = RetT G g F (.one (.own 5 ((b ++ be 4 n).map oB))) [] lk ags e0 e1 dst ops keep K := callT_eq (f95 hb)
attribute [push_cast] f95t
set_option maxHeartbeats 2000000 in
theorem f108 {n m' : Int} (h0 : 0 ≤ m') (hm' : m' ≤ 8) : Fun G 108 [.int .i64 n, .int .i64 m'] (.str (bs (be m'.toNat n)), []) := by
  refine Fun.of_run (g := g108) (pf := pf108) rfl rfl rfl rfl ?_
  obtain ⟨m, rfl⟩ := Int.eq_ofNat_of_zero_le h0
  have hm : m ≤ 8 := by omega
  rw [Int.toNat_natCast]
  simp (maxSteps := 1000000) (disch := first | assumption | ((try simp only [LEN, LEN2]); omega)) only [push_cast, Int.reduceToNat, Int.reduceEq, Int.reduceNe, Int.reduceLT, Int.reduceLE, Int.reduceAdd, Int.reduceSub, Int.reduceMul, Int.reduceNeg, Nat.reduceEqDiff, Nat.reduceBEq, Nat.reduceBNe, Nat.reduceAdd, Nat.reduceLeDiff, Nat.reduceLT, Nat.reduceMul, ↓reduceIte, reduceCtorEq, g108, pf108, b108]
  refine run_loop' (fun i : Nat => [(0, T.int .i64 (n / 256 ^ (m - i))), (5, T.one (.own 5 ((List.replicate i 0 ++ be (m - i) n).map oB))), (6, T.int .i64 ((i : Int) - 1))]) (fun i => i ≤ m) (fun i => i) m ?_ (Nat.le_refl _) (fun i hi => ?_)
  · simp [be, oB]
  simp (maxSteps := 1000000) (disch := first | assumption | ((try simp only [LEN, LEN2]); omega)) only [push_cast, Int.reduceToNat, Int.reduceEq, Int.reduceNe, Int.reduceLT, Int.reduceLE, Int.reduceAdd, Int.reduceSub, Int.reduceMul, Int.reduceNeg, Nat.reduceEqDiff, Nat.reduceBEq, Nat.reduceBNe, Nat.reduceAdd, Nat.reduceLeDiff, Nat.reduceLT, Nat.reduceMul, ↓reduceIte, reduceCtorEq, g108, pf108, b108]
  refine If.dec (fun h => ?_) (fun h => ?_)
  · obtain ⟨j, rfl⟩ : ∃ j, i = j + 1 := ⟨i - 1, by omega⟩
    have e1 : (j : Int) + 1 - 1 = j := by omega
    obtain ⟨q, rfl⟩ : ∃ q, m = q + (j + 1) := ⟨m - (j + 1), by omega⟩
    have e2 : q + (j + 1) - (j + 1) = q := by omega
    have e3 : q + (j + 1) - j = q + 1 := by omega
    obtain ⟨l, hl⟩ : ∃ l, l = List.replicate (j + 1) 0 ++ be q n := ⟨_, rfl⟩
    have hll : j < l.length := by rw [hl]; simp; omega
    rw [e2, ← hl]
    simp (maxSteps := 1000000) (disch := first | assumption | ((try simp only [LEN, LEN2]); omega)) only [push_cast, Int.reduceToNat, Int.reduceEq, Int.reduceNe, Int.reduceLT, Int.reduceLE, Int.reduceAdd, Int.reduceSub, Int.reduceMul, Int.reduceNeg, Nat.reduceEqDiff, Nat.reduceBEq, Nat.reduceBNe, Nat.reduceAdd, Nat.reduceLeDiff, Nat.reduceLT, Nat.reduceMul, ↓reduceIte, reduceCtorEq, g108, pf108, b108, e1, oB]
    refine ⟨j, ?_, by omega, by omega⟩
    rw [← oB_byt, e3, be_cons, show List.replicate j 0 ++ byt (n / 256 ^ q) :: be q n = l.set j (byt (n / 256 ^ q)) by subst hl; simp [List.replicate_succ', List.set_append], List.map_set, Int.pow_succ, ← Int.ediv_ediv_of_nonneg (Int.pow_nonneg (by omega))]
  · obtain rfl : i = 0 := by omega
    simp (maxSteps := 1000000) (disch := first | assumption | ((try simp only [LEN, LEN2]); omega)) only [push_cast, Int.reduceToNat, Int.reduceEq, Int.reduceNe, Int.reduceLT, Int.reduceLE, Int.reduceAdd, Int.reduceSub, Int.reduceMul, Int.reduceNeg, Nat.reduceEqDiff, Nat.reduceBEq, Nat.reduceBNe, Nat.reduceAdd, Nat.reduceLeDiff, Nat.reduceLT, Nat.reduceMul, ↓reduceIte, reduceCtorEq, g108, pf108, b108]
    simp
theorem f108c {n m' : Int} (h0 : 0 ≤ m') (hm' : m' ≤ 8) {g : VG} {F : Fn} {lk : Bool} {e : Env} {dst : Option Nat} {ops : List Ins} {keep : Option (List Nat)} {K : List Fr} : CallC G g F 108 [.int .i64 n, .int .i64 m'] lk e dst ops keep K = ThenL G g F (if lk && !(T.noSl (.str (bs (be m'.toNat n)))) then none else e.put g.un dst (.str (bs (be m'.toNat n)))) ops keep K := callC_eq (f108 h0 hm')
attribute [push_cast] f108c
theorem f98 {l : List (Write)} {f : FuncId} {caps : List T} {p : (Write) → Bool} (hl : l.length ≤ 1000000000) (hpm : G.pm f = [.ro] ∨ G.pm f = [.ro, .ro] ∨ G.pm f = [.ro, .ro, .ro] ∨ G.pm f = [.ro, .ro, .ro, .ro]) (hcap : capsData caps = true) (hf : ∀ w ∈ l, Fun G f (.vs true (oW w) :: caps) (.bool (p w), [])) :
    Fun G 98 [.one (.d (.sl (l.map eW))), .fn f caps] (.int .i64 (idx p l), []) := by
  refine Fun.of_run (g := g98) (pf := pf98) rfl rfl rfl rfl ?_
  have hcap2 := capsRo_data (caps := caps) hcap
  have hcap3 := rootsL_data (caps := caps) hcap
  simp (maxSteps := 1000000) (disch := first | assumption | ((try simp only [LEN, LEN2]); omega)) only [push_cast, Int.reduceToNat, Int.reduceEq, Int.reduceNe, Int.reduceLT, Int.reduceLE, Int.reduceAdd, Int.reduceSub, Int.reduceMul, Int.reduceNeg, Nat.reduceEqDiff, Nat.reduceBEq, Nat.reduceBNe, Nat.reduceAdd, Nat.reduceLeDiff, Nat.reduceLT, Nat.reduceMul, ↓reduceIte, reduceCtorEq, g98, pf98, b98, hcap2, hcap3, List.all_nil]
  refine run_loop' (fun i : Nat => [(0, T.one (.d (.sl (l.map eW)))), (1, T.fn f caps), (7, T.int .i64 l.length), (8, T.int .i64 i)]) (fun i => i ≤ l.length ∧ ∀ x ∈ l.take i, p x = false) (fun i => l.length - i) 0 rfl ⟨Nat.zero_le _, by simp⟩ (fun i hi => ?_)
  obtain ⟨hi, ht⟩ := hi
  simp (maxSteps := 1000000) (disch := first | assumption | ((try simp only [LEN, LEN2]); omega)) only [push_cast, Int.reduceToNat, Int.reduceEq, Int.reduceNe, Int.reduceLT, Int.reduceLE, Int.reduceAdd, Int.reduceSub, Int.reduceMul, Int.reduceNeg, Nat.reduceEqDiff, Nat.reduceBEq, Nat.reduceBNe, Nat.reduceAdd, Nat.reduceLeDiff, Nat.reduceLT, Nat.reduceMul, ↓reduceIte, reduceCtorEq, g98, pf98, b98, hcap2, hcap3, List.all_nil]
  refine If.dec (fun h => ?_) (fun h => ?_)
  · replace h : i < l.length := by omega
    have h2 := hf l[i] (List.getElem_mem h)
    try simp only [oW] at h2
    by_cases hp : p l[i] = true
    · rcases hpm with hpm | hpm | hpm | hpm <;> simp (maxSteps := 1000000) (disch := first | assumption | ((try simp only [LEN, LEN2]); omega)) only [push_cast, Int.reduceToNat, Int.reduceEq, Int.reduceNe, Int.reduceLT, Int.reduceLE, Int.reduceAdd, Int.reduceSub, Int.reduceMul, Int.reduceNeg, Nat.reduceEqDiff, Nat.reduceBEq, Nat.reduceBNe, Nat.reduceAdd, Nat.reduceLeDiff, Nat.reduceLT, Nat.reduceMul, ↓reduceIte, reduceCtorEq, g98, pf98, b98, hcap2, hcap3, List.all_nil, hpm, eW, callT_eq h2, hp] <;> rw [idx_some h ht hp]
    · rw [Bool.not_eq_true] at hp
      rcases hpm with hpm | hpm | hpm | hpm <;> simp (maxSteps := 1000000) (disch := first | assumption | ((try simp only [LEN, LEN2]); omega)) only [push_cast, Int.reduceToNat, Int.reduceEq, Int.reduceNe, Int.reduceLT, Int.reduceLE, Int.reduceAdd, Int.reduceSub, Int.reduceMul, Int.reduceNeg, Nat.reduceEqDiff, Nat.reduceBEq, Nat.reduceBNe, Nat.reduceAdd, Nat.reduceLeDiff, Nat.reduceLT, Nat.reduceMul, ↓reduceIte, reduceCtorEq, g98, pf98, b98, hcap2, hcap3, List.all_nil, hpm, eW, callT_eq h2, hp]
      all_goals
        refine ⟨i + 1, rfl, ⟨by omega, fun x hx => ?_⟩, by omega⟩
        rw [List.take_succ_eq_append_getElem h, List.mem_append, List.mem_singleton] at hx
        rcases hx with hx | rfl
        · exact ht x hx
        · exact hp
  · obtain rfl : i = l.length := by omega
    simp (maxSteps := 1000000) (disch := first | assumption | ((try simp only [LEN, LEN2]); omega)) only [push_cast, Int.reduceToNat, Int.reduceEq, Int.reduceNe, Int.reduceLT, Int.reduceLE, Int.reduceAdd, Int.reduceSub, Int.reduceMul, Int.reduceNeg, Nat.reduceEqDiff, Nat.reduceBEq, Nat.reduceBNe, Nat.reduceAdd, Nat.reduceLeDiff, Nat.reduceLT, Nat.reduceMul, ↓reduceIte, reduceCtorEq, g98, pf98, b98, hcap2, hcap3, List.all_nil]
    rw [idx_none (fun x hx => ht x (by rw [List.take_length]; exact hx))]
theorem f67 {l : List (Write)} {f : FuncId} {caps : List T} {p : (Write) → Bool} (hl : l.length ≤ 1000000000) (hpm : G.pm f = [.ro] ∨ G.pm f = [.ro, .ro] ∨ G.pm f = [.ro, .ro, .ro] ∨ G.pm f = [.ro, .ro, .ro, .ro]) (hcap : capsData caps = true) (hf : ∀ w ∈ l, Fun G f (.vs true (oW w) :: caps) (.bool (p w), [])) :
    Fun G 67 [.one (.d (.sl (l.map eW))), .fn f caps] (.bool (l.any p), []) := by
  refine Fun.of_run (g := g67) (pf := pf67) rfl rfl rfl rfl ?_
  have hcap2 := capsRo_data (caps := caps) hcap
  have hcap3 := rootsL_data (caps := caps) hcap
  simp (maxSteps := 1000000) (disch := first | assumption | ((try simp only [LEN, LEN2]); omega)) only [push_cast, Int.reduceToNat, Int.reduceEq, Int.reduceNe, Int.reduceLT, Int.reduceLE, Int.reduceAdd, Int.reduceSub, Int.reduceMul, Int.reduceNeg, Nat.reduceEqDiff, Nat.reduceBEq, Nat.reduceBNe, Nat.reduceAdd, Nat.reduceLeDiff, Nat.reduceLT, Nat.reduceMul, ↓reduceIte, reduceCtorEq, g67, pf67, b67, hcap2, hcap3, List.all_nil, callC_eq (f98 hl hpm hcap hf)]
  rw [← idx_nonneg]
set_option maxHeartbeats 2000000 in
theorem f63 {n : Int} {l : List Write} (hl : l.length ≤ 1000000000) : Fun G 63 [.vs true [.d (.sc (.int .i64 n)), .d (.sl (l.map eW))]] (.bool (okR ⟨n, l⟩), []) := by
  refine Fun.of_run (g := g63) (pf := pf63) rfl rfl rfl rfl ?_
  have h := f67 (l := l) (f := 92) (caps := []) (p := fun w => !okW w) hl (.inl rfl) rfl (fun w _ => f92)
  by_cases h1 : 1 ≤ n
  · by_cases h2 : n ≤ 1073741824
    · by_cases h3 : (l.length : Int) ≤ 64
      · simp (maxSteps := 1000000) (disch := first | assumption | ((try simp only [LEN, LEN2]); omega)) only [push_cast, Int.reduceToNat, Int.reduceEq, Int.reduceNe, Int.reduceLT, Int.reduceLE, Int.reduceAdd, Int.reduceSub, Int.reduceMul, Int.reduceNeg, Nat.reduceEqDiff, Nat.reduceBEq, Nat.reduceBNe, Nat.reduceAdd, Nat.reduceLeDiff, Nat.reduceLT, Nat.reduceMul, ↓reduceIte, reduceCtorEq, g63, pf63, b63, h1, h2, h3, callC_eq h]
        simp only [okR]
        have : l.length ≤ 64 := by omega
        simp [h1, h2, this, List.not_any_eq_all_not]
      · simp (maxSteps := 1000000) (disch := first | assumption | ((try simp only [LEN, LEN2]); omega)) only [push_cast, Int.reduceToNat, Int.reduceEq, Int.reduceNe, Int.reduceLT, Int.reduceLE, Int.reduceAdd, Int.reduceSub, Int.reduceMul, Int.reduceNeg, Nat.reduceEqDiff, Nat.reduceBEq, Nat.reduceBNe, Nat.reduceAdd, Nat.reduceLeDiff, Nat.reduceLT, Nat.reduceMul, ↓reduceIte, reduceCtorEq, g63, pf63, b63, h1, h2, h3]
        simp [okR, show ¬ l.length ≤ 64 by omega]
    · simp (maxSteps := 1000000) (disch := first | assumption | ((try simp only [LEN, LEN2]); omega)) only [push_cast, Int.reduceToNat, Int.reduceEq, Int.reduceNe, Int.reduceLT, Int.reduceLE, Int.reduceAdd, Int.reduceSub, Int.reduceMul, Int.reduceNeg, Nat.reduceEqDiff, Nat.reduceBEq, Nat.reduceBNe, Nat.reduceAdd, Nat.reduceLeDiff, Nat.reduceLT, Nat.reduceMul, ↓reduceIte, reduceCtorEq, g63, pf63, b63, h1, h2]
      simp [okR, h2]
  · simp (maxSteps := 1000000) (disch := first | assumption | ((try simp only [LEN, LEN2]); omega)) only [push_cast, Int.reduceToNat, Int.reduceEq, Int.reduceNe, Int.reduceLT, Int.reduceLE, Int.reduceAdd, Int.reduceSub, Int.reduceMul, Int.reduceNeg, Nat.reduceEqDiff, Nat.reduceBEq, Nat.reduceBNe, Nat.reduceAdd, Nat.reduceLeDiff, Nat.reduceLT, Nat.reduceMul, ↓reduceIte, reduceCtorEq, g63, pf63, b63, h1]
    simp [okR, h1]
theorem f63c {n : Int} {l : List Write} (hl : l.length ≤ 1000000000) {g : VG} {F : Fn} {lk : Bool} {e : Env} {dst : Option Nat} {ops : List Ins} {keep : Option (List Nat)} {K : List Fr} : CallC G g F 63 [.vs true [.d (.sc (.int .i64 n)), .d (.sl (l.map eW))]] lk e dst ops keep K = ThenL G g F (if lk && !(T.noSl (.bool (okR ⟨n, l⟩))) then none else e.put g.un dst (.bool (okR ⟨n, l⟩))) ops keep K := callC_eq (f63 hl)
attribute [push_cast] f63c
set_option maxHeartbeats 2000000 in
theorem f62 {n : Int} {l : List Write} (hs : smW l) : Fun G 62 [.vs true [.d (.sc (.int .i64 n)), .d (.sl (l.map eW))]] (.bool (okR ⟨n, l⟩), []) := by
  refine Fun.of_run (g := g62) (pf := pf62) rfl rfl rfl rfl ?_
  obtain ⟨hl, hs⟩ := hs
  by_cases h1 : 1 ≤ n ∧ n ≤ 1073741824
  · by_cases h3 : 64 < (l.length : Int)
    · simp (maxSteps := 1000000) (disch := first | assumption | ((try simp only [LEN, LEN2]); omega)) only [push_cast, Int.reduceToNat, Int.reduceEq, Int.reduceNe, Int.reduceLT, Int.reduceLE, Int.reduceAdd, Int.reduceSub, Int.reduceMul, Int.reduceNeg, Nat.reduceEqDiff, Nat.reduceBEq, Nat.reduceBNe, Nat.reduceAdd, Nat.reduceLeDiff, Nat.reduceLT, Nat.reduceMul, ↓reduceIte, reduceCtorEq, g62, pf62, b62, h1, h3]
      simp [okR, show ¬ l.length ≤ 64 by omega]
    simp (maxSteps := 1000000) (disch := first | assumption | ((try simp only [LEN, LEN2]); omega)) only [push_cast, Int.reduceToNat, Int.reduceEq, Int.reduceNe, Int.reduceLT, Int.reduceLE, Int.reduceAdd, Int.reduceSub, Int.reduceMul, Int.reduceNeg, Nat.reduceEqDiff, Nat.reduceBEq, Nat.reduceBNe, Nat.reduceAdd, Nat.reduceLeDiff, Nat.reduceLT, Nat.reduceMul, ↓reduceIte, reduceCtorEq, g62, pf62, b62, h1, h3]
    refine run_loop' (fun i : Nat => [(1, T.one (.box [.d (.sc (.int .i64 n)), .d (.sl (l.map eW))])), (3, T.int .i64 i)]) (fun i => i ≤ l.length ∧ (l.take i).all okW = true) (fun i => l.length - i) 0 rfl ⟨Nat.zero_le _, by simp⟩ (fun i hi => ?_)
    obtain ⟨hi, ht⟩ := hi
    simp (maxSteps := 1000000) (disch := first | assumption | ((try simp only [LEN, LEN2]); omega)) only [push_cast, Int.reduceToNat, Int.reduceEq, Int.reduceNe, Int.reduceLT, Int.reduceLE, Int.reduceAdd, Int.reduceSub, Int.reduceMul, Int.reduceNeg, Nat.reduceEqDiff, Nat.reduceBEq, Nat.reduceBNe, Nat.reduceAdd, Nat.reduceLeDiff, Nat.reduceLT, Nat.reduceMul, ↓reduceIte, reduceCtorEq, g62, pf62, b62]
    refine If.dec (fun h => ?_) (fun h => ?_)
    · replace h : i < l.length := by omega
      have hk := (hs l[i] (List.getElem_mem h)).1
      simp (maxSteps := 1000000) (disch := first | assumption | ((try simp only [LEN, LEN2]); omega)) only [push_cast, Int.reduceToNat, Int.reduceEq, Int.reduceNe, Int.reduceLT, Int.reduceLE, Int.reduceAdd, Int.reduceSub, Int.reduceMul, Int.reduceNeg, Nat.reduceEqDiff, Nat.reduceBEq, Nat.reduceBNe, Nat.reduceAdd, Nat.reduceLeDiff, Nat.reduceLT, Nat.reduceMul, ↓reduceIte, reduceCtorEq, g62, pf62, b62, eW]
      by_cases hp : okW l[i] = true
      · simp (maxSteps := 1000000) (disch := first | assumption | ((try simp only [LEN, LEN2]); omega)) only [push_cast, Int.reduceToNat, Int.reduceEq, Int.reduceNe, Int.reduceLT, Int.reduceLE, Int.reduceAdd, Int.reduceSub, Int.reduceMul, Int.reduceNeg, Nat.reduceEqDiff, Nat.reduceBEq, Nat.reduceBNe, Nat.reduceAdd, Nat.reduceLeDiff, Nat.reduceLT, Nat.reduceMul, ↓reduceIte, reduceCtorEq, g62, pf62, b62, hp]
        refine ⟨i + 1, rfl, ⟨by omega, ?_⟩, by omega⟩
        rw [List.take_succ_eq_append_getElem h, List.all_append, ht, List.all_cons, hp]; rfl
      · have : okR ⟨n, l⟩ = false := by
          simp only [okR, Bool.and_eq_false_iff]
          exact .inr (by rw [← Bool.not_eq_true, List.all_eq_true]; exact fun hh => hp (hh _ (List.getElem_mem h)))
        rw [Bool.not_eq_true] at hp
        simp (maxSteps := 1000000) (disch := first | assumption | ((try simp only [LEN, LEN2]); omega)) only [push_cast, Int.reduceToNat, Int.reduceEq, Int.reduceNe, Int.reduceLT, Int.reduceLE, Int.reduceAdd, Int.reduceSub, Int.reduceMul, Int.reduceNeg, Nat.reduceEqDiff, Nat.reduceBEq, Nat.reduceBNe, Nat.reduceAdd, Nat.reduceLeDiff, Nat.reduceLT, Nat.reduceMul, ↓reduceIte, reduceCtorEq, g62, pf62, b62, hp, this]
    · obtain rfl : i = l.length := by omega
      rw [List.take_length] at ht
      have : okR ⟨n, l⟩ = true := by
        simp only [okR, ht, Bool.and_true, decide_eq_true_eq]; omega
      simp (maxSteps := 1000000) (disch := first | assumption | ((try simp only [LEN, LEN2]); omega)) only [push_cast, Int.reduceToNat, Int.reduceEq, Int.reduceNe, Int.reduceLT, Int.reduceLE, Int.reduceAdd, Int.reduceSub, Int.reduceMul, Int.reduceNeg, Nat.reduceEqDiff, Nat.reduceBEq, Nat.reduceBNe, Nat.reduceAdd, Nat.reduceLeDiff, Nat.reduceLT, Nat.reduceMul, ↓reduceIte, reduceCtorEq, g62, pf62, b62]
      rw [this]
  · have : okR ⟨n, l⟩ = false := by
      simp only [okR, Bool.and_eq_false_iff, decide_eq_false_iff_not]; left; omega
    simp (maxSteps := 1000000) (disch := first | assumption | ((try simp only [LEN, LEN2]); omega)) only [push_cast, Int.reduceToNat, Int.reduceEq, Int.reduceNe, Int.reduceLT, Int.reduceLE, Int.reduceAdd, Int.reduceSub, Int.reduceMul, Int.reduceNeg, Nat.reduceEqDiff, Nat.reduceBEq, Nat.reduceBNe, Nat.reduceAdd, Nat.reduceLeDiff, Nat.reduceLT, Nat.reduceMul, ↓reduceIte, reduceCtorEq, g62, pf62, b62, h1, this]
theorem f62c {n : Int} {l : List Write} (hs : smW l) {g : VG} {F : Fn} {lk : Bool} {e : Env} {dst : Option Nat} {ops : List Ins} {keep : Option (List Nat)} {K : List Fr} : CallC G g F 62 [.vs true [.d (.sc (.int .i64 n)), .d (.sl (l.map eW))]] lk e dst ops keep K = ThenL G g F (if lk && !(T.noSl (.bool (okR ⟨n, l⟩))) then none else e.put g.un dst (.bool (okR ⟨n, l⟩))) ops keep K := callC_eq (f62 hs)
attribute [push_cast] f62c
set_option maxHeartbeats 2000000 in
theorem f107 {n : Int} {l : List Write} (hs : smW l) (h64 : l.length ≤ 64) : Fun G 107 [.vs true [.d (.sc (.int .i64 n)), .d (.sl (l.map eW))]] (.str (bs (spelt ⟨n, l⟩)), []) := by
  refine Fun.of_run (g := g107) (pf := pf107) rfl rfl rfl rfl ?_
  obtain ⟨hl, hs⟩ := hs
  simp (maxSteps := 1000000) (disch := first | assumption | ((try simp only [LEN, LEN2]); omega)) only [push_cast, Int.reduceToNat, Int.reduceEq, Int.reduceNe, Int.reduceLT, Int.reduceLE, Int.reduceAdd, Int.reduceSub, Int.reduceMul, Int.reduceNeg, Nat.reduceEqDiff, Nat.reduceBEq, Nat.reduceBNe, Nat.reduceAdd, Nat.reduceLeDiff, Nat.reduceLT, Nat.reduceMul, ↓reduceIte, reduceCtorEq, g107, pf107, b107]
  refine run_loop' (fun i : Nat => [(1, T.one (.box [.d (.sc (.int .i64 n)), .d (.sl (l.map eW))])), (3, T.str (bs (be 4 n ++ be 4 l.length ++ wrs (l.take i)))), (4, T.int .i64 i)]) (fun i => i ≤ l.length) (fun i => l.length - i) 0 ?_ (Nat.zero_le _) (fun i hi => ?_)
  · simp [wrs]
  have hw := wrs_len (l.take i) fun w hw => hs w (List.mem_of_mem_take hw)
  rw [List.length_take] at hw
  simp (maxSteps := 1000000) (disch := first | assumption | ((try simp only [LEN, LEN2]); omega)) only [push_cast, Int.reduceToNat, Int.reduceEq, Int.reduceNe, Int.reduceLT, Int.reduceLE, Int.reduceAdd, Int.reduceSub, Int.reduceMul, Int.reduceNeg, Nat.reduceEqDiff, Nat.reduceBEq, Nat.reduceBNe, Nat.reduceAdd, Nat.reduceLeDiff, Nat.reduceLT, Nat.reduceMul, ↓reduceIte, reduceCtorEq, g107, pf107, b107]
  refine If.dec (fun h => ?_) (fun h => ?_)
  · replace h : i < l.length := by omega
    have hk := hs l[i] (List.getElem_mem h)
    simp (maxSteps := 1000000) (disch := first | assumption | ((try simp only [LEN, LEN2]); omega)) only [push_cast, Int.reduceToNat, Int.reduceEq, Int.reduceNe, Int.reduceLT, Int.reduceLE, Int.reduceAdd, Int.reduceSub, Int.reduceMul, Int.reduceNeg, Nat.reduceEqDiff, Nat.reduceBEq, Nat.reduceBNe, Nat.reduceAdd, Nat.reduceLeDiff, Nat.reduceLT, Nat.reduceMul, ↓reduceIte, reduceCtorEq, g107, pf107, b107, eW]
    refine If.split (fun hg => ?_) (fun hg => ?_)
    · simp (maxSteps := 1000000) (disch := first | assumption | ((try simp only [LEN, LEN2]); omega)) only [push_cast, Int.reduceToNat, Int.reduceEq, Int.reduceNe, Int.reduceLT, Int.reduceLE, Int.reduceAdd, Int.reduceSub, Int.reduceMul, Int.reduceNeg, Nat.reduceEqDiff, Nat.reduceBEq, Nat.reduceBNe, Nat.reduceAdd, Nat.reduceLeDiff, Nat.reduceLT, Nat.reduceMul, ↓reduceIte, reduceCtorEq, g107, pf107, b107]
      refine ⟨i + 1, ?_, by omega, by omega⟩
      rw [List.take_succ_eq_append_getElem h, wrs_snoc]
      simp [wr, hg]
    · simp (maxSteps := 1000000) (disch := first | assumption | ((try simp only [LEN, LEN2]); omega)) only [push_cast, Int.reduceToNat, Int.reduceEq, Int.reduceNe, Int.reduceLT, Int.reduceLE, Int.reduceAdd, Int.reduceSub, Int.reduceMul, Int.reduceNeg, Nat.reduceEqDiff, Nat.reduceBEq, Nat.reduceBNe, Nat.reduceAdd, Nat.reduceLeDiff, Nat.reduceLT, Nat.reduceMul, ↓reduceIte, reduceCtorEq, g107, pf107, b107]
      refine ⟨i + 1, ?_, by omega, by omega⟩
      rw [List.take_succ_eq_append_getElem h, wrs_snoc]
      simp [wr, hg]
  · obtain rfl : i = l.length := by omega
    simp (maxSteps := 1000000) (disch := first | assumption | ((try simp only [LEN, LEN2]); omega)) only [push_cast, Int.reduceToNat, Int.reduceEq, Int.reduceNe, Int.reduceLT, Int.reduceLE, Int.reduceAdd, Int.reduceSub, Int.reduceMul, Int.reduceNeg, Nat.reduceEqDiff, Nat.reduceBEq, Nat.reduceBNe, Nat.reduceAdd, Nat.reduceLeDiff, Nat.reduceLT, Nat.reduceMul, ↓reduceIte, reduceCtorEq, g107, pf107, b107]
    simp [spelt]
theorem f107c {n : Int} {l : List Write} (hs : smW l) (h64 : l.length ≤ 64) {g : VG} {F : Fn} {lk : Bool} {e : Env} {dst : Option Nat} {ops : List Ins} {keep : Option (List Nat)} {K : List Fr} : CallC G g F 107 [.vs true [.d (.sc (.int .i64 n)), .d (.sl (l.map eW))]] lk e dst ops keep K = ThenL G g F (if lk && !(T.noSl (.str (bs (spelt ⟨n, l⟩)))) then none else e.put g.un dst (.str (bs (spelt ⟨n, l⟩)))) ops keep K := callC_eq (f107 hs h64)
attribute [push_cast] f107c
set_option maxHeartbeats 2000000 in
theorem f94 {n : Int} {l : List Write} (hs : smW l) (h64 : l.length ≤ 64) : Fun G 94 [.vs true [.d (.sc (.int .i64 n)), .d (.sl (l.map eW))]] (.str (bs (spelt ⟨n, l⟩)), []) := by
  refine Fun.of_run (g := g94) (pf := pf94) rfl rfl rfl rfl ?_
  obtain ⟨hl, hs⟩ := hs
  have f0 := @f95t [] n (by simp)
  simp only [List.map_nil] at f0
  simp (maxSteps := 1000000) (disch := first | assumption | ((try simp only [LEN, LEN2]); omega)) only [push_cast, Int.reduceToNat, Int.reduceEq, Int.reduceNe, Int.reduceLT, Int.reduceLE, Int.reduceAdd, Int.reduceSub, Int.reduceMul, Int.reduceNeg, Nat.reduceEqDiff, Nat.reduceBEq, Nat.reduceBNe, Nat.reduceAdd, Nat.reduceLeDiff, Nat.reduceLT, Nat.reduceMul, ↓reduceIte, reduceCtorEq, g94, pf94, b94, f0]
  refine run_loop' (fun i : Nat => [(1, T.one (.box [.d (.sc (.int .i64 n)), .d (.sl (l.map eW))])), (3, T.one (.own 5 ((be 4 n ++ be 4 l.length ++ wrs (l.take i)).map oB))), (14, T.one (.d (.sl (l.map eW)))), (15, T.int .i64 l.length), (16, T.int .i64 i)]) (fun i => i ≤ l.length) (fun i => l.length - i) 0 ?_ (Nat.zero_le _) (fun i hi => ?_)
  · simp [wrs]
  have hw := wrs_len (l.take i) fun w hw => hs w (List.mem_of_mem_take hw)
  rw [List.length_take] at hw
  simp (maxSteps := 1000000) (disch := first | assumption | ((try simp only [LEN, LEN2]); omega)) only [push_cast, Int.reduceToNat, Int.reduceEq, Int.reduceNe, Int.reduceLT, Int.reduceLE, Int.reduceAdd, Int.reduceSub, Int.reduceMul, Int.reduceNeg, Nat.reduceEqDiff, Nat.reduceBEq, Nat.reduceBNe, Nat.reduceAdd, Nat.reduceLeDiff, Nat.reduceLT, Nat.reduceMul, ↓reduceIte, reduceCtorEq, g94, pf94, b94]
  refine If.dec (fun h => ?_) (fun h => ?_)
  · replace h : i < l.length := by omega
    have hk := hs l[i] (List.getElem_mem h)
    simp (maxSteps := 1000000) (disch := first | assumption | ((try simp only [LEN, LEN2]); omega)) only [push_cast, Int.reduceToNat, Int.reduceEq, Int.reduceNe, Int.reduceLT, Int.reduceLE, Int.reduceAdd, Int.reduceSub, Int.reduceMul, Int.reduceNeg, Nat.reduceEqDiff, Nat.reduceBEq, Nat.reduceBNe, Nat.reduceAdd, Nat.reduceLeDiff, Nat.reduceLT, Nat.reduceMul, ↓reduceIte, reduceCtorEq, g94, pf94, b94, eW]
    refine ⟨i + 1, ?_, by omega, by omega⟩
    rw [List.take_succ_eq_append_getElem h, wrs_snoc]
    have e1 : ∀ n : Int, be 1 n = [byt n] := fun n => by simp [be]
    have e2 : ∀ b : Bool, (if b then (1 : Int) else 0) % 256 = if b then 1 else 0 := fun b => by cases b <;> rfl
    simp [wr, e1, oB_byt, e2, List.map_append]
  · obtain rfl : i = l.length := by omega
    simp (maxSteps := 1000000) (disch := first | assumption | ((try simp only [LEN, LEN2]); omega)) only [push_cast, Int.reduceToNat, Int.reduceEq, Int.reduceNe, Int.reduceLT, Int.reduceLE, Int.reduceAdd, Int.reduceSub, Int.reduceMul, Int.reduceNeg, Nat.reduceEqDiff, Nat.reduceBEq, Nat.reduceBNe, Nat.reduceAdd, Nat.reduceLeDiff, Nat.reduceLT, Nat.reduceMul, ↓reduceIte, reduceCtorEq, g94, pf94, b94]
    simp [spelt]
theorem f94c {n : Int} {l : List Write} (hs : smW l) (h64 : l.length ≤ 64) {g : VG} {F : Fn} {lk : Bool} {e : Env} {dst : Option Nat} {ops : List Ins} {keep : Option (List Nat)} {K : List Fr} : CallC G g F 94 [.vs true [.d (.sc (.int .i64 n)), .d (.sl (l.map eW))]] lk e dst ops keep K = ThenL G g F (if lk && !(T.noSl (.str (bs (spelt ⟨n, l⟩)))) then none else e.put g.un dst (.str (bs (spelt ⟨n, l⟩)))) ops keep K := callC_eq (f94 hs h64)
attribute [push_cast] f94c
end Go.Mir.Tryz

set_option linter.unusedVariables false
set_option linter.unusedSimpArgs false
set_option maxRecDepth 100000
namespace Go.Mir.Tryz
open Go.Proofs Go.Mir.Q
set_option maxHeartbeats 2000000 in
theorem f127 {s : List UInt8} {b : Bool} {n : Int} (h0 : 0 ≤ n) (hs : s.length ≤ 1000000000) : Fun G 127 [.one (.box [.d (.sc (.string (bs s))), .d (.sc (.bool b))]), .int .i64 n] (.str (bs (tk n.toNat (s, b)).1), [bR (tk n.toNat (s, b)).2]) := by
  refine Fun.of_run (g := g127) (pf := pf127) rfl rfl rfl rfl ?_
  cases b with
  | true =>
    simp (maxSteps := 1000000) (disch := first | assumption | ((try simp only [LEN, LEN2]); omega)) only [push_cast, Int.reduceToNat, Int.reduceEq, Int.reduceNe, Int.reduceLT, Int.reduceLE, Int.reduceAdd, Int.reduceSub, Int.reduceMul, Int.reduceNeg, Nat.reduceEqDiff, Nat.reduceBEq, Nat.reduceBNe, Nat.reduceAdd, Nat.reduceLeDiff, Nat.reduceLT, Nat.reduceMul, ↓reduceIte, reduceCtorEq, g127, pf127, b127]
    simp [tk]
  | false =>
    by_cases h : (s.length : Int) < n
    · simp (maxSteps := 1000000) (disch := first | assumption | ((try simp only [LEN, LEN2]); omega)) only [push_cast, Int.reduceToNat, Int.reduceEq, Int.reduceNe, Int.reduceLT, Int.reduceLE, Int.reduceAdd, Int.reduceSub, Int.reduceMul, Int.reduceNeg, Nat.reduceEqDiff, Nat.reduceBEq, Nat.reduceBNe, Nat.reduceAdd, Nat.reduceLeDiff, Nat.reduceLT, Nat.reduceMul, ↓reduceIte, reduceCtorEq, g127, pf127, b127, h]
      have : s.length < n.toNat := by omega
      simp [tk, this]
    · simp (maxSteps := 1000000) (disch := first | assumption | ((try simp only [LEN, LEN2]); omega)) only [push_cast, Int.reduceToNat, Int.reduceEq, Int.reduceNe, Int.reduceLT, Int.reduceLE, Int.reduceAdd, Int.reduceSub, Int.reduceMul, Int.reduceNeg, Nat.reduceEqDiff, Nat.reduceBEq, Nat.reduceBNe, Nat.reduceAdd, Nat.reduceLeDiff, Nat.reduceLT, Nat.reduceMul, ↓reduceIte, reduceCtorEq, g127, pf127, b127, h]
      have : ¬ s.length < n.toNat := by omega
      simp [tk, this]
theorem f127t {s : List UInt8} {b : Bool} {n : Int} (h0 : 0 ≤ n) (hs : s.length ≤ 1000000000) {g : VG} {F : Fn} {lk : Bool} {ags : List Arg} {e0 e1 : Env} {dst : Option Nat} {ops : List Ins} {keep : Option (List Nat)} {K : List Fr} : CallT G g F 127 [.one (.box [.d (.sc (.string (bs s))), .d (.sc (.bool b))]), .int .i64 n] lk ags e0 e1 dst ops keep K = RetT G g F (.str (bs (tk n.toNat (s, b)).1)) [bR (tk n.toNat (s, b)).2] lk ags e0 e1 dst ops keep K := callT_eq (f127 h0 hs)
attribute [push_cast] f127t
set_option maxHeartbeats 2000000 in
theorem f111 {s : List UInt8} {b : Bool} {n : Int} (h0 : 0 ≤ n) (h6 : n ≤ 6) (hs : s.length ≤ 1000000000) : Fun G 111 [.one (.box [.d (.sc (.string (bs s))), .d (.sc (.bool b))]), .int .i64 n] (.int .i64 (num (tk n.toNat (s, b)).1), [bR (tk n.toNat (s, b)).2]) := by
  refine Fun.of_run (g := g111) (pf := pf111) rfl rfl rfl rfl ?_
  simp (maxSteps := 1000000) (disch := first | assumption | ((try simp only [LEN, LEN2]); omega)) only [push_cast, Int.reduceToNat, Int.reduceEq, Int.reduceNe, Int.reduceLT, Int.reduceLE, Int.reduceAdd, Int.reduceSub, Int.reduceMul, Int.reduceNeg, Nat.reduceEqDiff, Nat.reduceBEq, Nat.reduceBNe, Nat.reduceAdd, Nat.reduceLeDiff, Nat.reduceLT, Nat.reduceMul, ↓reduceIte, reduceCtorEq, g111, pf111, b111]
  obtain ⟨t, ht⟩ : ∃ t, t = (tk n.toNat (s, b)).1 := ⟨_, rfl⟩
  have hl : t.length ≤ 6 := by have := (tk_len n.toNat (s, b)).1; rw [← ht] at this; omega
  rw [← ht]
  refine run_loop' (fun i : Nat => [(0, T.one (bR (tk n.toNat (s, b)).2)), (5, T.int .i64 (num (t.take i))), (11, T.one (.row (t.map oB))), (12, T.int .i64 t.length), (13, T.int .i64 i)]) (fun i => i ≤ t.length) (fun i => t.length - i) 0 rfl (Nat.zero_le _) (fun i hi => ?_)
  have hb := num_bd6 (t.take i) (by simp; omega)
  simp (maxSteps := 1000000) (disch := first | assumption | ((try simp only [LEN, LEN2]); omega)) only [push_cast, Int.reduceToNat, Int.reduceEq, Int.reduceNe, Int.reduceLT, Int.reduceLE, Int.reduceAdd, Int.reduceSub, Int.reduceMul, Int.reduceNeg, Nat.reduceEqDiff, Nat.reduceBEq, Nat.reduceBNe, Nat.reduceAdd, Nat.reduceLeDiff, Nat.reduceLT, Nat.reduceMul, ↓reduceIte, reduceCtorEq, g111, pf111, b111]
  refine If.dec (fun h => ?_) (fun h => ?_)
  · replace h : i < t.length := by omega
    have e := or_byte (a := num (t.take i)) (b := t[i].toNat) hb.1 (by omega) (by omega) (by have := t[i].toNat_lt; omega)
    simp (maxSteps := 1000000) (disch := first | assumption | ((try simp only [LEN, LEN2]); omega)) only [push_cast, Int.reduceToNat, Int.reduceEq, Int.reduceNe, Int.reduceLT, Int.reduceLE, Int.reduceAdd, Int.reduceSub, Int.reduceMul, Int.reduceNeg, Nat.reduceEqDiff, Nat.reduceBEq, Nat.reduceBNe, Nat.reduceAdd, Nat.reduceLeDiff, Nat.reduceLT, Nat.reduceMul, ↓reduceIte, reduceCtorEq, g111, pf111, b111, oB, e]
    refine ⟨i + 1, ?_, by omega, by omega⟩
    rw [List.take_succ_eq_append_getElem h, num_snoc]; rfl
  · obtain rfl : i = t.length := by omega
    simp (maxSteps := 1000000) (disch := first | assumption | ((try simp only [LEN, LEN2]); omega)) only [push_cast, Int.reduceToNat, Int.reduceEq, Int.reduceNe, Int.reduceLT, Int.reduceLE, Int.reduceAdd, Int.reduceSub, Int.reduceMul, Int.reduceNeg, Nat.reduceEqDiff, Nat.reduceBEq, Nat.reduceBNe, Nat.reduceAdd, Nat.reduceLeDiff, Nat.reduceLT, Nat.reduceMul, ↓reduceIte, reduceCtorEq, g111, pf111, b111]
    simp
theorem f111t {s : List UInt8} {b : Bool} {n : Int} (h0 : 0 ≤ n) (h6 : n ≤ 6) (hs : s.length ≤ 1000000000) {g : VG} {F : Fn} {lk : Bool} {ags : List Arg} {e0 e1 : Env} {dst : Option Nat} {ops : List Ins} {keep : Option (List Nat)} {K : List Fr} : CallT G g F 111 [.one (.box [.d (.sc (.string (bs s))), .d (.sc (.bool b))]), .int .i64 n] lk ags e0 e1 dst ops keep K = RetT G g F (.int .i64 (num (tk n.toNat (s, b)).1)) [bR (tk n.toNat (s, b)).2] lk ags e0 e1 dst ops keep K := callT_eq (f111 h0 h6 hs)
attribute [push_cast] f111t
set_option maxHeartbeats 2000000 in
theorem f112 {s : List UInt8} {b : Bool} (hs : s.length ≤ 1000000000) : Fun G 112 [.one (.box [.d (.sc (.string (bs s))), .d (.sc (.bool b))])] (.vs true (cW (rdW (s, b)).1.Table (rdW (s, b)).1.Key (rdW (s, b)).1.Value (rdW (s, b)).1.Gone), [bR (rdW (s, b)).2]) := by
  refine Fun.of_run (g := g112) (pf := pf112) rfl rfl rfl rfl ?_
  obtain ⟨⟨a1, s1, b1⟩, e1⟩ : ∃ x, tk 1 (s, b) = x := ⟨_, rfl⟩
  obtain ⟨⟨a2, s2, b2⟩, e2⟩ : ∃ x, tk 1 (s1, b1) = x := ⟨_, rfl⟩
  obtain ⟨c, ec⟩ : ∃ c, c = (b2 || decide (1 < num a2)) := ⟨_, rfl⟩
  obtain ⟨⟨a3, s3, b3⟩, e3⟩ : ∃ x, tk 1 (s2, c) = x := ⟨_, rfl⟩
  obtain ⟨⟨a4, s4, b4⟩, e4⟩ : ∃ x, tk (num a3).toNat (s3, b3) = x := ⟨_, rfl⟩
  obtain ⟨⟨a5, s5, b5⟩, e5⟩ : ∃ x, tk 1 (s4, b4) = x := ⟨_, rfl⟩
  obtain ⟨⟨a6, s6, b6⟩, e6⟩ : ∃ x, tk (num a5).toNat (s5, b5) = x := ⟨_, rfl⟩
  have hr : rdW (s, b) = (⟨num a1, a4, a6, decide (num a2 = 1)⟩, s6, b6) := by simp only [rdW, rdK, rdG, e1, e2, ← ec, e3, e4, e5, e6]
  have l1 := (tk_len 1 (s, b)).2
  have l2 := (tk_len 1 (s1, b1)).2
  have l3 := (tk_len 1 (s2, c)).2
  have l4 := (tk_len (num a3).toNat (s3, b3)).2
  have l5 := (tk_len 1 (s4, b4)).2
  have n3 := num_one 1 (by omega) (s2, c)
  have n5 := num_one 1 (by omega) (s4, b4)
  rw [e1] at l1; rw [e2] at l2; rw [e3] at l3 n3; rw [e4] at l4; rw [e5] at l5 n5
  simp only at l1 l2 l3 l4 l5 n3 n5
  obtain ⟨n3, n3'⟩ := n3
  obtain ⟨n5, n5'⟩ := n5
  rw [hr]
  cases b2 with
  | true =>
    obtain rfl : c = true := by simpa using ec
    simp (maxSteps := 1000000) (disch := first | assumption | ((try simp only [LEN, LEN2]); omega)) only [push_cast, Int.reduceToNat, Int.reduceEq, Int.reduceNe, Int.reduceLT, Int.reduceLE, Int.reduceAdd, Int.reduceSub, Int.reduceMul, Int.reduceNeg, Nat.reduceEqDiff, Nat.reduceBEq, Nat.reduceBNe, Nat.reduceAdd, Nat.reduceLeDiff, Nat.reduceLT, Nat.reduceMul, ↓reduceIte, reduceCtorEq, g112, pf112, b112, e1, e2, e3, e4, e5, e6]
  | false =>
    rw [Bool.false_or] at ec
    simp (maxSteps := 1000000) (disch := first | assumption | ((try simp only [LEN, LEN2]); omega)) only [push_cast, Int.reduceToNat, Int.reduceEq, Int.reduceNe, Int.reduceLT, Int.reduceLE, Int.reduceAdd, Int.reduceSub, Int.reduceMul, Int.reduceNeg, Nat.reduceEqDiff, Nat.reduceBEq, Nat.reduceBNe, Nat.reduceAdd, Nat.reduceLeDiff, Nat.reduceLT, Nat.reduceMul, ↓reduceIte, reduceCtorEq, g112, pf112, b112, e1, e2, ← ec, e3, e4, e5, e6]
theorem f112t {s : List UInt8} {b : Bool} (hs : s.length ≤ 1000000000) {g : VG} {F : Fn} {lk : Bool} {ags : List Arg} {e0 e1 : Env} {dst : Option Nat} {ops : List Ins} {keep : Option (List Nat)} {K : List Fr} : CallT G g F 112 [.one (.box [.d (.sc (.string (bs s))), .d (.sc (.bool b))])] lk ags e0 e1 dst ops keep K = RetT G g F (.vs true (cW (rdW (s, b)).1.Table (rdW (s, b)).1.Key (rdW (s, b)).1.Value (rdW (s, b)).1.Gone)) [bR (rdW (s, b)).2] lk ags e0 e1 dst ops keep K := callT_eq (f112 hs)
attribute [push_cast] f112t
set_option maxHeartbeats 2000000 in
theorem f84 {s : List UInt8} (hs : s.length ≤ 100000000) : Fun G 84 [.str (bs s)] (.tup [(true, [.d (.sc (.int .i64 (rc s).Commit)), .own 78 ((rc s).Writes.map oW)]), (false, [.d (.sc (.int .i64 (if (take s).isSome then 0 else 10)))])], []) := by
  refine Fun.of_run (g := g84) (pf := pf84) rfl rfl rfl rfl ?_
  obtain ⟨⟨a1, s1, b1⟩, e1⟩ : ∃ x, tk 4 (s, false) = x := ⟨_, rfl⟩
  obtain ⟨⟨a2, s2, b2⟩, e2⟩ : ∃ x, tk 4 (s1, b1) = x := ⟨_, rfl⟩
  have l1 := (tk_len 4 (s, false)).2
  have l2 := (tk_len 4 (s1, b1)).2
  rw [e1] at l1; rw [e2] at l2
  simp only at l1 l2
  obtain ⟨ws, hws⟩ : ∃ x, x = rdWs (num a2).toNat (s2, b2) := ⟨_, rfl⟩
  have hrec : rdRec s = (⟨num a1, ws.1⟩, ws.2) := by simp only [rdRec, e1, e2, ← hws]
  have hn2 : 0 ≤ num a2 ∧ num a2 < 281474976710656 := num_bd6 a2 (by have := (tk_len 4 (s1, b1)).1; rw [e2] at this; simp only at this; omega)
  simp (maxSteps := 1000000) (disch := first | assumption | ((try simp only [LEN, LEN2]); omega)) only [push_cast, Int.reduceToNat, Int.reduceEq, Int.reduceNe, Int.reduceLT, Int.reduceLE, Int.reduceAdd, Int.reduceSub, Int.reduceMul, Int.reduceNeg, Nat.reduceEqDiff, Nat.reduceBEq, Nat.reduceBNe, Nat.reduceAdd, Nat.reduceLeDiff, Nat.reduceLT, Nat.reduceMul, ↓reduceIte, reduceCtorEq, g84, pf84, b84, e1, e2]
  refine run_loop' (fun x : Nat × List Write × Rdr => [(2, T.one (.box [.d (.sc (.int .i64 0)), .own 78 []])), (4, T.one (bR x.2.2)), (5, T.one (.box [.d (.sc (.int .i64 (num a1))), .own 78 (x.2.1.map oW)])), (6, T.int .i64 x.1)])
    (fun x => x.1 < 281474976710656 ∧ (x.2.1 ++ (rdWs x.1 x.2.2).1, (rdWs x.1 x.2.2).2) = ws ∧ x.2.2.1.length ≤ s.length ∧ (x.2.2.2 = false → x.2.1.length + x.2.2.1.length ≤ s.length) ∧ x.2.1.length ≤ s.length + 1)
    (fun x => x.1) ((num a2).toNat, [], (s2, b2)) ?_ ?_ (fun ⟨n, l, s3, b3⟩ hi => ?_)
  · simp only [Int.toNat_of_nonneg hn2.1]; rfl
  · simp only [List.nil_append, hws]; simp; omega
  obtain ⟨hn, hw, hs3, hl, hl2⟩ := hi
  simp only at hn hw hs3 hl hl2
  by_cases hx : 0 < n ∧ b3 = false
  · obtain ⟨m, rfl⟩ : ∃ m, n = m + 1 := ⟨n - 1, by omega⟩
    obtain ⟨h0, rfl⟩ := hx
    have hl := hl rfl
    have h1 : (0 : Int) < (m : Int) + 1 := by omega
    have g1 := @rdW_good (s3, false)
    have g2 := rdW_len (s3, false)
    have e3 : (m : Int) + 1 - 1 = m := by omega
    simp only at g1 g2
    simp (maxSteps := 1000000) (disch := first | assumption | ((try simp only [LEN, LEN2]); omega)) only [push_cast, Int.reduceToNat, Int.reduceEq, Int.reduceNe, Int.reduceLT, Int.reduceLE, Int.reduceAdd, Int.reduceSub, Int.reduceMul, Int.reduceNeg, Nat.reduceEqDiff, Nat.reduceBEq, Nat.reduceBNe, Nat.reduceAdd, Nat.reduceLeDiff, Nat.reduceLT, Nat.reduceMul, ↓reduceIte, reduceCtorEq, g84, pf84, b84, h1, e3]
    refine ⟨(m, l ++ [(rdW (s3, false)).1], (rdW (s3, false)).2), ?_, ⟨by simp only; omega, ?_, by simp only; omega, fun hf => ?_, by simp only [List.length_append, List.length_singleton]; omega⟩, by simp only; omega⟩
    · simp only [List.map_append, List.map_cons, List.map_nil, oW]
    · rw [← hw]; simp [rdWs]
    · have := g1 hf; simp only [List.length_append, List.length_singleton]; omega
  · have hw' : ws = (l, s3, b3) := by
      rw [← hw]
      cases n with
      | zero => simp [rdWs]
      | succ n =>
        have : b3 = true := by
          cases b3 with
          | true => rfl
          | false => exact (hx ⟨by omega, rfl⟩).elim
        subst this; simp [rdWs]
    have hrec' : rdRec s = (⟨num a1, l⟩, s3, b3) := by rw [hrec, hw']
    have ex : (decide (0 < (n : Int)) = false) ∨ (decide (0 < (n : Int)) = true ∧ b3 = true) := by
      by_cases h : 0 < n
      · right
        refine ⟨by simpa using h, ?_⟩
        cases b3 with
        | true => rfl
        | false => exact (hx ⟨h, rfl⟩).elim
      · left; simp; omega
    by_cases hb : b3 = true
    · have ht : take s = none := by simp [take, hrec', hb]
      subst hb
      rcases ex with h | ⟨h, _⟩ <;> simp (maxSteps := 1000000) (disch := first | assumption | ((try simp only [LEN, LEN2]); omega)) only [push_cast, Int.reduceToNat, Int.reduceEq, Int.reduceNe, Int.reduceLT, Int.reduceLE, Int.reduceAdd, Int.reduceSub, Int.reduceMul, Int.reduceNeg, Nat.reduceEqDiff, Nat.reduceBEq, Nat.reduceBNe, Nat.reduceAdd, Nat.reduceLeDiff, Nat.reduceLT, Nat.reduceMul, ↓reduceIte, reduceCtorEq, g84, pf84, b84, h, ht, rc] <;> try rfl
    · rw [Bool.not_eq_true] at hb
      subst hb
      have h : decide (0 < (n : Int)) = false := by rcases ex with h | ⟨_, h⟩; exact h; cases h
      by_cases h3 : s3 = []
      · by_cases hr : okR ⟨num a1, l⟩ = true
        · have ht : take s = some ⟨num a1, l⟩ := by simp [take, hrec', h3, hr]
          simp (maxSteps := 1000000) (disch := first | assumption | ((try simp only [LEN, LEN2]); omega)) only [push_cast, Int.reduceToNat, Int.reduceEq, Int.reduceNe, Int.reduceLT, Int.reduceLE, Int.reduceAdd, Int.reduceSub, Int.reduceMul, Int.reduceNeg, Nat.reduceEqDiff, Nat.reduceBEq, Nat.reduceBNe, Nat.reduceAdd, Nat.reduceLeDiff, Nat.reduceLT, Nat.reduceMul, ↓reduceIte, reduceCtorEq, g84, pf84, b84, h, h3, hr, ht, rc]
          try rfl
        · rw [Bool.not_eq_true] at hr
          have ht : take s = none := by simp [take, hrec', h3, hr]
          simp (maxSteps := 1000000) (disch := first | assumption | ((try simp only [LEN, LEN2]); omega)) only [push_cast, Int.reduceToNat, Int.reduceEq, Int.reduceNe, Int.reduceLT, Int.reduceLE, Int.reduceAdd, Int.reduceSub, Int.reduceMul, Int.reduceNeg, Nat.reduceEqDiff, Nat.reduceBEq, Nat.reduceBNe, Nat.reduceAdd, Nat.reduceLeDiff, Nat.reduceLT, Nat.reduceMul, ↓reduceIte, reduceCtorEq, g84, pf84, b84, h, h3, hr, ht, rc]
          try rfl
      · have ht : take s = none := by simp [take, hrec', h3]
        simp (maxSteps := 1000000) (disch := first | assumption | ((try simp only [LEN, LEN2]); omega)) only [push_cast, Int.reduceToNat, Int.reduceEq, Int.reduceNe, Int.reduceLT, Int.reduceLE, Int.reduceAdd, Int.reduceSub, Int.reduceMul, Int.reduceNeg, Nat.reduceEqDiff, Nat.reduceBEq, Nat.reduceBNe, Nat.reduceAdd, Nat.reduceLeDiff, Nat.reduceLT, Nat.reduceMul, ↓reduceIte, reduceCtorEq, g84, pf84, b84, h, h3, ht, rc]
        try rfl
theorem f84c {s : List UInt8} (hs : s.length ≤ 100000000) {g : VG} {F : Fn} {lk : Bool} {e : Env} {dst : Option Nat} {ops : List Ins} {keep : Option (List Nat)} {K : List Fr} : CallC G g F 84 [.str (bs s)] lk e dst ops keep K = ThenL G g F (if lk && !(T.noSl (.tup [(true, [.d (.sc (.int .i64 (rc s).Commit)), .own 78 ((rc s).Writes.map oW)]), (false, [.d (.sc (.int .i64 (if (take s).isSome then 0 else 10)))])])) then none else e.put g.un dst (.tup [(true, [.d (.sc (.int .i64 (rc s).Commit)), .own 78 ((rc s).Writes.map oW)]), (false, [.d (.sc (.int .i64 (if (take s).isSome then 0 else 10)))])])) ops keep K := callC_eq (f84 hs)
attribute [push_cast] f84c
theorem f84t {s : List UInt8} (hs : s.length ≤ 100000000) {g : VG} {F : Fn} {lk : Bool} {ags : List Arg} {e0 e1 : Env} {dst : Option Nat} {ops : List Ins} {keep : Option (List Nat)} {K : List Fr} : CallT G g F 84 [.str (bs s)] lk ags e0 e1 dst ops keep K = RetT G g F (.tup [(true, [.d (.sc (.int .i64 (rc s).Commit)), .own 78 ((rc s).Writes.map oW)]), (false, [.d (.sc (.int .i64 (if (take s).isSome then 0 else 10)))])]) [] lk ags e0 e1 dst ops keep K := callT_eq (f84 hs)
attribute [push_cast] f84t
end Go.Mir.Tryz

set_option linter.unusedVariables false
set_option linter.unusedSimpArgs false
set_option maxRecDepth 100000
namespace Go.Mir.Tryz
open Go.Proofs Go.Mir.Q
end Go.Mir.Tryz

set_option linter.unusedVariables false
set_option linter.unusedSimpArgs false
set_option maxRecDepth 100000
namespace Go.Mir.Tryz
open Go.Proofs Go.Mir.Q
theorem f97 {c : Int} (h0 : 0 ≤ c) (h1 : c ≤ 20) : Fun G 97 [.str (bs [0]), .int .i64 c] (.str (bs (List.replicate c.toNat 0)), []) := by
  refine ⟨1, ?_⟩
  show repGiven.2 _ = _
  simp only [repGiven]
  have hs : (bs [0]).size = 1 := rfl
  refine (if_pos ⟨h0, by rw [hs]; omega, by omega⟩).trans ?_
  have e : ∀ k : Nat, (List.replicate k (bs [0]).data.toList).flatten = List.replicate k 0 := by
    intro k
    induction k with
    | zero => rfl
    | succ k ih => rw [List.replicate_succ, List.flatten_cons, ih, List.replicate_succ]; rfl
  rw [e]
set_option maxHeartbeats 2000000 in
theorem f85 {a b : List (List UInt8)} (ha : a.length ≤ 1000000000) (hb : b.length ≤ 1000000000) : Fun G 85 [.one (.d (.sl (a.map eS))), .one (.d (.sl (b.map eS)))] (.bool (decide (a = b)), []) := by
  refine Fun.of_run (g := g85) (pf := pf85) rfl rfl rfl rfl ?_
  simp (maxSteps := 1000000) (disch := first | assumption | ((try simp only [LEN, LEN2]); omega)) only [push_cast, Int.reduceToNat, Int.reduceEq, Int.reduceNe, Int.reduceLT, Int.reduceLE, Int.reduceAdd, Int.reduceSub, Int.reduceMul, Int.reduceNeg, Nat.reduceEqDiff, Nat.reduceBEq, Nat.reduceBNe, Nat.reduceAdd, Nat.reduceLeDiff, Nat.reduceLT, Nat.reduceMul, ↓reduceIte, reduceCtorEq, g85, pf85, b85]
  refine If.dec (fun h => ?_) (fun h => ?_)
  · have : a ≠ b := fun e => h (by rw [e])
    simp (maxSteps := 1000000) (disch := first | assumption | ((try simp only [LEN, LEN2]); omega)) only [push_cast, Int.reduceToNat, Int.reduceEq, Int.reduceNe, Int.reduceLT, Int.reduceLE, Int.reduceAdd, Int.reduceSub, Int.reduceMul, Int.reduceNeg, Nat.reduceEqDiff, Nat.reduceBEq, Nat.reduceBNe, Nat.reduceAdd, Nat.reduceLeDiff, Nat.reduceLT, Nat.reduceMul, ↓reduceIte, reduceCtorEq, g85, pf85, b85]
    simp [this]
  simp (maxSteps := 1000000) (disch := first | assumption | ((try simp only [LEN, LEN2]); omega)) only [push_cast, Int.reduceToNat, Int.reduceEq, Int.reduceNe, Int.reduceLT, Int.reduceLE, Int.reduceAdd, Int.reduceSub, Int.reduceMul, Int.reduceNeg, Nat.reduceEqDiff, Nat.reduceBEq, Nat.reduceBNe, Nat.reduceAdd, Nat.reduceLeDiff, Nat.reduceLT, Nat.reduceMul, ↓reduceIte, reduceCtorEq, g85, pf85, b85]
  have hl : a.length = b.length := by omega
  refine run_loop' (fun i : Nat => [(0, T.one (.d (.sl (a.map eS)))), (1, T.one (.d (.sl (b.map eS)))), (12, T.int .i64 a.length), (13, T.int .i64 i)]) (fun i => i ≤ a.length ∧ a.take i = b.take i) (fun i => a.length - i) 0 rfl ⟨Nat.zero_le _, by simp⟩ (fun i hi => ?_)
  obtain ⟨hi, ht⟩ := hi
  simp (maxSteps := 1000000) (disch := first | assumption | ((try simp only [LEN, LEN2]); omega)) only [push_cast, Int.reduceToNat, Int.reduceEq, Int.reduceNe, Int.reduceLT, Int.reduceLE, Int.reduceAdd, Int.reduceSub, Int.reduceMul, Int.reduceNeg, Nat.reduceEqDiff, Nat.reduceBEq, Nat.reduceBNe, Nat.reduceAdd, Nat.reduceLeDiff, Nat.reduceLT, Nat.reduceMul, ↓reduceIte, reduceCtorEq, g85, pf85, b85]
  refine If.dec (fun h => ?_) (fun h => ?_)
  · replace h : i < a.length := by omega
    have h' : i < b.length := by omega
    by_cases he : a[i] = b[i]
    · simp (maxSteps := 1000000) (disch := first | assumption | ((try simp only [LEN, LEN2]); omega)) only [push_cast, Int.reduceToNat, Int.reduceEq, Int.reduceNe, Int.reduceLT, Int.reduceLE, Int.reduceAdd, Int.reduceSub, Int.reduceMul, Int.reduceNeg, Nat.reduceEqDiff, Nat.reduceBEq, Nat.reduceBNe, Nat.reduceAdd, Nat.reduceLeDiff, Nat.reduceLT, Nat.reduceMul, ↓reduceIte, reduceCtorEq, g85, pf85, b85, eS, he]
      refine ⟨i + 1, rfl, ⟨by omega, ?_⟩, by omega⟩
      rw [List.take_succ_eq_append_getElem h, List.take_succ_eq_append_getElem h', ht, he]
    · have hne : a ≠ b := fun e => he (by subst e; rfl)
      simp (maxSteps := 1000000) (disch := first | assumption | ((try simp only [LEN, LEN2]); omega)) only [push_cast, Int.reduceToNat, Int.reduceEq, Int.reduceNe, Int.reduceLT, Int.reduceLE, Int.reduceAdd, Int.reduceSub, Int.reduceMul, Int.reduceNeg, Nat.reduceEqDiff, Nat.reduceBEq, Nat.reduceBNe, Nat.reduceAdd, Nat.reduceLeDiff, Nat.reduceLT, Nat.reduceMul, ↓reduceIte, reduceCtorEq, g85, pf85, b85, eS, he]
      simp [hne]
  · obtain rfl : i = a.length := by omega
    have : a = b := by rw [List.take_length] at ht; rw [ht, hl, List.take_length]
    simp (maxSteps := 1000000) (disch := first | assumption | ((try simp only [LEN, LEN2]); omega)) only [push_cast, Int.reduceToNat, Int.reduceEq, Int.reduceNe, Int.reduceLT, Int.reduceLE, Int.reduceAdd, Int.reduceSub, Int.reduceMul, Int.reduceNeg, Nat.reduceEqDiff, Nat.reduceBEq, Nat.reduceBNe, Nat.reduceAdd, Nat.reduceLeDiff, Nat.reduceLT, Nat.reduceMul, ↓reduceIte, reduceCtorEq, g85, pf85, b85]
    simp [this]
theorem f85c {a b : List (List UInt8)} (ha : a.length ≤ 1000000000) (hb : b.length ≤ 1000000000) {g : VG} {F : Fn} {lk : Bool} {e : Env} {dst : Option Nat} {ops : List Ins} {keep : Option (List Nat)} {K : List Fr} : CallC G g F 85 [.one (.d (.sl (a.map eS))), .one (.d (.sl (b.map eS)))] lk e dst ops keep K = ThenL G g F (if lk && !(T.noSl (.bool (decide (a = b)))) then none else e.put g.un dst (.bool (decide (a = b)))) ops keep K := callC_eq (f85 ha hb)
attribute [push_cast] f85c
theorem foldB (x p : List UInt8) (a c d : Int) (b : Bool) : x.map oB ++ [[V.d (.sc (.int .u8 (a % 256)))], [V.d (.sc (.int .u8 (c % 256)))], [V.d (.sc (.int .u8 (if b = true then 1 else 0)))], [V.d (.sc (.int .u8 (d % 256)))]] ++ p.map oB = (x ++ [byt a, byt c, if b then 1 else 0, byt d] ++ p).map oB := by
  cases b <;> simp [oB_byt] <;> rfl
theorem foldS1 (l : List (List UInt8)) (x : List UInt8) : l.map oS ++ [[V.d (.sc (.string (bs x)))]] = (l ++ [x]).map oS := by simp [oS]
set_option maxHeartbeats 2000000 in
theorem f64 {n run num' : Int} {l : List Write} (hs : smW l) (hr : okR ⟨n, l⟩ = true) : Fun G 64 [.vs true [.d (.sc (.int .i64 n)), .d (.sl (l.map eW))], .int .i64 run, .int .i64 num'] (.one (.own 9 ((cuts run num' (spelt ⟨n, l⟩)).map oS)), []) := by
  refine Fun.of_run (g := g64) (pf := pf64) rfl rfl rfl rfl ?_
  have h64 : l.length ≤ 64 := by simp [okR] at hr; omega
  simp (maxSteps := 1000000) (disch := first | assumption | ((try simp only [LEN, LEN2]); omega)) only [push_cast, Int.reduceToNat, Int.reduceEq, Int.reduceNe, Int.reduceLT, Int.reduceLE, Int.reduceAdd, Int.reduceSub, Int.reduceMul, Int.reduceNeg, Nat.reduceEqDiff, Nat.reduceBEq, Nat.reduceBNe, Nat.reduceAdd, Nat.reduceLeDiff, Nat.reduceLT, Nat.reduceMul, ↓reduceIte, reduceCtorEq, g64, pf64, b64]
  obtain ⟨s, hsd⟩ : ∃ s, spelt ⟨n, l⟩ = s := ⟨_, rfl⟩
  obtain ⟨hl1, hl2⟩ := okR_len hr
  obtain ⟨hc1, hc2⟩ := cnt_pos hr
  rw [hsd] at hl1 hl2 hc1 hc2 ⊢
  refine run_loop' (fun i : Nat => [(1, T.int .i64 run), (2, T.int .i64 num'), (6, T.one (.own 9 ((cutK run num' s i).map oS))), (7, T.str (bs (s.drop (20 * i)))), (8, T.int .i64 i)]) (fun i => i ≤ cnt s) (fun i => cnt s - i) 0 rfl (Nat.zero_le _) (fun i hi => ?_)
  have hkl : (cutK run num' s i).length = i := by simp [cutK]
  have hf := @f95t [] run (by simp)
  simp only [List.map_nil] at hf
  by_cases h : i < cnt s
  · have hdr : (s.drop (20 * i)).drop (piece s i).length = s.drop (20 * (i + 1)) := by
      rw [List.drop_drop, piece, List.length_take, List.length_drop]
      by_cases h2 : 20 ≤ s.length - 20 * i
      · rw [Nat.min_eq_left h2]; rfl
      · rw [List.drop_of_length_le (by omega), List.drop_of_length_le (by omega)]
    have hb : decide (((piece s i).length : Int) = (s.drop (20 * i)).length) = decide (i + 1 = cnt s) := by
      apply decide_eq_decide.2
      unfold cnt at *
      simp only [piece, List.length_take, List.length_drop]
      omega
    have hm : (if ((s.drop (20 * i)).length : Int) < 20 then ((s.drop (20 * i)).length : Int) else 20) = (piece s i).length := by
      simp only [piece, List.length_take]
      split <;> omega
    have hp := piece_len s i
    have htk : (s.drop (20 * i)).take (piece s i).length = piece s i := by
      simp only [piece, List.length_take]
      by_cases h2 : 20 ≤ (s.drop (20 * i)).length
      · rw [Nat.min_eq_left h2]
      · rw [Nat.min_eq_right (by omega), List.take_of_length_le (Nat.le_refl _), List.take_of_length_le (by omega)]
    have hpd : (piece s i).length ≤ (s.drop (20 * i)).length := by simp only [piece, List.length_take]; omega
    have hdl : (s.drop (20 * i)).length ≤ 3000 := by rw [List.length_drop]; omega
    have hne : s.drop (20 * i) ≠ [] := by
      intro he
      have := congrArg List.length he
      simp [cnt] at this h
      omega
    have hr64 := @f97 (20 - (piece s i).length) (by omega) (by omega)
    have e20 : (20 - ((piece s i).length : Int)).toNat = 20 - (piece s i).length := by omega
    obtain ⟨d, hd⟩ : ∃ d, s.drop (20 * i) = d := ⟨_, rfl⟩
    obtain ⟨p, hpp⟩ : ∃ p, piece s i = p := ⟨_, rfl⟩
    rw [hd, hpp] at hdr hb hm htk hpd
    rw [hd] at hdl hne ⊢
    rw [hpp] at hp hr64 e20
    simp (maxSteps := 1000000) (disch := first | assumption | ((try simp only [LEN, LEN2]); omega)) only [push_cast, Int.reduceToNat, Int.reduceEq, Int.reduceNe, Int.reduceLT, Int.reduceLE, Int.reduceAdd, Int.reduceSub, Int.reduceMul, Int.reduceNeg, Nat.reduceEqDiff, Nat.reduceBEq, Nat.reduceBNe, Nat.reduceAdd, Nat.reduceLeDiff, Nat.reduceLT, Nat.reduceMul, ↓reduceIte, reduceCtorEq, g64, pf64, b64, hne, hf, hm, hb, htk, foldB]
    simp (maxSteps := 1000000) (disch := first | assumption | ((try simp only [LEN, LEN2]); omega)) only [push_cast, Int.reduceToNat, Int.reduceEq, Int.reduceNe, Int.reduceLT, Int.reduceLE, Int.reduceAdd, Int.reduceSub, Int.reduceMul, Int.reduceNeg, Nat.reduceEqDiff, Nat.reduceBEq, Nat.reduceBNe, Nat.reduceAdd, Nat.reduceLeDiff, Nat.reduceLT, Nat.reduceMul, ↓reduceIte, reduceCtorEq, g64, pf64, b64, callC_eq hr64, foldS1, hdr, e20]
    refine ⟨i + 1, ?_, by omega, by omega⟩
    rw [cutK_succ, hpp]
    simp [sec, hdr]
  · obtain rfl : i = cnt s := by omega
    have hz : s.drop (20 * cnt s) = [] := List.drop_of_length_le (by unfold cnt; omega)
    have hz0 : ((cnt s : Int) = 0) = False := by simp; omega
    simp (maxSteps := 1000000) (disch := first | assumption | ((try simp only [LEN, LEN2]); omega)) only [push_cast, Int.reduceToNat, Int.reduceEq, Int.reduceNe, Int.reduceLT, Int.reduceLE, Int.reduceAdd, Int.reduceSub, Int.reduceMul, Int.reduceNeg, Nat.reduceEqDiff, Nat.reduceBEq, Nat.reduceBNe, Nat.reduceAdd, Nat.reduceLeDiff, Nat.reduceLT, Nat.reduceMul, ↓reduceIte, reduceCtorEq, g64, pf64, b64, hz, hz0]
    rfl
theorem f64c {n run num' : Int} {l : List Write} (hs : smW l) (hr : okR ⟨n, l⟩ = true) {g : VG} {F : Fn} {lk : Bool} {e : Env} {dst : Option Nat} {ops : List Ins} {keep : Option (List Nat)} {K : List Fr} : CallC G g F 64 [.vs true [.d (.sc (.int .i64 n)), .d (.sl (l.map eW))], .int .i64 run, .int .i64 num'] lk e dst ops keep K = ThenL G g F (if lk && !(T.noSl (.one (.own 9 ((cuts run num' (spelt ⟨n, l⟩)).map oS)))) then none else e.put g.un dst (.one (.own 9 ((cuts run num' (spelt ⟨n, l⟩)).map oS)))) ops keep K := callC_eq (f64 hs hr)
attribute [push_cast] f64c
set_option maxHeartbeats 2000000 in
theorem f42 {run nn : Int} {L : List (List UInt8)} (hL : L.length ≤ 4000000) : Fun G 42 [.one (.d (.sl (L.map eS))), .int .i64 run, .int .i64 nn] (.tup [(true, [.d (.sc (.int .i64 (whole1 run nn L).1.Commit)), .own 78 ((whole1 run nn L).1.Writes.map oW)]), (false, [.d (.sc (.int .i64 (whole1 run nn L).2))])], []) := by
  refine Fun.of_run (g := g42) (pf := pf42) rfl rfl rfl rfl ?_
  simp (maxSteps := 1000000) (disch := first | assumption | ((try simp only [LEN, LEN2]); omega)) only [push_cast, Int.reduceToNat, Int.reduceEq, Int.reduceNe, Int.reduceLT, Int.reduceLE, Int.reduceAdd, Int.reduceSub, Int.reduceMul, Int.reduceNeg, Nat.reduceEqDiff, Nat.reduceBEq, Nat.reduceBNe, Nat.reduceAdd, Nat.reduceLeDiff, Nat.reduceLT, Nat.reduceMul, ↓reduceIte, reduceCtorEq, g42, pf42, b42]
  obtain ⟨W, hW⟩ : ∃ W, whole1 run nn L = W := ⟨_, rfl⟩
  rw [hW]
  refine run_loop' (fun x : Nat × List UInt8 => [(0, T.one (.d (.sl (L.map eS)))), (1, T.int .i64 run), (2, T.int .i64 nn), (6, T.one (.box [.d (.sc (.int .i64 0)), .own 78 []])), (8, T.str (bs x.2)), (14, T.one (.d (.sl (L.map eS)))), (15, T.int .i64 L.length), (16, T.int .i64 x.1)])
    (fun x => x.1 ≤ L.length ∧ x.2.length ≤ 20 * x.1 ∧ W = whole run nn L (L.drop x.1) x.1 x.2) (fun x => L.length - x.1) (0, []) rfl ⟨Nat.zero_le _, by simp, hW.symm⟩ (fun ⟨i, b⟩ hi => ?_)
  obtain ⟨hi, hb, hw⟩ := hi
  simp only at hi hb hw
  by_cases h : (i : Int) < L.length
  · have hi' : i < L.length := by omega
    rw [List.drop_eq_getElem_cons hi', whole] at hw
    obtain ⟨s, hs⟩ : ∃ s, L[i] = s := ⟨_, rfl⟩
    rw [hs] at hw
    by_cases h32 : s.length = 32
    · rw [if_neg (by omega)] at hw
      obtain ⟨k, hk⟩ : ∃ k, s[11] = k := ⟨_, rfl⟩
      obtain ⟨z, hz⟩ : ∃ z, s[10] = z := ⟨_, rfl⟩
      have hk' : s[11]?.getD 0 = k := by rw [List.getElem?_eq_getElem (by omega), hk]; rfl
      have hz' : s[10]?.getD 0 = z := by rw [List.getElem?_eq_getElem (by omega), hz]; rfl
      rw [hk', hz'] at hw
      by_cases h20 : 20 < k.toNat
      · rw [if_pos h20] at hw
        have hI : ((20 : Int) < k.toNat) = True := by simp; omega
        simp (maxSteps := 1000000) (disch := first | assumption | ((try simp only [LEN, LEN2]); omega)) only [push_cast, Int.reduceToNat, Int.reduceEq, Int.reduceNe, Int.reduceLT, Int.reduceLE, Int.reduceAdd, Int.reduceSub, Int.reduceMul, Int.reduceNeg, Nat.reduceEqDiff, Nat.reduceBEq, Nat.reduceBNe, Nat.reduceAdd, Nat.reduceLeDiff, Nat.reduceLT, Nat.reduceMul, ↓reduceIte, reduceCtorEq, g42, pf42, b42, h, eS, hs, h32, hk, hI, hw]
      · rw [if_neg h20] at hw
        have hI : ((20 : Int) < k.toNat) = False := by simp; omega
        have hk20 : (12 + (k.toNat : Int)).toNat = 12 + k.toNat := by omega
        obtain ⟨p, hp⟩ : ∃ p, (s.drop 12).take k.toNat = p := ⟨_, rfl⟩
        have hpl : p.length ≤ 20 := by rw [← hp, List.length_take]; omega
        rw [hp] at hw
        have hp2 : (s.take (12 + k.toNat)).drop 12 = p := by rw [← hp, List.drop_take]; congr 1; omega
        by_cases h0 : z = 0
        · rw [if_pos h0] at hw
          have hz0 : ((z.toNat : Int) = 0) = True := by subst h0; simp
          simp (maxSteps := 1000000) (disch := first | assumption | ((try simp only [LEN, LEN2]); omega)) only [push_cast, Int.reduceToNat, Int.reduceEq, Int.reduceNe, Int.reduceLT, Int.reduceLE, Int.reduceAdd, Int.reduceSub, Int.reduceMul, Int.reduceNeg, Nat.reduceEqDiff, Nat.reduceBEq, Nat.reduceBNe, Nat.reduceAdd, Nat.reduceLeDiff, Nat.reduceLT, Nat.reduceMul, ↓reduceIte, reduceCtorEq, g42, pf42, b42, h, eS, hs, h32, hk, hI, hz, hz0, hk20, hp2]
          exact ⟨(i + 1, b ++ p), rfl, ⟨by simp only; omega, by simp only [List.length_append]; omega, hw⟩, by simp only; omega⟩
        · have hz0 : ((z.toNat : Int) = 0) = False := by
            simp only [eq_iff_iff, iff_false]
            intro hz0
            exact h0 (UInt8.toNat_inj.1 (by simpa using hz0))
          rw [if_neg h0] at hw
          have hbl : (b ++ p).length ≤ 100000000 := by rw [List.length_append]; omega
          cases ht : take (b ++ p) with
          | none =>
            rw [ht] at hw
            simp (maxSteps := 1000000) (disch := first | assumption | ((try simp only [LEN, LEN2]); omega)) only [push_cast, Int.reduceToNat, Int.reduceEq, Int.reduceNe, Int.reduceLT, Int.reduceLE, Int.reduceAdd, Int.reduceSub, Int.reduceMul, Int.reduceNeg, Nat.reduceEqDiff, Nat.reduceBEq, Nat.reduceBNe, Nat.reduceAdd, Nat.reduceLeDiff, Nat.reduceLT, Nat.reduceMul, ↓reduceIte, reduceCtorEq, g42, pf42, b42, h, eS, hs, h32, hk, hI, hz, hz0, hk20, hp2, ht, hw]
          | some r =>
            rw [ht] at hw
            simp only at hw
            have hr := take_ok ht
            have hws := okR_smW hr
            have hcl : (cuts run nn (spelt r)).length ≤ 1000000000 := by have := (cnt_pos hr).2; rw [cuts_len]; omega
            have htl : (L.take (i + 1)).length ≤ 1000000000 := by rw [List.length_take]; omega
            have ei : ((i : Int) + 1).toNat = i + 1 := by omega
            obtain ⟨c, ws⟩ := r
            simp only at hws
            by_cases hc : cuts run nn (spelt ⟨c, ws⟩) = L.take (i + 1)
            · rw [if_pos hc] at hw
              simp (maxSteps := 1000000) (disch := first | assumption | ((try simp only [LEN, LEN2]); omega)) only [push_cast, Int.reduceToNat, Int.reduceEq, Int.reduceNe, Int.reduceLT, Int.reduceLE, Int.reduceAdd, Int.reduceSub, Int.reduceMul, Int.reduceNeg, Nat.reduceEqDiff, Nat.reduceBEq, Nat.reduceBNe, Nat.reduceAdd, Nat.reduceLeDiff, Nat.reduceLT, Nat.reduceMul, ↓reduceIte, reduceCtorEq, g42, pf42, b42, h, hs, h32, hk, hI, hz, hz0, hk20, hp2, ht, hw, rc, eS, ei, hc]
              done
            · rw [if_neg hc] at hw
              simp (maxSteps := 1000000) (disch := first | assumption | ((try simp only [LEN, LEN2]); omega)) only [push_cast, Int.reduceToNat, Int.reduceEq, Int.reduceNe, Int.reduceLT, Int.reduceLE, Int.reduceAdd, Int.reduceSub, Int.reduceMul, Int.reduceNeg, Nat.reduceEqDiff, Nat.reduceBEq, Nat.reduceBNe, Nat.reduceAdd, Nat.reduceLeDiff, Nat.reduceLT, Nat.reduceMul, ↓reduceIte, reduceCtorEq, g42, pf42, b42, h, hs, h32, hk, hI, hz, hz0, hk20, hp2, ht, hw, rc, eS, ei, hc]
              done
    · rw [if_pos h32] at hw
      have hn : ((s.length : Int) = 32) = False := by simp; omega
      simp (maxSteps := 1000000) (disch := first | assumption | ((try simp only [LEN, LEN2]); omega)) only [push_cast, Int.reduceToNat, Int.reduceEq, Int.reduceNe, Int.reduceLT, Int.reduceLE, Int.reduceAdd, Int.reduceSub, Int.reduceMul, Int.reduceNeg, Nat.reduceEqDiff, Nat.reduceBEq, Nat.reduceBNe, Nat.reduceAdd, Nat.reduceLeDiff, Nat.reduceLT, Nat.reduceMul, ↓reduceIte, reduceCtorEq, g42, pf42, b42, h, eS, hs, hn, hw]
  · obtain rfl : i = L.length := by omega
    rw [List.drop_length, whole] at hw
    simp (maxSteps := 1000000) (disch := first | assumption | ((try simp only [LEN, LEN2]); omega)) only [push_cast, Int.reduceToNat, Int.reduceEq, Int.reduceNe, Int.reduceLT, Int.reduceLE, Int.reduceAdd, Int.reduceSub, Int.reduceMul, Int.reduceNeg, Nat.reduceEqDiff, Nat.reduceBEq, Nat.reduceBNe, Nat.reduceAdd, Nat.reduceLeDiff, Nat.reduceLT, Nat.reduceMul, ↓reduceIte, reduceCtorEq, g42, pf42, b42, h, hw]
theorem f42c {run nn : Int} {L : List (List UInt8)} (hL : L.length ≤ 4000000) {g : VG} {F : Fn} {lk : Bool} {e : Env} {dst : Option Nat} {ops : List Ins} {keep : Option (List Nat)} {K : List Fr} : CallC G g F 42 [.one (.d (.sl (L.map eS))), .int .i64 run, .int .i64 nn] lk e dst ops keep K = ThenL G g F (if lk && !(T.noSl (.tup [(true, [.d (.sc (.int .i64 (whole1 run nn L).1.Commit)), .own 78 ((whole1 run nn L).1.Writes.map oW)]), (false, [.d (.sc (.int .i64 (whole1 run nn L).2))])])) then none else e.put g.un dst (.tup [(true, [.d (.sc (.int .i64 (whole1 run nn L).1.Commit)), .own 78 ((whole1 run nn L).1.Writes.map oW)]), (false, [.d (.sc (.int .i64 (whole1 run nn L).2))])])) ops keep K := callC_eq (f42 hL)
attribute [push_cast] f42c
theorem f42t {run nn : Int} {L : List (List UInt8)} (hL : L.length ≤ 4000000) {g : VG} {F : Fn} {lk : Bool} {ags : List Arg} {e0 e1 : Env} {dst : Option Nat} {ops : List Ins} {keep : Option (List Nat)} {K : List Fr} : CallT G g F 42 [.one (.d (.sl (L.map eS))), .int .i64 run, .int .i64 nn] lk ags e0 e1 dst ops keep K = RetT G g F (.tup [(true, [.d (.sc (.int .i64 (whole1 run nn L).1.Commit)), .own 78 ((whole1 run nn L).1.Writes.map oW)]), (false, [.d (.sc (.int .i64 (whole1 run nn L).2))])]) [] lk ags e0 e1 dst ops keep K := callT_eq (f42 hL)
attribute [push_cast] f42t
theorem toDs_oR (c : Int) (ws : List Write) : toDs [.d (.sc (.int .i64 c)), .own 78 (ws.map oW)] = some [.sc (.int .i64 c), .sl (ws.map eW)] := by simp [toDs, V.toD, toDss_oW]
def oR (r : Record) : List V := [.d (.sc (.int .i64 r.Commit)), .own 78 (r.Writes.map oW)]
theorem toDss_oR (l : List Record) : toDss (l.map oR) = some (l.map eR) := toDss_map (fun _ => toDs_oR _ _) l
theorem noSlss_oR (l : List Record) : noSlss (l.map oR) = true := noSlss_map (fun x => by simp [oR, noSls, V.noSl, noSlss_oW]) l
attribute [push_cast] toDss_oR noSlss_oR
set_option maxHeartbeats 2000000 in
theorem f44 {run n0 : Int} {L : List (List UInt8)} (hL : L.length ≤ 4000000) (h0 : okN n0) : Fun G 44 [.one (.d (.sl (L.map eS))), .int .i64 run, .int .i64 n0] (.tup [(false, [.own 70 ((rd run n0 L).1.map oR)]), (false, [.d (.sc (.int .i64 (rd run n0 L).2))])], []) := by
  refine Fun.of_run (g := g44) (pf := pf44) rfl rfl rfl rfl ?_
  simp (maxSteps := 1000000) (disch := first | assumption | ((try simp only [LEN, LEN2]); omega)) only [push_cast, Int.reduceToNat, Int.reduceEq, Int.reduceNe, Int.reduceLT, Int.reduceLE, Int.reduceAdd, Int.reduceSub, Int.reduceMul, Int.reduceNeg, Nat.reduceEqDiff, Nat.reduceBEq, Nat.reduceBNe, Nat.reduceAdd, Nat.reduceLeDiff, Nat.reduceLT, Nat.reduceMul, ↓reduceIte, reduceCtorEq, g44, pf44, b44]
  obtain ⟨W, hW⟩ : ∃ W, rd run n0 L = W := ⟨_, rfl⟩
  rw [hW]
  refine run_loop' (fun x : Nat × Int × Nat × List Record => [(0, T.one (.d (.sl (L.map eS)))), (1, T.int .i64 run), (2, T.int .i64 x.2.1), (6, T.one (.own 70 (x.2.2.2.map oR))), (7, T.int .i64 x.2.2.1)])
    (fun x => x.2.2.1 ≤ L.length ∧ L.length - x.2.2.1 < x.1 ∧ x.2.2.2.length ≤ x.2.2.1 ∧ okN x.2.1 ∧ W = (x.2.2.2 ++ (runF run L x.1 x.2.1 x.2.2.1).1, (runF run L x.1 x.2.1 x.2.2.1).2)) (fun x => x.1) (L.length + 1, n0, 0, []) rfl ⟨Nat.zero_le _, by simp only; omega, Nat.zero_le _, h0, hW.symm⟩ (fun ⟨j, n, m, x⟩ hi => ?_)
  obtain ⟨hm, hj, hx, hn, hw⟩ := hi
  simp only at hm hj hx hn hw
  obtain ⟨j, rfl⟩ : ∃ k, j = k + 1 := ⟨j - 1, by omega⟩
  obtain ⟨hn1, hn2⟩ := hn
  rw [runF] at hw
  by_cases h : n ≤ 1073741824
  · rw [if_neg (by omega)] at hw
    have hdl : (L.drop m).length ≤ 4000000 := by rw [List.length_drop]; omega
    have hle := whole1_le run n (L.drop m)
    rw [List.length_drop] at hle
    obtain ⟨⟨⟨c, ws⟩, k⟩, hk⟩ : ∃ x, whole1 run n (L.drop m) = x := ⟨_, rfl⟩
    rw [hk] at hw hle
    simp only at hw hle
    by_cases hk0 : k = 0
    · rw [if_pos hk0] at hw
      subst hk0
      simp (maxSteps := 1000000) (disch := first | assumption | ((try simp only [LEN, LEN2]); omega)) only [push_cast, Int.reduceToNat, Int.reduceEq, Int.reduceNe, Int.reduceLT, Int.reduceLE, Int.reduceAdd, Int.reduceSub, Int.reduceMul, Int.reduceNeg, Nat.reduceEqDiff, Nat.reduceBEq, Nat.reduceBNe, Nat.reduceAdd, Nat.reduceLeDiff, Nat.reduceLT, Nat.reduceMul, ↓reduceIte, reduceCtorEq, g44, pf44, b44, h, hk, hw, List.take_length]
      try rfl
      done
    · rw [if_neg hk0] at hw
      have hk1 : ((k : Int) = 0) = False := by simp; omega
      simp (maxSteps := 1000000) (disch := first | assumption | ((try simp only [LEN, LEN2]); omega)) only [push_cast, Int.reduceToNat, Int.reduceEq, Int.reduceNe, Int.reduceLT, Int.reduceLE, Int.reduceAdd, Int.reduceSub, Int.reduceMul, Int.reduceNeg, Nat.reduceEqDiff, Nat.reduceBEq, Nat.reduceBNe, Nat.reduceAdd, Nat.reduceLeDiff, Nat.reduceLT, Nat.reduceMul, ↓reduceIte, reduceCtorEq, g44, pf44, b44, h, hk, hk1, List.take_length]
      exact ⟨(j, n + 1, m + k, x ++ [⟨c, ws⟩]), by simp [oR], ⟨by simp only; omega, by simp only; omega, by simp only [List.length_append, List.length_singleton]; omega, ⟨by simp only; omega, by simp only; omega⟩, by rw [hw]; simp⟩, by simp only; omega⟩
  · rw [if_pos (by omega)] at hw
    simp (maxSteps := 1000000) (disch := first | assumption | ((try simp only [LEN, LEN2]); omega)) only [push_cast, Int.reduceToNat, Int.reduceEq, Int.reduceNe, Int.reduceLT, Int.reduceLE, Int.reduceAdd, Int.reduceSub, Int.reduceMul, Int.reduceNeg, Nat.reduceEqDiff, Nat.reduceBEq, Nat.reduceBNe, Nat.reduceAdd, Nat.reduceLeDiff, Nat.reduceLT, Nat.reduceMul, ↓reduceIte, reduceCtorEq, g44, pf44, b44, h, hw]
    done
theorem f44c {run n0 : Int} {L : List (List UInt8)} (hL : L.length ≤ 4000000) (h0 : okN n0) {g : VG} {F : Fn} {lk : Bool} {e : Env} {dst : Option Nat} {ops : List Ins} {keep : Option (List Nat)} {K : List Fr} : CallC G g F 44 [.one (.d (.sl (L.map eS))), .int .i64 run, .int .i64 n0] lk e dst ops keep K = ThenL G g F (if lk && !(T.noSl (.tup [(false, [.own 70 ((rd run n0 L).1.map oR)]), (false, [.d (.sc (.int .i64 (rd run n0 L).2))])])) then none else e.put g.un dst (.tup [(false, [.own 70 ((rd run n0 L).1.map oR)]), (false, [.d (.sc (.int .i64 (rd run n0 L).2))])])) ops keep K := callC_eq (f44 hL h0)
attribute [push_cast] f44c
end Go.Mir.Tryz

set_option linter.unusedVariables false
set_option linter.unusedSimpArgs false
set_option maxRecDepth 100000
namespace Go.Mir.Tryz
open Go.Proofs Go.Mir.Q
theorem f109 {l : List (List UInt8)} {f : FuncId} {caps : List T} {p : (List UInt8) → Bool} (hl : l.length ≤ 1000000000) (hpm : G.pm f = [.ro] ∨ G.pm f = [.ro, .ro] ∨ G.pm f = [.ro, .ro, .ro] ∨ G.pm f = [.ro, .ro, .ro, .ro]) (hcap : capsData caps = true) (hf : ∀ w ∈ l, Fun G f (.str (bs w) :: caps) (.bool (p w), [])) :
    Fun G 109 [.one (.d (.sl (l.map eS))), .fn f caps] (.int .i64 (idx p l), []) := by
  refine Fun.of_run (g := g109) (pf := pf109) rfl rfl rfl rfl ?_
  have hcap2 := capsRo_data (caps := caps) hcap
  have hcap3 := rootsL_data (caps := caps) hcap
  simp (maxSteps := 1000000) (disch := first | assumption | ((try simp only [LEN, LEN2]); omega)) only [push_cast, Int.reduceToNat, Int.reduceEq, Int.reduceNe, Int.reduceLT, Int.reduceLE, Int.reduceAdd, Int.reduceSub, Int.reduceMul, Int.reduceNeg, Nat.reduceEqDiff, Nat.reduceBEq, Nat.reduceBNe, Nat.reduceAdd, Nat.reduceLeDiff, Nat.reduceLT, Nat.reduceMul, ↓reduceIte, reduceCtorEq, g109, pf109, b109, hcap2, hcap3, List.all_nil]
  refine run_loop' (fun i : Nat => [(0, T.one (.d (.sl (l.map eS)))), (1, T.fn f caps), (7, T.int .i64 l.length), (8, T.int .i64 i)]) (fun i => i ≤ l.length ∧ ∀ x ∈ l.take i, p x = false) (fun i => l.length - i) 0 rfl ⟨Nat.zero_le _, by simp⟩ (fun i hi => ?_)
  obtain ⟨hi, ht⟩ := hi
  simp (maxSteps := 1000000) (disch := first | assumption | ((try simp only [LEN, LEN2]); omega)) only [push_cast, Int.reduceToNat, Int.reduceEq, Int.reduceNe, Int.reduceLT, Int.reduceLE, Int.reduceAdd, Int.reduceSub, Int.reduceMul, Int.reduceNeg, Nat.reduceEqDiff, Nat.reduceBEq, Nat.reduceBNe, Nat.reduceAdd, Nat.reduceLeDiff, Nat.reduceLT, Nat.reduceMul, ↓reduceIte, reduceCtorEq, g109, pf109, b109, hcap2, hcap3, List.all_nil]
  refine If.dec (fun h => ?_) (fun h => ?_)
  · replace h : i < l.length := by omega
    have h2 := hf l[i] (List.getElem_mem h)
    skip
    by_cases hp : p l[i] = true
    · rcases hpm with hpm | hpm | hpm | hpm <;> simp (maxSteps := 1000000) (disch := first | assumption | ((try simp only [LEN, LEN2]); omega)) only [push_cast, Int.reduceToNat, Int.reduceEq, Int.reduceNe, Int.reduceLT, Int.reduceLE, Int.reduceAdd, Int.reduceSub, Int.reduceMul, Int.reduceNeg, Nat.reduceEqDiff, Nat.reduceBEq, Nat.reduceBNe, Nat.reduceAdd, Nat.reduceLeDiff, Nat.reduceLT, Nat.reduceMul, ↓reduceIte, reduceCtorEq, g109, pf109, b109, hcap2, hcap3, List.all_nil, hpm, eS, callT_eq h2, hp] <;> rw [idx_some h ht hp]
    · rw [Bool.not_eq_true] at hp
      rcases hpm with hpm | hpm | hpm | hpm <;> simp (maxSteps := 1000000) (disch := first | assumption | ((try simp only [LEN, LEN2]); omega)) only [push_cast, Int.reduceToNat, Int.reduceEq, Int.reduceNe, Int.reduceLT, Int.reduceLE, Int.reduceAdd, Int.reduceSub, Int.reduceMul, Int.reduceNeg, Nat.reduceEqDiff, Nat.reduceBEq, Nat.reduceBNe, Nat.reduceAdd, Nat.reduceLeDiff, Nat.reduceLT, Nat.reduceMul, ↓reduceIte, reduceCtorEq, g109, pf109, b109, hcap2, hcap3, List.all_nil, hpm, eS, callT_eq h2, hp]
      all_goals
        refine ⟨i + 1, rfl, ⟨by omega, fun x hx => ?_⟩, by omega⟩
        rw [List.take_succ_eq_append_getElem h, List.mem_append, List.mem_singleton] at hx
        rcases hx with hx | rfl
        · exact ht x hx
        · exact hp
  · obtain rfl : i = l.length := by omega
    simp (maxSteps := 1000000) (disch := first | assumption | ((try simp only [LEN, LEN2]); omega)) only [push_cast, Int.reduceToNat, Int.reduceEq, Int.reduceNe, Int.reduceLT, Int.reduceLE, Int.reduceAdd, Int.reduceSub, Int.reduceMul, Int.reduceNeg, Nat.reduceEqDiff, Nat.reduceBEq, Nat.reduceBNe, Nat.reduceAdd, Nat.reduceLeDiff, Nat.reduceLT, Nat.reduceMul, ↓reduceIte, reduceCtorEq, g109, pf109, b109, hcap2, hcap3, List.all_nil]
    rw [idx_none (fun x hx => ht x (by rw [List.take_length]; exact hx))]
theorem f78 {l : List (List UInt8)} {f : FuncId} {caps : List T} {p : (List UInt8) → Bool} (hl : l.length ≤ 1000000000) (hpm : G.pm f = [.ro] ∨ G.pm f = [.ro, .ro] ∨ G.pm f = [.ro, .ro, .ro] ∨ G.pm f = [.ro, .ro, .ro, .ro]) (hcap : capsData caps = true) (hf : ∀ w ∈ l, Fun G f (.str (bs w) :: caps) (.bool (p w), [])) :
    Fun G 78 [.one (.d (.sl (l.map eS))), .fn f caps] (.bool (l.any p), []) := by
  refine Fun.of_run (g := g78) (pf := pf78) rfl rfl rfl rfl ?_
  have hcap2 := capsRo_data (caps := caps) hcap
  have hcap3 := rootsL_data (caps := caps) hcap
  simp (maxSteps := 1000000) (disch := first | assumption | ((try simp only [LEN, LEN2]); omega)) only [push_cast, Int.reduceToNat, Int.reduceEq, Int.reduceNe, Int.reduceLT, Int.reduceLE, Int.reduceAdd, Int.reduceSub, Int.reduceMul, Int.reduceNeg, Nat.reduceEqDiff, Nat.reduceBEq, Nat.reduceBNe, Nat.reduceAdd, Nat.reduceLeDiff, Nat.reduceLT, Nat.reduceMul, ↓reduceIte, reduceCtorEq, g78, pf78, b78, hcap2, hcap3, List.all_nil, callC_eq (f109 hl hpm hcap hf)]
  rw [← idx_nonneg]
theorem f110 {l : List (Put)} {f : FuncId} {caps : List T} {p : (Put) → Bool} (hl : l.length ≤ 1000000000) (hpm : G.pm f = [.ro] ∨ G.pm f = [.ro, .ro] ∨ G.pm f = [.ro, .ro, .ro] ∨ G.pm f = [.ro, .ro, .ro, .ro]) (hcap : capsData caps = true) (hf : ∀ w ∈ l, Fun G f (.vs true (oP w) :: caps) (.bool (p w), [])) :
    Fun G 110 [.one (.d (.sl (l.map eP))), .fn f caps] (.int .i64 (idx p l), []) := by
  refine Fun.of_run (g := g110) (pf := pf110) rfl rfl rfl rfl ?_
  have hcap2 := capsRo_data (caps := caps) hcap
  have hcap3 := rootsL_data (caps := caps) hcap
  simp (maxSteps := 1000000) (disch := first | assumption | ((try simp only [LEN, LEN2]); omega)) only [push_cast, Int.reduceToNat, Int.reduceEq, Int.reduceNe, Int.reduceLT, Int.reduceLE, Int.reduceAdd, Int.reduceSub, Int.reduceMul, Int.reduceNeg, Nat.reduceEqDiff, Nat.reduceBEq, Nat.reduceBNe, Nat.reduceAdd, Nat.reduceLeDiff, Nat.reduceLT, Nat.reduceMul, ↓reduceIte, reduceCtorEq, g110, pf110, b110, hcap2, hcap3, List.all_nil]
  refine run_loop' (fun i : Nat => [(0, T.one (.d (.sl (l.map eP)))), (1, T.fn f caps), (7, T.int .i64 l.length), (8, T.int .i64 i)]) (fun i => i ≤ l.length ∧ ∀ x ∈ l.take i, p x = false) (fun i => l.length - i) 0 rfl ⟨Nat.zero_le _, by simp⟩ (fun i hi => ?_)
  obtain ⟨hi, ht⟩ := hi
  simp (maxSteps := 1000000) (disch := first | assumption | ((try simp only [LEN, LEN2]); omega)) only [push_cast, Int.reduceToNat, Int.reduceEq, Int.reduceNe, Int.reduceLT, Int.reduceLE, Int.reduceAdd, Int.reduceSub, Int.reduceMul, Int.reduceNeg, Nat.reduceEqDiff, Nat.reduceBEq, Nat.reduceBNe, Nat.reduceAdd, Nat.reduceLeDiff, Nat.reduceLT, Nat.reduceMul, ↓reduceIte, reduceCtorEq, g110, pf110, b110, hcap2, hcap3, List.all_nil]
  refine If.dec (fun h => ?_) (fun h => ?_)
  · replace h : i < l.length := by omega
    have h2 := hf l[i] (List.getElem_mem h)
    try simp only [oP] at h2
    by_cases hp : p l[i] = true
    · rcases hpm with hpm | hpm | hpm | hpm <;> simp (maxSteps := 1000000) (disch := first | assumption | ((try simp only [LEN, LEN2]); omega)) only [push_cast, Int.reduceToNat, Int.reduceEq, Int.reduceNe, Int.reduceLT, Int.reduceLE, Int.reduceAdd, Int.reduceSub, Int.reduceMul, Int.reduceNeg, Nat.reduceEqDiff, Nat.reduceBEq, Nat.reduceBNe, Nat.reduceAdd, Nat.reduceLeDiff, Nat.reduceLT, Nat.reduceMul, ↓reduceIte, reduceCtorEq, g110, pf110, b110, hcap2, hcap3, List.all_nil, hpm, eP, callT_eq h2, hp] <;> rw [idx_some h ht hp]
    · rw [Bool.not_eq_true] at hp
      rcases hpm with hpm | hpm | hpm | hpm <;> simp (maxSteps := 1000000) (disch := first | assumption | ((try simp only [LEN, LEN2]); omega)) only [push_cast, Int.reduceToNat, Int.reduceEq, Int.reduceNe, Int.reduceLT, Int.reduceLE, Int.reduceAdd, Int.reduceSub, Int.reduceMul, Int.reduceNeg, Nat.reduceEqDiff, Nat.reduceBEq, Nat.reduceBNe, Nat.reduceAdd, Nat.reduceLeDiff, Nat.reduceLT, Nat.reduceMul, ↓reduceIte, reduceCtorEq, g110, pf110, b110, hcap2, hcap3, List.all_nil, hpm, eP, callT_eq h2, hp]
      all_goals
        refine ⟨i + 1, rfl, ⟨by omega, fun x hx => ?_⟩, by omega⟩
        rw [List.take_succ_eq_append_getElem h, List.mem_append, List.mem_singleton] at hx
        rcases hx with hx | rfl
        · exact ht x hx
        · exact hp
  · obtain rfl : i = l.length := by omega
    simp (maxSteps := 1000000) (disch := first | assumption | ((try simp only [LEN, LEN2]); omega)) only [push_cast, Int.reduceToNat, Int.reduceEq, Int.reduceNe, Int.reduceLT, Int.reduceLE, Int.reduceAdd, Int.reduceSub, Int.reduceMul, Int.reduceNeg, Nat.reduceEqDiff, Nat.reduceBEq, Nat.reduceBNe, Nat.reduceAdd, Nat.reduceLeDiff, Nat.reduceLT, Nat.reduceMul, ↓reduceIte, reduceCtorEq, g110, pf110, b110, hcap2, hcap3, List.all_nil]
    rw [idx_none (fun x hx => ht x (by rw [List.take_length]; exact hx))]
theorem f81 {l : List (Put)} {f : FuncId} {caps : List T} {p : (Put) → Bool} (hl : l.length ≤ 1000000000) (hpm : G.pm f = [.ro] ∨ G.pm f = [.ro, .ro] ∨ G.pm f = [.ro, .ro, .ro] ∨ G.pm f = [.ro, .ro, .ro, .ro]) (hcap : capsData caps = true) (hf : ∀ w ∈ l, Fun G f (.vs true (oP w) :: caps) (.bool (p w), [])) :
    Fun G 81 [.one (.d (.sl (l.map eP))), .fn f caps] (.bool (l.any p), []) := by
  refine Fun.of_run (g := g81) (pf := pf81) rfl rfl rfl rfl ?_
  have hcap2 := capsRo_data (caps := caps) hcap
  have hcap3 := rootsL_data (caps := caps) hcap
  simp (maxSteps := 1000000) (disch := first | assumption | ((try simp only [LEN, LEN2]); omega)) only [push_cast, Int.reduceToNat, Int.reduceEq, Int.reduceNe, Int.reduceLT, Int.reduceLE, Int.reduceAdd, Int.reduceSub, Int.reduceMul, Int.reduceNeg, Nat.reduceEqDiff, Nat.reduceBEq, Nat.reduceBNe, Nat.reduceAdd, Nat.reduceLeDiff, Nat.reduceLT, Nat.reduceMul, ↓reduceIte, reduceCtorEq, g81, pf81, b81, hcap2, hcap3, List.all_nil, callC_eq (f110 hl hpm hcap hf)]
  rw [← idx_nonneg]
set_option maxHeartbeats 2000000 in
theorem f80 {s : List UInt8}  : Fun G 80 [.str (bs s)] (.bool (decide (s.length = 32)), []) := by
  refine Fun.of_run (g := g80) (pf := pf80) rfl rfl rfl rfl ?_
  simp (maxSteps := 1000000) (disch := first | assumption | ((try simp only [LEN, LEN2]); omega)) only [push_cast, Int.reduceToNat, Int.reduceEq, Int.reduceNe, Int.reduceLT, Int.reduceLE, Int.reduceAdd, Int.reduceSub, Int.reduceMul, Int.reduceNeg, Nat.reduceEqDiff, Nat.reduceBEq, Nat.reduceBNe, Nat.reduceAdd, Nat.reduceLeDiff, Nat.reduceLT, Nat.reduceMul, ↓reduceIte, reduceCtorEq, g80, pf80, b80]
  exact boolRes (by omega)
theorem f80c {s : List UInt8}  {g : VG} {F : Fn} {lk : Bool} {e : Env} {dst : Option Nat} {ops : List Ins} {keep : Option (List Nat)} {K : List Fr} : CallC G g F 80 [.str (bs s)] lk e dst ops keep K = ThenL G g F (if lk && !(T.noSl (.bool (decide (s.length = 32)))) then none else e.put g.un dst (.bool (decide (s.length = 32)))) ops keep K := callC_eq (f80 )
attribute [push_cast] f80c
set_option maxHeartbeats 2000000 in
theorem f79 {s : List UInt8}  : Fun G 79 [.str (bs s)] (.bool (!decide (s.length = 32)), []) := by
  refine Fun.of_run (g := g79) (pf := pf79) rfl rfl rfl rfl ?_
  simp (maxSteps := 1000000) (disch := first | assumption | ((try simp only [LEN, LEN2]); omega)) only [push_cast, Int.reduceToNat, Int.reduceEq, Int.reduceNe, Int.reduceLT, Int.reduceLE, Int.reduceAdd, Int.reduceSub, Int.reduceMul, Int.reduceNeg, Nat.reduceEqDiff, Nat.reduceBEq, Nat.reduceBNe, Nat.reduceAdd, Nat.reduceLeDiff, Nat.reduceLT, Nat.reduceMul, ↓reduceIte, reduceCtorEq, g79, pf79, b79]
theorem f79c {s : List UInt8}  {g : VG} {F : Fn} {lk : Bool} {e : Env} {dst : Option Nat} {ops : List Ins} {keep : Option (List Nat)} {K : List Fr} : CallC G g F 79 [.str (bs s)] lk e dst ops keep K = ThenL G g F (if lk && !(T.noSl (.bool (!decide (s.length = 32)))) then none else e.put g.un dst (.bool (!decide (s.length = 32)))) ops keep K := callC_eq (f79 )
attribute [push_cast] f79c
set_option maxHeartbeats 2000000 in
theorem f83 {S : List (List UInt8)} {W : List Put} {i : Int} (h : S.length ≤ 1000000000) : Fun G 83 [.vs true (cT S W), .int .i64 i] (.bool (decide (0 ≤ i ∧ i < S.length)), []) := by
  refine Fun.of_run (g := g83) (pf := pf83) rfl rfl rfl rfl ?_
  by_cases h1 : 0 ≤ i
  · simp (maxSteps := 1000000) (disch := first | assumption | ((try simp only [LEN, LEN2]); omega)) only [push_cast, Int.reduceToNat, Int.reduceEq, Int.reduceNe, Int.reduceLT, Int.reduceLE, Int.reduceAdd, Int.reduceSub, Int.reduceMul, Int.reduceNeg, Nat.reduceEqDiff, Nat.reduceBEq, Nat.reduceBNe, Nat.reduceAdd, Nat.reduceLeDiff, Nat.reduceLT, Nat.reduceMul, ↓reduceIte, reduceCtorEq, g83, pf83, b83, h1]
  · simp (maxSteps := 1000000) (disch := first | assumption | ((try simp only [LEN, LEN2]); omega)) only [push_cast, Int.reduceToNat, Int.reduceEq, Int.reduceNe, Int.reduceLT, Int.reduceLE, Int.reduceAdd, Int.reduceSub, Int.reduceMul, Int.reduceNeg, Nat.reduceEqDiff, Nat.reduceBEq, Nat.reduceBNe, Nat.reduceAdd, Nat.reduceLeDiff, Nat.reduceLT, Nat.reduceMul, ↓reduceIte, reduceCtorEq, g83, pf83, b83, h1]
theorem f83c {S : List (List UInt8)} {W : List Put} {i : Int} (h : S.length ≤ 1000000000) {g : VG} {F : Fn} {lk : Bool} {e : Env} {dst : Option Nat} {ops : List Ins} {keep : Option (List Nat)} {K : List Fr} : CallC G g F 83 [.vs true (cT S W), .int .i64 i] lk e dst ops keep K = ThenL G g F (if lk && !(T.noSl (.bool (decide (0 ≤ i ∧ i < S.length)))) then none else e.put g.un dst (.bool (decide (0 ≤ i ∧ i < S.length)))) ops keep K := callC_eq (f83 h)
attribute [push_cast] f83c
set_option maxHeartbeats 2000000 in
theorem f82 {S : List (List UInt8)} {W : List Put} {p : Put} (h : S.length ≤ 1000000000) : Fun G 82 [.vs true (oP p), .adr [.sl (S.map eS), .sl (W.map eP)]] (.bool (!(decide (0 ≤ p.At ∧ p.At < S.length ∧ p.Text.length = 32))), []) := by
  refine Fun.of_run (g := g82) (pf := pf82) rfl rfl rfl rfl ?_
  by_cases h1 : 0 ≤ p.At ∧ p.At < S.length
  · simp (maxSteps := 1000000) (disch := first | assumption | ((try simp only [LEN, LEN2]); omega)) only [push_cast, Int.reduceToNat, Int.reduceEq, Int.reduceNe, Int.reduceLT, Int.reduceLE, Int.reduceAdd, Int.reduceSub, Int.reduceMul, Int.reduceNeg, Nat.reduceEqDiff, Nat.reduceBEq, Nat.reduceBNe, Nat.reduceAdd, Nat.reduceLeDiff, Nat.reduceLT, Nat.reduceMul, ↓reduceIte, reduceCtorEq, g82, pf82, b82, oP, h1]
  · simp (maxSteps := 1000000) (disch := first | assumption | ((try simp only [LEN, LEN2]); omega)) only [push_cast, Int.reduceToNat, Int.reduceEq, Int.reduceNe, Int.reduceLT, Int.reduceLE, Int.reduceAdd, Int.reduceSub, Int.reduceMul, Int.reduceNeg, Nat.reduceEqDiff, Nat.reduceBEq, Nat.reduceBNe, Nat.reduceAdd, Nat.reduceLeDiff, Nat.reduceLT, Nat.reduceMul, ↓reduceIte, reduceCtorEq, g82, pf82, b82, oP, h1]
    have : ¬ (0 ≤ p.At ∧ p.At < S.length ∧ p.Text.length = 32) := fun h => h1 ⟨h.1, h.2.1⟩
    simp [this]
theorem f82c {S : List (List UInt8)} {W : List Put} {p : Put} (h : S.length ≤ 1000000000) {g : VG} {F : Fn} {lk : Bool} {e : Env} {dst : Option Nat} {ops : List Ins} {keep : Option (List Nat)} {K : List Fr} : CallC G g F 82 [.vs true (oP p), .adr [.sl (S.map eS), .sl (W.map eP)]] lk e dst ops keep K = ThenL G g F (if lk && !(T.noSl (.bool (!(decide (0 ≤ p.At ∧ p.At < S.length ∧ p.Text.length = 32))))) then none else e.put g.un dst (.bool (!(decide (0 ≤ p.At ∧ p.At < S.length ∧ p.Text.length = 32))))) ops keep K := callC_eq (f82 h)
attribute [push_cast] f82c
set_option maxHeartbeats 2000000 in
theorem f39 {S : List (List UInt8)} {W : List Put} (hS : S.length ≤ 1000000000) (hW : W.length ≤ 1000000000) : Fun G 39 [.vs true (cT S W)] (.bool (okT S W), []) := by
  refine Fun.of_run (g := g39) (pf := pf39) rfl rfl rfl rfl ?_
  have h1 := f78 (l := S) (f := 79) (caps := []) (p := fun s => !decide (s.length = 32)) hS (.inl rfl) rfl (fun w _ => f79)
  have h2 := f81 (l := W) (f := 82) (caps := [.adr [.sl (S.map eS), .sl (W.map eP)]]) (p := fun p => !(decide (0 ≤ p.At ∧ p.At < S.length ∧ p.Text.length = 32))) hW (.inr (.inl rfl)) rfl (fun w _ => f82 hS)
  by_cases h3 : (S.length : Int) < 1
  · simp (maxSteps := 1000000) (disch := first | assumption | ((try simp only [LEN, LEN2]); omega)) only [push_cast, Int.reduceToNat, Int.reduceEq, Int.reduceNe, Int.reduceLT, Int.reduceLE, Int.reduceAdd, Int.reduceSub, Int.reduceMul, Int.reduceNeg, Nat.reduceEqDiff, Nat.reduceBEq, Nat.reduceBNe, Nat.reduceAdd, Nat.reduceLeDiff, Nat.reduceLT, Nat.reduceMul, ↓reduceIte, reduceCtorEq, g39, pf39, b39, h3]
    simp [okT]; omega
  by_cases h4 : (512 : Int) < S.length
  · simp (maxSteps := 1000000) (disch := first | assumption | ((try simp only [LEN, LEN2]); omega)) only [push_cast, Int.reduceToNat, Int.reduceEq, Int.reduceNe, Int.reduceLT, Int.reduceLE, Int.reduceAdd, Int.reduceSub, Int.reduceMul, Int.reduceNeg, Nat.reduceEqDiff, Nat.reduceBEq, Nat.reduceBNe, Nat.reduceAdd, Nat.reduceLeDiff, Nat.reduceLT, Nat.reduceMul, ↓reduceIte, reduceCtorEq, g39, pf39, b39, h3, h4]
    simp [okT]; omega
  by_cases h5 : (2048 : Int) < W.length
  · simp (maxSteps := 1000000) (disch := first | assumption | ((try simp only [LEN, LEN2]); omega)) only [push_cast, Int.reduceToNat, Int.reduceEq, Int.reduceNe, Int.reduceLT, Int.reduceLE, Int.reduceAdd, Int.reduceSub, Int.reduceMul, Int.reduceNeg, Nat.reduceEqDiff, Nat.reduceBEq, Nat.reduceBNe, Nat.reduceAdd, Nat.reduceLeDiff, Nat.reduceLT, Nat.reduceMul, ↓reduceIte, reduceCtorEq, g39, pf39, b39, h3, h4, h5]
    simp [okT]; omega
  have e1 : okT S W = (S.all (fun s => decide (s.length = 32)) && W.all (okP S.length)) := by
    simp only [okT]
    rw [show decide (1 ≤ S.length ∧ S.length ≤ 512 ∧ W.length ≤ 2048) = true by simp; omega, Bool.true_and]
  have e2 : (S.any fun s => !decide (s.length = 32)) = !(S.all fun s => decide (s.length = 32)) := by rw [List.not_all_eq_any_not]
  have e3 : (W.any fun p => !decide (0 ≤ p.At ∧ p.At < S.length ∧ p.Text.length = 32)) = !(W.all (okP S.length)) := by rw [List.not_all_eq_any_not]; rfl
  rw [e2] at h1
  rw [e3] at h2
  rw [e1]
  cases h6 : S.all (fun s => decide (s.length = 32))
  · simp only [h6, Bool.not_false] at h1
    simp (maxSteps := 1000000) (disch := first | assumption | ((try simp only [LEN, LEN2]); omega)) only [push_cast, Int.reduceToNat, Int.reduceEq, Int.reduceNe, Int.reduceLT, Int.reduceLE, Int.reduceAdd, Int.reduceSub, Int.reduceMul, Int.reduceNeg, Nat.reduceEqDiff, Nat.reduceBEq, Nat.reduceBNe, Nat.reduceAdd, Nat.reduceLeDiff, Nat.reduceLT, Nat.reduceMul, ↓reduceIte, reduceCtorEq, g39, pf39, b39, h3, h4, h5, callC_eq h1]
  · simp only [h6, Bool.not_true] at h1
    simp (maxSteps := 1000000) (disch := first | assumption | ((try simp only [LEN, LEN2]); omega)) only [push_cast, Int.reduceToNat, Int.reduceEq, Int.reduceNe, Int.reduceLT, Int.reduceLE, Int.reduceAdd, Int.reduceSub, Int.reduceMul, Int.reduceNeg, Nat.reduceEqDiff, Nat.reduceBEq, Nat.reduceBNe, Nat.reduceAdd, Nat.reduceLeDiff, Nat.reduceLT, Nat.reduceMul, ↓reduceIte, reduceCtorEq, g39, pf39, b39, h3, h4, h5, callC_eq h1, callC_eq h2]
    rw [Bool.not_not]
theorem f39c {S : List (List UInt8)} {W : List Put} (hS : S.length ≤ 1000000000) (hW : W.length ≤ 1000000000) {g : VG} {F : Fn} {lk : Bool} {e : Env} {dst : Option Nat} {ops : List Ins} {keep : Option (List Nat)} {K : List Fr} : CallC G g F 39 [.vs true (cT S W)] lk e dst ops keep K = ThenL G g F (if lk && !(T.noSl (.bool (okT S W))) then none else e.put g.un dst (.bool (okT S W))) ops keep K := callC_eq (f39 hS hW)
attribute [push_cast] f39c
theorem zeroB (n : Nat) : List.replicate n [V.d (D.sc (Value.int IntKind.u8 0))] = (List.replicate n (0 : UInt8)).map oB := by simp [oB]
set_option maxHeartbeats 2000000 in
theorem f30 {n : Nat} (h : n ≤ 1000000) : Fun G 30 [.int .i64 n] (.str (bs (List.replicate n 0)), []) := by
  refine Fun.of_run (g := g30) (pf := pf30) rfl rfl rfl rfl ?_
  simp (maxSteps := 1000000) (disch := first | assumption | ((try simp only [LEN, LEN2]); omega)) only [push_cast, Int.reduceToNat, Int.reduceEq, Int.reduceNe, Int.reduceLT, Int.reduceLE, Int.reduceAdd, Int.reduceSub, Int.reduceMul, Int.reduceNeg, Nat.reduceEqDiff, Nat.reduceBEq, Nat.reduceBNe, Nat.reduceAdd, Nat.reduceLeDiff, Nat.reduceLT, Nat.reduceMul, ↓reduceIte, reduceCtorEq, g30, pf30, b30, zeroB]
theorem f30c {n : Nat} (h : n ≤ 1000000) {g : VG} {F : Fn} {lk : Bool} {e : Env} {dst : Option Nat} {ops : List Ins} {keep : Option (List Nat)} {K : List Fr} : CallC G g F 30 [.int .i64 n] lk e dst ops keep K = ThenL G g F (if lk && !(T.noSl (.str (bs (List.replicate n 0)))) then none else e.put g.un dst (.str (bs (List.replicate n 0)))) ops keep K := callC_eq (f30 h)
attribute [push_cast] f30c
set_option maxHeartbeats 2000000 in
theorem f7 {n : Nat} (h : n ≤ 1000000) : Fun G 7 [.int .i64 n] (.vs true (oT (List.replicate n zeros) []), []) := by
  refine Fun.of_run (g := g7) (pf := pf7) rfl rfl rfl rfl ?_
  simp (maxSteps := 1000000) (disch := first | assumption | ((try simp only [LEN, LEN2]); omega)) only [push_cast, Int.reduceToNat, Int.reduceEq, Int.reduceNe, Int.reduceLT, Int.reduceLE, Int.reduceAdd, Int.reduceSub, Int.reduceMul, Int.reduceNeg, Nat.reduceEqDiff, Nat.reduceBEq, Nat.reduceBNe, Nat.reduceAdd, Nat.reduceLeDiff, Nat.reduceLT, Nat.reduceMul, ↓reduceIte, reduceCtorEq, g7, pf7, b7]
  refine run_loop' (fun i : Nat => [(0, T.int .i64 n), (2, T.one (.box [.own 9 [], .own 72 []])), (3, T.one (.box (oT (List.replicate i zeros) []))), (4, T.int .i64 i)]) (fun i => i ≤ n) (fun i => n - i) 0 rfl (Nat.zero_le _) (fun i hi => ?_)
  simp (maxSteps := 1000000) (disch := first | assumption | ((try simp only [LEN, LEN2]); omega)) only [push_cast, Int.reduceToNat, Int.reduceEq, Int.reduceNe, Int.reduceLT, Int.reduceLE, Int.reduceAdd, Int.reduceSub, Int.reduceMul, Int.reduceNeg, Nat.reduceEqDiff, Nat.reduceBEq, Nat.reduceBNe, Nat.reduceAdd, Nat.reduceLeDiff, Nat.reduceLT, Nat.reduceMul, ↓reduceIte, reduceCtorEq, g7, pf7, b7]
  refine If.dec (fun h => ?_) (fun h => ?_)
  · replace h : i < n := by omega
    have hz : Fun G 30 [.int .i64 32] (.str (bs zeros), []) := f30 (n := 32) (by omega)
    simp (maxSteps := 1000000) (disch := first | assumption | ((try simp only [LEN, LEN2]); omega)) only [push_cast, Int.reduceToNat, Int.reduceEq, Int.reduceNe, Int.reduceLT, Int.reduceLE, Int.reduceAdd, Int.reduceSub, Int.reduceMul, Int.reduceNeg, Nat.reduceEqDiff, Nat.reduceBEq, Nat.reduceBNe, Nat.reduceAdd, Nat.reduceLeDiff, Nat.reduceLT, Nat.reduceMul, ↓reduceIte, reduceCtorEq, g7, pf7, b7, callC_eq hz]
    refine ⟨i + 1, ?_, by omega, by omega⟩
    simp only [List.replicate_succ', List.map_append, List.map_cons, List.map_nil, oS, oT, Int.natCast_add, Int.cast_ofNat_Int]
  · obtain rfl : i = n := by omega
    simp (maxSteps := 1000000) (disch := first | assumption | ((try simp only [LEN, LEN2]); omega)) only [push_cast, Int.reduceToNat, Int.reduceEq, Int.reduceNe, Int.reduceLT, Int.reduceLE, Int.reduceAdd, Int.reduceSub, Int.reduceMul, Int.reduceNeg, Nat.reduceEqDiff, Nat.reduceBEq, Nat.reduceBNe, Nat.reduceAdd, Nat.reduceLeDiff, Nat.reduceLT, Nat.reduceMul, ↓reduceIte, reduceCtorEq, g7, pf7, b7]
    try simp
theorem f7c {n : Nat} (h : n ≤ 1000000) {g : VG} {F : Fn} {lk : Bool} {e : Env} {dst : Option Nat} {ops : List Ins} {keep : Option (List Nat)} {K : List Fr} : CallC G g F 7 [.int .i64 n] lk e dst ops keep K = ThenL G g F (if lk && !(T.noSl (.vs true (oT (List.replicate n zeros) []))) then none else e.put g.un dst (.vs true (oT (List.replicate n zeros) []))) ops keep K := callC_eq (f7 h)
attribute [push_cast] f7c
set_option maxHeartbeats 2000000 in
theorem f36 {S : List (List UInt8)} {W : List Put} {L : List Int} (hS : S.length ≤ 1000000000) (hW : W.length ≤ 1000000000) (hL : L.length ≤ 1000000000) (hok : ∀ p ∈ W, 0 ≤ p.At ∧ p.At < S.length) : Fun G 36 [.vs true (cT S W), .one (.d (.sl (L.map eN)))] (.vs true (oT (crashS L S W) []), []) := by
  refine Fun.of_run (g := g36) (pf := pf36) rfl rfl rfl rfl ?_
  simp (maxSteps := 1000000) (disch := first | assumption | ((try simp only [LEN, LEN2]); omega)) only [push_cast, Int.reduceToNat, Int.reduceEq, Int.reduceNe, Int.reduceLT, Int.reduceLE, Int.reduceAdd, Int.reduceSub, Int.reduceMul, Int.reduceNeg, Nat.reduceEqDiff, Nat.reduceBEq, Nat.reduceBNe, Nat.reduceAdd, Nat.reduceLeDiff, Nat.reduceLT, Nat.reduceMul, ↓reduceIte, reduceCtorEq, g36, pf36, b36]
  refine run_loop' (fun i : Nat => [(1, T.one (.d (.sl (L.map eN)))), (2, T.one (.box (oT (crashS L S (W.take i)) W))), (4, T.one (.box [.own 9 [], .own 72 []])), (5, T.int .i64 i)]) (fun i => i ≤ W.length) (fun i => W.length - i) 0 rfl (Nat.zero_le _) (fun i hi => ?_)
  simp (maxSteps := 1000000) (disch := first | assumption | ((try simp only [LEN, LEN2]); omega)) only [push_cast, Int.reduceToNat, Int.reduceEq, Int.reduceNe, Int.reduceLT, Int.reduceLE, Int.reduceAdd, Int.reduceSub, Int.reduceMul, Int.reduceNeg, Nat.reduceEqDiff, Nat.reduceBEq, Nat.reduceBNe, Nat.reduceAdd, Nat.reduceLeDiff, Nat.reduceLT, Nat.reduceMul, ↓reduceIte, reduceCtorEq, g36, pf36, b36]
  refine If.dec (fun h => ?_) (fun h => ?_)
  · replace h : i < W.length := by omega
    have hp := hok W[i] (List.getElem_mem h)
    have hcl := crashS_length L S (W.take i)
    by_cases hL0 : 0 < (L.length : Int)
    · have hm : i % L.length < L.length := Nat.mod_lt _ (by omega)
      have hmod : ((i : Int) % (L.length : Int)).toNat = i % L.length := by omega
      simp (maxSteps := 1000000) (disch := first | assumption | ((try simp only [LEN, LEN2]); omega)) only [push_cast, Int.reduceToNat, Int.reduceEq, Int.reduceNe, Int.reduceLT, Int.reduceLE, Int.reduceAdd, Int.reduceSub, Int.reduceMul, Int.reduceNeg, Nat.reduceEqDiff, Nat.reduceBEq, Nat.reduceBNe, Nat.reduceAdd, Nat.reduceLeDiff, Nat.reduceLT, Nat.reduceMul, ↓reduceIte, reduceCtorEq, g36, pf36, b36, hL0, hmod, eN]
      have hk : keepB L i = decide (IntKind.i64.wrap ((BitVec.ofInt IntKind.i64.bits L[i % L.length] &&& BitVec.ofInt IntKind.i64.bits 1).toNat : Int) = 1) := by simp only [keepB, List.getElem?_eq_getElem hm, Option.any_some]; rfl
      have hlen : (W.take i).length = i := by rw [List.length_take]; omega
      refine If.dec (fun hb => ?_) (fun hb => ?_)
      · obtain ⟨n, hn⟩ := Int.eq_ofNat_of_zero_le hp.1
        have hn2 : n < (crashS L S (W.take i)).length := by omega
        simp (maxSteps := 1000000) (disch := first | assumption | ((try simp only [LEN, LEN2]); omega)) only [push_cast, Int.reduceToNat, Int.reduceEq, Int.reduceNe, Int.reduceLT, Int.reduceLE, Int.reduceAdd, Int.reduceSub, Int.reduceMul, Int.reduceNeg, Nat.reduceEqDiff, Nat.reduceBEq, Nat.reduceBNe, Nat.reduceAdd, Nat.reduceLeDiff, Nat.reduceLT, Nat.reduceMul, ↓reduceIte, reduceCtorEq, g36, pf36, b36, eP, oP, oS, hn]
        refine ⟨i + 1, ?_, by omega, by omega⟩
        rw [List.take_succ_eq_append_getElem h, crashS_snoc, hlen, hk, decide_eq_true hb, if_pos rfl]
        simp only [put1, oT, List.map_set, hn, Int.toNat_natCast, oS, Int.natCast_add, Int.cast_ofNat_Int]
      · simp (maxSteps := 1000000) (disch := first | assumption | ((try simp only [LEN, LEN2]); omega)) only [push_cast, Int.reduceToNat, Int.reduceEq, Int.reduceNe, Int.reduceLT, Int.reduceLE, Int.reduceAdd, Int.reduceSub, Int.reduceMul, Int.reduceNeg, Nat.reduceEqDiff, Nat.reduceBEq, Nat.reduceBNe, Nat.reduceAdd, Nat.reduceLeDiff, Nat.reduceLT, Nat.reduceMul, ↓reduceIte, reduceCtorEq, g36, pf36, b36]
        refine ⟨i + 1, ?_, by omega, by omega⟩
        rw [List.take_succ_eq_append_getElem h, crashS_snoc, hlen, hk, decide_eq_false hb, if_neg (by simp)]
        simp
    · have hL1 : L = [] := List.length_eq_zero_iff.1 (by omega)
      simp (maxSteps := 1000000) (disch := first | assumption | ((try simp only [LEN, LEN2]); omega)) only [push_cast, Int.reduceToNat, Int.reduceEq, Int.reduceNe, Int.reduceLT, Int.reduceLE, Int.reduceAdd, Int.reduceSub, Int.reduceMul, Int.reduceNeg, Nat.reduceEqDiff, Nat.reduceBEq, Nat.reduceBNe, Nat.reduceAdd, Nat.reduceLeDiff, Nat.reduceLT, Nat.reduceMul, ↓reduceIte, reduceCtorEq, g36, pf36, b36, hL0]
      refine ⟨i + 1, ?_, by omega, by omega⟩
      rw [List.take_succ_eq_append_getElem h, crashS_snoc, if_neg (by simp [hL1, keepB])]
      simp
  · obtain rfl : i = W.length := by omega
    simp (maxSteps := 1000000) (disch := first | assumption | ((try simp only [LEN, LEN2]); omega)) only [push_cast, Int.reduceToNat, Int.reduceEq, Int.reduceNe, Int.reduceLT, Int.reduceLE, Int.reduceAdd, Int.reduceSub, Int.reduceMul, Int.reduceNeg, Nat.reduceEqDiff, Nat.reduceBEq, Nat.reduceBNe, Nat.reduceAdd, Nat.reduceLeDiff, Nat.reduceLT, Nat.reduceMul, ↓reduceIte, reduceCtorEq, g36, pf36, b36]
    simp
theorem f36c {S : List (List UInt8)} {W : List Put} {L : List Int} (hS : S.length ≤ 1000000000) (hW : W.length ≤ 1000000000) (hL : L.length ≤ 1000000000) (hok : ∀ p ∈ W, 0 ≤ p.At ∧ p.At < S.length) {g : VG} {F : Fn} {lk : Bool} {e : Env} {dst : Option Nat} {ops : List Ins} {keep : Option (List Nat)} {K : List Fr} : CallC G g F 36 [.vs true (cT S W), .one (.d (.sl (L.map eN)))] lk e dst ops keep K = ThenL G g F (if lk && !(T.noSl (.vs true (oT (crashS L S W) []))) then none else e.put g.un dst (.vs true (oT (crashS L S W) []))) ops keep K := callC_eq (f36 hS hW hL hok)
attribute [push_cast] f36c
abbrev tErr (e : Int) (t : Q.Tape) : T := .tup [(true, oT t.Sectors t.Waits), (false, [.d (.sc (.int .i64 e))])]
set_option maxHeartbeats 2000000 in
theorem f34 {S : List (List UInt8)} {W : List Put} {n : Int} {l : List Do} (hok : okT S W = true) (hl : smDo l) : Fun G 34 [.vs true (cT S W), .int .i64 n, .one (.d (.sl (l.map eDo)))] (tErr (playT ⟨S, W⟩ (upto n l)).1 (playT ⟨S, W⟩ (upto n l)).2, []) := by
  refine Fun.of_run (g := g34) (pf := pf34) rfl rfl rfl rfl ?_
  have hok0 := okT_iff.1 hok
  obtain ⟨hl, hl2⟩ := hl
  simp (maxSteps := 1000000) (disch := first | assumption | ((try simp only [LEN, LEN2]); omega)) only [push_cast, Int.reduceToNat, Int.reduceEq, Int.reduceNe, Int.reduceLT, Int.reduceLE, Int.reduceAdd, Int.reduceSub, Int.reduceMul, Int.reduceNeg, Nat.reduceEqDiff, Nat.reduceBEq, Nat.reduceBNe, Nat.reduceAdd, Nat.reduceLeDiff, Nat.reduceLT, Nat.reduceMul, ↓reduceIte, reduceCtorEq, g34, pf34, b34]
  refine run_loop' (fun i : Nat => [(1, T.int .i64 n), (2, T.one (.d (.sl (l.map eDo)))), (3, T.one (.box (oT (playT ⟨S, W⟩ (l.take i)).2.Sectors (playT ⟨S, W⟩ (l.take i)).2.Waits))), (6, T.one (.box [.own 9 [], .own 72 []])), (8, T.int .i64 i)]) (fun i => i ≤ (upto n l).length ∧ (playT ⟨S, W⟩ (l.take i)).1 = 0) (fun i => l.length - i) 0 rfl ⟨Nat.zero_le _, rfl⟩ (fun i hi => ?_)
  obtain ⟨hi, h0⟩ := hi
  have hoki := okT_play hok h0
  obtain ⟨S', W', hT⟩ : ∃ S' W', (playT ⟨S, W⟩ (l.take i)).2 = ⟨S', W'⟩ := ⟨_, _, rfl⟩
  simp only [hT] at hoki
  have hok1 := okT_iff.1 hoki
  have hle := upto_le n l
  by_cases hin : i < (upto n l).length
  · obtain ⟨hin1, hin2⟩ := (upto_len n l i).1 hin
    have hd := hl2 l[i] (List.getElem_mem hin1)
    obtain ⟨d, hd0⟩ : ∃ d, d = l[i] := ⟨_, rfl⟩
    have hsn := playT_snoc (d := l[i]) h0
    rw [← List.take_succ_eq_append_getElem hin1, hT, ← hd0] at hsn
    have hui : (upto n l).take (i + 1) = l.take (i + 1) := upto_take n l hin
    have hend : (playT ⟨S, W⟩ (l.take (i + 1))).1 ≠ 0 → playT ⟨S, W⟩ (upto n l) = playT ⟨S, W⟩ (l.take (i + 1)) := fun hne => by
      conv => lhs; rw [← List.take_append_drop (i + 1) (upto n l), hui]
      exact playT_err hne
    have hc1 : (i : Int) < l.length := by omega
    rw [← hd0] at hd
    have hq0 : ((n < 0) = True ∧ ((1 : Nat) = 1) = True) ∨ ((n < 0) = False ∧ ((i : Int) < n) = True) := by
      by_cases hn : n < 0
      · exact .inl ⟨by simp [hn], by simp⟩
      · exact .inr ⟨by simp [hn], by simp; omega⟩
    have hsy : Fun G 36 [.vs true (cT S' W'), .one (.d (.sl [[.sc (.int .i64 1)]]))] (.vs true (oT (flush S' W') []), []) := by
      have := f36 (S := S') (W := W') (L := [1]) (by omega) (by omega) (by simp) (fun p hp => ⟨(hok1.2.2 p hp).1, (hok1.2.2 p hp).2.1⟩)
      rwa [crashS_one] at this
    have hgo : (playT ⟨S, W⟩ (l.take (i + 1))).1 = 0 → ∀ S2 W2, (playT ⟨S, W⟩ (l.take (i + 1))).2 = ⟨S2, W2⟩ → ∃ a : Nat, ([(1, T.int .i64 n), (2, T.one (.d (.sl (l.map eDo)))), (3, T.one (.box (oT S2 W2))), (6, T.one (.box [.own 9 [], .own 72 []])), (8, T.int .i64 ((i : Int) + 1))] : Env) =
        [(1, T.int .i64 n), (2, T.one (.d (.sl (l.map eDo)))), (3, T.one (.box (oT (playT ⟨S, W⟩ (l.take a)).2.Sectors (playT ⟨S, W⟩ (l.take a)).2.Waits))), (6, T.one (.box [.own 9 [], .own 72 []])), (8, T.int .i64 a)] ∧ (a ≤ (upto n l).length ∧ (playT ⟨S, W⟩ (l.take a)).1 = 0) ∧ l.length - a < l.length - i := fun h S2 W2 h2 =>
      ⟨i + 1, by rw [h2]; simp, ⟨by omega, h⟩, by omega⟩
    rcases hq0 with ⟨hq, hr⟩ | ⟨hq, hr⟩
    all_goals
      cases hsync : d.Sync with
      | true =>
        rw [step_sync hsync] at hsn
        simp only [if_true] at hsn
        simp (maxSteps := 1000000) (disch := first | assumption | ((try simp only [LEN, LEN2]); omega)) only [push_cast, Int.reduceToNat, Int.reduceEq, Int.reduceNe, Int.reduceLT, Int.reduceLE, Int.reduceAdd, Int.reduceSub, Int.reduceMul, Int.reduceNeg, Nat.reduceEqDiff, Nat.reduceBEq, Nat.reduceBNe, Nat.reduceAdd, Nat.reduceLeDiff, Nat.reduceLT, Nat.reduceMul, ↓reduceIte, reduceCtorEq, g34, pf34, b34, hT, hc1, hq, hr, eDo, ← hd0, hsync, callC_eq hsy]
        have := hgo (by rw [hsn]) (flush S' W') [] (by rw [hsn])
        simpa only [oT, List.map_nil] using this
      | false =>
        by_cases hat : 0 ≤ d.Put.At ∧ d.Put.At ≤ (S'.length : Int) - 1
        · have hat' : 0 ≤ d.Put.At ∧ d.Put.At < S'.length := by omega
          by_cases hlen : (d.Put.Text.length : Int) = 32
          · by_cases hlim : 2048 ≤ (W'.length : Int)
            · rw [step_limit hsync hat' (by omega) (by simp only; omega)] at hsn
              have := hend (by rw [hsn]; simp)
              simp (maxSteps := 1000000) (disch := first | assumption | ((try simp only [LEN, LEN2]); omega)) only [push_cast, Int.reduceToNat, Int.reduceEq, Int.reduceNe, Int.reduceLT, Int.reduceLE, Int.reduceAdd, Int.reduceSub, Int.reduceMul, Int.reduceNeg, Nat.reduceEqDiff, Nat.reduceBEq, Nat.reduceBNe, Nat.reduceAdd, Nat.reduceLeDiff, Nat.reduceLT, Nat.reduceMul, ↓reduceIte, reduceCtorEq, g34, pf34, b34, hT, hc1, hq, hr, eDo, ← hd0, hsync, hat, hlen, hlim]
              rw [this, hsn]; simp
            · rw [step_ok hsync hat' (by omega) (by simp only; omega)] at hsn
              simp only [if_true] at hsn
              simp (maxSteps := 1000000) (disch := first | assumption | ((try simp only [LEN, LEN2]); omega)) only [push_cast, Int.reduceToNat, Int.reduceEq, Int.reduceNe, Int.reduceLT, Int.reduceLE, Int.reduceAdd, Int.reduceSub, Int.reduceMul, Int.reduceNeg, Nat.reduceEqDiff, Nat.reduceBEq, Nat.reduceBNe, Nat.reduceAdd, Nat.reduceLeDiff, Nat.reduceLT, Nat.reduceMul, ↓reduceIte, reduceCtorEq, g34, pf34, b34, hT, hc1, hq, hr, eDo, oP, ← hd0, hsync, hat, hlen, hlim]
              have := hgo (by rw [hsn]) S' (W' ++ [d.Put]) (by rw [hsn])
              simpa only [oT, List.map_append, List.map_cons, List.map_nil, oP] using this
          · rw [step_form hsync hat' (by omega)] at hsn
            have := hend (by rw [hsn]; simp)
            simp (maxSteps := 1000000) (disch := first | assumption | ((try simp only [LEN, LEN2]); omega)) only [push_cast, Int.reduceToNat, Int.reduceEq, Int.reduceNe, Int.reduceLT, Int.reduceLE, Int.reduceAdd, Int.reduceSub, Int.reduceMul, Int.reduceNeg, Nat.reduceEqDiff, Nat.reduceBEq, Nat.reduceBNe, Nat.reduceAdd, Nat.reduceLeDiff, Nat.reduceLT, Nat.reduceMul, ↓reduceIte, reduceCtorEq, g34, pf34, b34, hT, hc1, hq, hr, eDo, ← hd0, hsync, hat, hlen]
            rw [this, hsn]; simp
        · rw [step_none hsync (by simp only; omega)] at hsn
          have := hend (by rw [hsn]; simp)
          simp (maxSteps := 1000000) (disch := first | assumption | ((try simp only [LEN, LEN2]); omega)) only [push_cast, Int.reduceToNat, Int.reduceEq, Int.reduceNe, Int.reduceLT, Int.reduceLE, Int.reduceAdd, Int.reduceSub, Int.reduceMul, Int.reduceNeg, Nat.reduceEqDiff, Nat.reduceBEq, Nat.reduceBNe, Nat.reduceAdd, Nat.reduceLeDiff, Nat.reduceLT, Nat.reduceMul, ↓reduceIte, reduceCtorEq, g34, pf34, b34, hT, hc1, hq, hr, eDo, ← hd0, hsync, hat]
          rw [this, hsn]; simp
  · have hii : i = (upto n l).length := by omega
    have hfin : playT ⟨S, W⟩ (upto n l) = (0, ⟨S', W'⟩) := by
      have h1 := upto_take n l (Nat.le_of_eq hii)
      rw [hii, List.take_length, ← hii] at h1
      rw [h1]
      exact Prod.ext h0 hT
    have hnot := mt (upto_len n l i).2 hin
    by_cases hc1 : (i : Int) < l.length
    · have hq : (n < 0) = False := by simp; omega
      have hr : ((i : Int) < n) = False := by simp; omega
      simp (maxSteps := 1000000) (disch := first | assumption | ((try simp only [LEN, LEN2]); omega)) only [push_cast, Int.reduceToNat, Int.reduceEq, Int.reduceNe, Int.reduceLT, Int.reduceLE, Int.reduceAdd, Int.reduceSub, Int.reduceMul, Int.reduceNeg, Nat.reduceEqDiff, Nat.reduceBEq, Nat.reduceBNe, Nat.reduceAdd, Nat.reduceLeDiff, Nat.reduceLT, Nat.reduceMul, ↓reduceIte, reduceCtorEq, g34, pf34, b34, hT, hc1, hq, hr]
      rw [hfin]
    · simp (maxSteps := 1000000) (disch := first | assumption | ((try simp only [LEN, LEN2]); omega)) only [push_cast, Int.reduceToNat, Int.reduceEq, Int.reduceNe, Int.reduceLT, Int.reduceLE, Int.reduceAdd, Int.reduceSub, Int.reduceMul, Int.reduceNeg, Nat.reduceEqDiff, Nat.reduceBEq, Nat.reduceBNe, Nat.reduceAdd, Nat.reduceLeDiff, Nat.reduceLT, Nat.reduceMul, ↓reduceIte, reduceCtorEq, g34, pf34, b34, hT, hc1]
      rw [hfin]
theorem f34c {S : List (List UInt8)} {W : List Put} {n : Int} {l : List Do} (hok : okT S W = true) (hl : smDo l) {g : VG} {F : Fn} {lk : Bool} {e : Env} {dst : Option Nat} {ops : List Ins} {keep : Option (List Nat)} {K : List Fr} : CallC G g F 34 [.vs true (cT S W), .int .i64 n, .one (.d (.sl (l.map eDo)))] lk e dst ops keep K = ThenL G g F (if lk && !(T.noSl (tErr (playT ⟨S, W⟩ (upto n l)).1 (playT ⟨S, W⟩ (upto n l)).2)) then none else e.put g.un dst (tErr (playT ⟨S, W⟩ (upto n l)).1 (playT ⟨S, W⟩ (upto n l)).2)) ops keep K := callC_eq (f34 hok hl)
attribute [push_cast] f34c
end Go.Mir.Tryz

set_option linter.unusedVariables false
set_option linter.unusedSimpArgs false
set_option maxRecDepth 100000
namespace Go.Mir.Tryz
open Go.Proofs Go.Mir.Q
theorem Fun.given {f : FuncId} {pm : List PM} {h : List T → Option Res} {args : List T} {r : Res} (hg : G.given f = some (pm, h)) (hr : h args = some r) : Fun G f args r := ⟨1, by simp [callK, hg, hr]⟩
theorem f88 {S : List (List UInt8)} (h : S.length ≤ 1000000) : Fun G 88 [.one (.d (.sl (S.map eS)))] (.one (.own 9 (S.map oS)), []) := by
  refine Fun.given rfl ?_
  simp only [cloneGiven]
  rw [if_pos ⟨by rw [show Tryz.prog.cellsOf 9 = 1 by decide +kernel]; simp [eS], by rw [show Tryz.prog.bytesOf 9 = 16 by decide +kernel]; simp; omega, by simp; omega⟩, dV_eS]
theorem f89 {S : List Put} (h : S.length ≤ 1000000) : Fun G 89 [.one (.d (.sl (S.map eP)))] (.one (.own 72 (S.map oP)), []) := by
  refine Fun.given rfl ?_
  simp only [cloneGiven]
  rw [if_pos ⟨by rw [show Tryz.prog.cellsOf 72 = 2 by decide +kernel]; simp [eP], by rw [show Tryz.prog.bytesOf 72 = 24 by decide +kernel]; simp; omega, by simp; omega⟩, dV_eP]
set_option maxHeartbeats 2000000 in
theorem f59 {S : List (List UInt8)} {W : List Put} (h1 : S.length ≤ 1000000) (h2 : W.length ≤ 1000000) : Fun G 59 [.vs true (cT S W)] (.vs true (oT S W), []) := by
  refine Fun.of_run (g := g59) (pf := pf59) rfl rfl rfl rfl ?_
  simp (maxSteps := 1000000) (disch := first | assumption | ((try simp only [LEN, LEN2]); omega)) only [push_cast, Int.reduceToNat, Int.reduceEq, Int.reduceNe, Int.reduceLT, Int.reduceLE, Int.reduceAdd, Int.reduceSub, Int.reduceMul, Int.reduceNeg, Nat.reduceEqDiff, Nat.reduceBEq, Nat.reduceBNe, Nat.reduceAdd, Nat.reduceLeDiff, Nat.reduceLT, Nat.reduceMul, ↓reduceIte, reduceCtorEq, g59, pf59, b59, callC_eq (f88 h1), callC_eq (f89 h2)]
theorem f59c {S : List (List UInt8)} {W : List Put} (h1 : S.length ≤ 1000000) (h2 : W.length ≤ 1000000) {g : VG} {F : Fn} {lk : Bool} {e : Env} {dst : Option Nat} {ops : List Ins} {keep : Option (List Nat)} {K : List Fr} : CallC G g F 59 [.vs true (cT S W)] lk e dst ops keep K = ThenL G g F (if lk && !(T.noSl (.vs true (oT S W))) then none else e.put g.un dst (.vs true (oT S W))) ops keep K := callC_eq (f59 h1 h2)
attribute [push_cast] f59c
abbrev cDo (d : Do) : List V := [.d (.sc (.bool d.Sync)), .d (.sc (.int .i64 d.Put.At)), .d (.sc (.string (bs d.Put.Text)))]
set_option maxHeartbeats 2000000 in
theorem f60 {S : List (List UInt8)} {W : List Put} {d : Do} (hok : okT S W = true) (hd : d.Put.Text.length ≤ 1000000000) : Fun G 60 [.one (.box (oT S W)), .vs true (cDo d)] (.int .i64 (Q.stepT ⟨S, W⟩ d).1, [.box (oT (Q.stepT ⟨S, W⟩ d).2.Sectors (Q.stepT ⟨S, W⟩ d).2.Waits)]) := by
  refine Fun.of_run (g := g60) (pf := pf60) rfl rfl rfl rfl ?_
  have hok1 := okT_iff.1 hok
  cases hsync : d.Sync with
  | true =>
    rw [step_sync hsync]
    simp (maxSteps := 1000000) (disch := first | assumption | ((try simp only [LEN, LEN2]); omega)) only [push_cast, Int.reduceToNat, Int.reduceEq, Int.reduceNe, Int.reduceLT, Int.reduceLE, Int.reduceAdd, Int.reduceSub, Int.reduceMul, Int.reduceNeg, Nat.reduceEqDiff, Nat.reduceBEq, Nat.reduceBNe, Nat.reduceAdd, Nat.reduceLeDiff, Nat.reduceLT, Nat.reduceMul, ↓reduceIte, reduceCtorEq, g60, pf60, b60, hsync]
    refine run_loop' (fun i : Nat => [(0, T.one (.box (oT (flush S (W.take i)) W))), (24, T.ref 0 0 [(0, 1)]), (25, T.int .i64 W.length), (26, T.int .i64 i)]) (fun i => i ≤ W.length) (fun i => W.length - i) 0 rfl (Nat.zero_le _) (fun i hi => ?_)
    simp (maxSteps := 1000000) (disch := first | assumption | ((try simp only [LEN, LEN2]); omega)) only [push_cast, Int.reduceToNat, Int.reduceEq, Int.reduceNe, Int.reduceLT, Int.reduceLE, Int.reduceAdd, Int.reduceSub, Int.reduceMul, Int.reduceNeg, Nat.reduceEqDiff, Nat.reduceBEq, Nat.reduceBNe, Nat.reduceAdd, Nat.reduceLeDiff, Nat.reduceLT, Nat.reduceMul, ↓reduceIte, reduceCtorEq, g60, pf60, b60]
    refine If.dec (fun h => ?_) (fun h => ?_)
    · replace h : i < W.length := by omega
      have hp := hok1.2.2 W[i] (List.getElem_mem h)
      have hcl := flush_length (W.take i) S
      obtain ⟨n, hn⟩ := Int.eq_ofNat_of_zero_le hp.1
      have hn2 : n < (flush S (W.take i)).length := by omega
      simp (maxSteps := 1000000) (disch := first | assumption | ((try simp only [LEN, LEN2]); omega)) only [push_cast, Int.reduceToNat, Int.reduceEq, Int.reduceNe, Int.reduceLT, Int.reduceLE, Int.reduceAdd, Int.reduceSub, Int.reduceMul, Int.reduceNeg, Nat.reduceEqDiff, Nat.reduceBEq, Nat.reduceBNe, Nat.reduceAdd, Nat.reduceLeDiff, Nat.reduceLT, Nat.reduceMul, ↓reduceIte, reduceCtorEq, g60, pf60, b60, oP, oS, hn]
      refine ⟨i + 1, ?_, by omega, by omega⟩
      rw [List.take_succ_eq_append_getElem h, flush_snoc]
      simp only [put1, oT, List.map_set, hn, Int.toNat_natCast, oS, Int.natCast_add, Int.cast_ofNat_Int]
    · obtain rfl : i = W.length := by omega
      simp (maxSteps := 1000000) (disch := first | assumption | ((try simp only [LEN, LEN2]); omega)) only [push_cast, Int.reduceToNat, Int.reduceEq, Int.reduceNe, Int.reduceLT, Int.reduceLE, Int.reduceAdd, Int.reduceSub, Int.reduceMul, Int.reduceNeg, Nat.reduceEqDiff, Nat.reduceBEq, Nat.reduceBNe, Nat.reduceAdd, Nat.reduceLeDiff, Nat.reduceLT, Nat.reduceMul, ↓reduceIte, reduceCtorEq, g60, pf60, b60]
      simp
  | false =>
    by_cases hat : 0 ≤ d.Put.At ∧ d.Put.At < S.length
    · by_cases hlen : d.Put.Text.length = 32
      · by_cases hlim : 2048 ≤ W.length
        · have hlim' : (2048 : Int) ≤ W.length := by omega
          rw [step_limit (T := ⟨S, W⟩) hsync hat hlen hlim]
          simp (maxSteps := 1000000) (disch := first | assumption | ((try simp only [LEN, LEN2]); omega)) only [push_cast, Int.reduceToNat, Int.reduceEq, Int.reduceNe, Int.reduceLT, Int.reduceLE, Int.reduceAdd, Int.reduceSub, Int.reduceMul, Int.reduceNeg, Nat.reduceEqDiff, Nat.reduceBEq, Nat.reduceBNe, Nat.reduceAdd, Nat.reduceLeDiff, Nat.reduceLT, Nat.reduceMul, ↓reduceIte, reduceCtorEq, g60, pf60, b60, hsync, hat, hlen, hlim']
        · have hlim' : ¬ (2048 : Int) ≤ W.length := by omega
          rw [step_ok (T := ⟨S, W⟩) hsync hat hlen hlim]
          simp (maxSteps := 1000000) (disch := first | assumption | ((try simp only [LEN, LEN2]); omega)) only [push_cast, Int.reduceToNat, Int.reduceEq, Int.reduceNe, Int.reduceLT, Int.reduceLE, Int.reduceAdd, Int.reduceSub, Int.reduceMul, Int.reduceNeg, Nat.reduceEqDiff, Nat.reduceBEq, Nat.reduceBNe, Nat.reduceAdd, Nat.reduceLeDiff, Nat.reduceLT, Nat.reduceMul, ↓reduceIte, reduceCtorEq, g60, pf60, b60, hsync, hat, hlen, hlim', oP]
          simp [oP]
      · rw [step_form (T := ⟨S, W⟩) hsync hat hlen]
        simp (maxSteps := 1000000) (disch := first | assumption | ((try simp only [LEN, LEN2]); omega)) only [push_cast, Int.reduceToNat, Int.reduceEq, Int.reduceNe, Int.reduceLT, Int.reduceLE, Int.reduceAdd, Int.reduceSub, Int.reduceMul, Int.reduceNeg, Nat.reduceEqDiff, Nat.reduceBEq, Nat.reduceBNe, Nat.reduceAdd, Nat.reduceLeDiff, Nat.reduceLT, Nat.reduceMul, ↓reduceIte, reduceCtorEq, g60, pf60, b60, hsync, hat, hlen]
    · rw [step_none (T := ⟨S, W⟩) hsync hat]
      simp (maxSteps := 1000000) (disch := first | assumption | ((try simp only [LEN, LEN2]); omega)) only [push_cast, Int.reduceToNat, Int.reduceEq, Int.reduceNe, Int.reduceLT, Int.reduceLE, Int.reduceAdd, Int.reduceSub, Int.reduceMul, Int.reduceNeg, Nat.reduceEqDiff, Nat.reduceBEq, Nat.reduceBNe, Nat.reduceAdd, Nat.reduceLeDiff, Nat.reduceLT, Nat.reduceMul, ↓reduceIte, reduceCtorEq, g60, pf60, b60, hsync, hat]
theorem f60t {S : List (List UInt8)} {W : List Put} {d : Do} (hok : okT S W = true) (hd : d.Put.Text.length ≤ 1000000000) {g : VG} {F : Fn} {lk : Bool} {ags : List Arg} {e0 e1 : Env} {dst : Option Nat} {ops : List Ins} {keep : Option (List Nat)} {K : List Fr} : CallT G g F 60 [.one (.box (oT S W)), .vs true (cDo d)] lk ags e0 e1 dst ops keep K = RetT G g F (.int .i64 (Q.stepT ⟨S, W⟩ d).1) [.box (oT (Q.stepT ⟨S, W⟩ d).2.Sectors (Q.stepT ⟨S, W⟩ d).2.Waits)] lk ags e0 e1 dst ops keep K := callT_eq (f60 hok hd)
attribute [push_cast] f60t
abbrev tErr' (e : Int) (t : Q.Tape) : T := .tup [(true, oT t.Sectors t.Waits), (false, [.d (.sc (.int .i64 e))])]
def playP (S : List (List UInt8)) (W : List Put) (n : Int) (l : List Do) : Int × Q.Tape :=
  if okT S W = true ∧ -1 ≤ n then playT ⟨S, W⟩ (upto n l) else (1, ⟨[], []⟩)
set_option maxHeartbeats 2000000 in
theorem f22 {S : List (List UInt8)} {W : List Put} {n : Int} {l : List Do} (hS : S.length ≤ 1000000000) (hW : W.length ≤ 1000000000) (hl : smDo l) : Fun G 22 [.vs true (cT S W), .int .i64 n, .one (.d (.sl (l.map eDo)))] (tErr' (playP S W n l).1 (playP S W n l).2, []) := by
  refine Fun.of_run (g := g22) (pf := pf22) rfl rfl rfl rfl ?_
  obtain ⟨hl, hl2⟩ := hl
  cases hok : okT S W with
  | false =>
    have : playP S W n l = (1, ⟨[], []⟩) := by simp [playP, hok]
    simp (maxSteps := 1000000) (disch := first | assumption | ((try simp only [LEN, LEN2]); omega)) only [push_cast, Int.reduceToNat, Int.reduceEq, Int.reduceNe, Int.reduceLT, Int.reduceLE, Int.reduceAdd, Int.reduceSub, Int.reduceMul, Int.reduceNeg, Nat.reduceEqDiff, Nat.reduceBEq, Nat.reduceBNe, Nat.reduceAdd, Nat.reduceLeDiff, Nat.reduceLT, Nat.reduceMul, ↓reduceIte, reduceCtorEq, g22, pf22, b22, hok]
    rw [this]; simp
  | true =>
  by_cases hn : n < -1
  · have : playP S W n l = (1, ⟨[], []⟩) := by unfold playP; rw [if_neg (by omega)]
    simp (maxSteps := 1000000) (disch := first | assumption | ((try simp only [LEN, LEN2]); omega)) only [push_cast, Int.reduceToNat, Int.reduceEq, Int.reduceNe, Int.reduceLT, Int.reduceLE, Int.reduceAdd, Int.reduceSub, Int.reduceMul, Int.reduceNeg, Nat.reduceEqDiff, Nat.reduceBEq, Nat.reduceBNe, Nat.reduceAdd, Nat.reduceLeDiff, Nat.reduceLT, Nat.reduceMul, ↓reduceIte, reduceCtorEq, g22, pf22, b22, hok, hn]
    rw [this]; simp
  have hpl : playP S W n l = playT ⟨S, W⟩ (upto n l) := by unfold playP; rw [if_pos ⟨hok, by omega⟩]
  rw [hpl]
  have hok0 := okT_iff.1 hok
  simp (maxSteps := 1000000) (disch := first | assumption | ((try simp only [LEN, LEN2]); omega)) only [push_cast, Int.reduceToNat, Int.reduceEq, Int.reduceNe, Int.reduceLT, Int.reduceLE, Int.reduceAdd, Int.reduceSub, Int.reduceMul, Int.reduceNeg, Nat.reduceEqDiff, Nat.reduceBEq, Nat.reduceBNe, Nat.reduceAdd, Nat.reduceLeDiff, Nat.reduceLT, Nat.reduceMul, ↓reduceIte, reduceCtorEq, g22, pf22, b22, hok, hn]
  refine run_loop' (fun i : Nat => [(1, T.int .i64 n), (3, T.one (.box (oT (playT ⟨S, W⟩ (l.take i)).2.Sectors (playT ⟨S, W⟩ (l.take i)).2.Waits))), (6, T.one (.box [.own 9 [], .own 72 []])), (21, T.one (.d (.sl (l.map eDo)))), (22, T.int .i64 l.length), (23, T.int .i64 i)]) (fun i => i ≤ (upto n l).length ∧ (playT ⟨S, W⟩ (l.take i)).1 = 0) (fun i => l.length - i) 0 rfl ⟨Nat.zero_le _, rfl⟩ (fun i hi => ?_)
  obtain ⟨hi, h0⟩ := hi
  have hoki := okT_play hok h0
  obtain ⟨S', W', hT⟩ : ∃ S' W', (playT ⟨S, W⟩ (l.take i)).2 = ⟨S', W'⟩ := ⟨_, _, rfl⟩
  simp only [hT] at hoki
  have hok1 := okT_iff.1 hoki
  have hle := upto_le n l
  by_cases hin : i < (upto n l).length
  · obtain ⟨hin1, hin2⟩ := (upto_len n l i).1 hin
    have hd := hl2 l[i] (List.getElem_mem hin1)
    obtain ⟨d, hd0⟩ : ∃ d, d = l[i] := ⟨_, rfl⟩
    have hsn := playT_snoc (d := l[i]) h0
    rw [← List.take_succ_eq_append_getElem hin1, hT, ← hd0] at hsn
    have hui : (upto n l).take (i + 1) = l.take (i + 1) := upto_take n l hin
    have hend : (playT ⟨S, W⟩ (l.take (i + 1))).1 ≠ 0 → playT ⟨S, W⟩ (upto n l) = playT ⟨S, W⟩ (l.take (i + 1)) := fun hne => by
      conv => lhs; rw [← List.take_append_drop (i + 1) (upto n l), hui]
      exact playT_err hne
    have hc1 : (i : Int) < l.length := by omega
    rw [← hd0] at hd
    obtain ⟨e, t, het⟩ : ∃ e t, Q.stepT ⟨S', W'⟩ d = (e, t) := ⟨_, _, rfl⟩
    have hst := f60 (d := d) hoki (by omega)
    rw [het] at hsn hst
    have hni : ¬ (i : Int) = n := by omega
    by_cases he : e = 0
    · subst he
      simp only [if_true] at hsn
      simp (maxSteps := 1000000) (disch := first | assumption | ((try simp only [LEN, LEN2]); omega)) only [push_cast, Int.reduceToNat, Int.reduceEq, Int.reduceNe, Int.reduceLT, Int.reduceLE, Int.reduceAdd, Int.reduceSub, Int.reduceMul, Int.reduceNeg, Nat.reduceEqDiff, Nat.reduceBEq, Nat.reduceBNe, Nat.reduceAdd, Nat.reduceLeDiff, Nat.reduceLT, Nat.reduceMul, ↓reduceIte, reduceCtorEq, g22, pf22, b22, hT, hc1, hni, eDo, ← hd0, callT_eq hst]
      refine ⟨i + 1, ?_, ⟨by omega, by rw [hsn]⟩, by omega⟩
      rw [hsn]; simp
    · simp only [he, if_false] at hsn
      have := hend (by rw [hsn]; exact he)
      simp (maxSteps := 1000000) (disch := first | assumption | ((try simp only [LEN, LEN2]); omega)) only [push_cast, Int.reduceToNat, Int.reduceEq, Int.reduceNe, Int.reduceLT, Int.reduceLE, Int.reduceAdd, Int.reduceSub, Int.reduceMul, Int.reduceNeg, Nat.reduceEqDiff, Nat.reduceBEq, Nat.reduceBNe, Nat.reduceAdd, Nat.reduceLeDiff, Nat.reduceLT, Nat.reduceMul, ↓reduceIte, reduceCtorEq, g22, pf22, b22, hT, hc1, hni, eDo, ← hd0, callT_eq hst, he]
      rw [this, hsn]; simp
  · have hii : i = (upto n l).length := by omega
    have hfin : playT ⟨S, W⟩ (upto n l) = (0, ⟨S', W'⟩) := by
      have h1 := upto_take n l (Nat.le_of_eq hii)
      rw [hii, List.take_length, ← hii] at h1
      rw [h1]
      exact Prod.ext h0 hT
    have hnot := mt (upto_len n l i).2 hin
    by_cases hc1 : (i : Int) < l.length
    · have hni : n = (i : Int) := by
        have : i ≤ n.toNat := by
          rw [hii]; unfold upto; split
          · omega
          · rw [List.length_take]; omega
        omega
      subst hni
      simp (maxSteps := 1000000) (disch := first | assumption | ((try simp only [LEN, LEN2]); omega)) only [push_cast, Int.reduceToNat, Int.reduceEq, Int.reduceNe, Int.reduceLT, Int.reduceLE, Int.reduceAdd, Int.reduceSub, Int.reduceMul, Int.reduceNeg, Nat.reduceEqDiff, Nat.reduceBEq, Nat.reduceBNe, Nat.reduceAdd, Nat.reduceLeDiff, Nat.reduceLT, Nat.reduceMul, ↓reduceIte, reduceCtorEq, g22, pf22, b22, hT, hc1, eDo, eq_self]
      rw [hfin]
    · simp (maxSteps := 1000000) (disch := first | assumption | ((try simp only [LEN, LEN2]); omega)) only [push_cast, Int.reduceToNat, Int.reduceEq, Int.reduceNe, Int.reduceLT, Int.reduceLE, Int.reduceAdd, Int.reduceSub, Int.reduceMul, Int.reduceNeg, Nat.reduceEqDiff, Nat.reduceBEq, Nat.reduceBNe, Nat.reduceAdd, Nat.reduceLeDiff, Nat.reduceLT, Nat.reduceMul, ↓reduceIte, reduceCtorEq, g22, pf22, b22, hT, hc1]
      rw [hfin]
theorem f22c {S : List (List UInt8)} {W : List Put} {n : Int} {l : List Do} (hS : S.length ≤ 1000000000) (hW : W.length ≤ 1000000000) (hl : smDo l) {g : VG} {F : Fn} {lk : Bool} {e : Env} {dst : Option Nat} {ops : List Ins} {keep : Option (List Nat)} {K : List Fr} : CallC G g F 22 [.vs true (cT S W), .int .i64 n, .one (.d (.sl (l.map eDo)))] lk e dst ops keep K = ThenL G g F (if lk && !(T.noSl (tErr' (playP S W n l).1 (playP S W n l).2)) then none else e.put g.un dst (tErr' (playP S W n l).1 (playP S W n l).2)) ops keep K := callC_eq (f22 hS hW hl)
attribute [push_cast] f22c
set_option maxHeartbeats 2000000 in
theorem f23 {S : List (List UInt8)} {W : List Put} {L : List Int} (hS : S.length ≤ 1000000000) (hW : W.length ≤ 1000000000) (hL : L.length ≤ 1000000000) : Fun G 23 [.vs true (cT S W), .one (.d (.sl (L.map eN)))] ((if okT S W then tErr' 0 ⟨crashS L S W, []⟩ else tErr' 1 ⟨[], []⟩), []) := by
  refine Fun.of_run (g := g23) (pf := pf23) rfl rfl rfl rfl ?_
  cases hok : okT S W with
  | false =>
    simp (maxSteps := 1000000) (disch := first | assumption | ((try simp only [LEN, LEN2]); omega)) only [push_cast, Int.reduceToNat, Int.reduceEq, Int.reduceNe, Int.reduceLT, Int.reduceLE, Int.reduceAdd, Int.reduceSub, Int.reduceMul, Int.reduceNeg, Nat.reduceEqDiff, Nat.reduceBEq, Nat.reduceBNe, Nat.reduceAdd, Nat.reduceLeDiff, Nat.reduceLT, Nat.reduceMul, ↓reduceIte, reduceCtorEq, g23, pf23, b23, hok]
    simp
  | true =>
  have hok0 := okT_iff.1 hok
  simp (maxSteps := 1000000) (disch := first | assumption | ((try simp only [LEN, LEN2]); omega)) only [push_cast, Int.reduceToNat, Int.reduceEq, Int.reduceNe, Int.reduceLT, Int.reduceLE, Int.reduceAdd, Int.reduceSub, Int.reduceMul, Int.reduceNeg, Nat.reduceEqDiff, Nat.reduceBEq, Nat.reduceBNe, Nat.reduceAdd, Nat.reduceLeDiff, Nat.reduceLT, Nat.reduceMul, ↓reduceIte, reduceCtorEq, g23, pf23, b23, hok]
  refine run_loop' (fun i : Nat => [(1, T.one (.d (.sl (L.map eN)))), (2, T.one (.box (oT (crashS L S (W.take i)) W))), (4, T.one (.box [.own 9 [], .own 72 []])), (15, T.ref 2 0 [(0, 1)]), (16, T.int .i64 W.length), (17, T.int .i64 i)]) (fun i => i ≤ W.length) (fun i => W.length - i) 0 rfl (Nat.zero_le _) (fun i hi => ?_)
  simp (maxSteps := 1000000) (disch := first | assumption | ((try simp only [LEN, LEN2]); omega)) only [push_cast, Int.reduceToNat, Int.reduceEq, Int.reduceNe, Int.reduceLT, Int.reduceLE, Int.reduceAdd, Int.reduceSub, Int.reduceMul, Int.reduceNeg, Nat.reduceEqDiff, Nat.reduceBEq, Nat.reduceBNe, Nat.reduceAdd, Nat.reduceLeDiff, Nat.reduceLT, Nat.reduceMul, ↓reduceIte, reduceCtorEq, g23, pf23, b23]
  refine If.dec (fun h => ?_) (fun h => ?_)
  · replace h : i < W.length := by omega
    have hp := hok0.2.2 W[i] (List.getElem_mem h)
    have hcl := crashS_length L S (W.take i)
    by_cases hL0 : 0 < (L.length : Int)
    · have hm : i % L.length < L.length := Nat.mod_lt _ (by omega)
      have hmod : ((i : Int) % (L.length : Int)).toNat = i % L.length := by omega
      simp (maxSteps := 1000000) (disch := first | assumption | ((try simp only [LEN, LEN2]); omega)) only [push_cast, Int.reduceToNat, Int.reduceEq, Int.reduceNe, Int.reduceLT, Int.reduceLE, Int.reduceAdd, Int.reduceSub, Int.reduceMul, Int.reduceNeg, Nat.reduceEqDiff, Nat.reduceBEq, Nat.reduceBNe, Nat.reduceAdd, Nat.reduceLeDiff, Nat.reduceLT, Nat.reduceMul, ↓reduceIte, reduceCtorEq, g23, pf23, b23, hL0, hmod, eN, oP]
      have hk : keepB L i = decide (IntKind.i64.wrap ((BitVec.ofInt IntKind.i64.bits L[i % L.length] &&& BitVec.ofInt IntKind.i64.bits 1).toNat : Int) = 1) := by simp only [keepB, List.getElem?_eq_getElem hm, Option.any_some]; rfl
      have hlen : (W.take i).length = i := by rw [List.length_take]; omega
      refine If.dec (fun hb => ?_) (fun hb => ?_)
      · obtain ⟨n, hn⟩ := Int.eq_ofNat_of_zero_le hp.1
        have hn2 : n < (crashS L S (W.take i)).length := by omega
        simp (maxSteps := 1000000) (disch := first | assumption | ((try simp only [LEN, LEN2]); omega)) only [push_cast, Int.reduceToNat, Int.reduceEq, Int.reduceNe, Int.reduceLT, Int.reduceLE, Int.reduceAdd, Int.reduceSub, Int.reduceMul, Int.reduceNeg, Nat.reduceEqDiff, Nat.reduceBEq, Nat.reduceBNe, Nat.reduceAdd, Nat.reduceLeDiff, Nat.reduceLT, Nat.reduceMul, ↓reduceIte, reduceCtorEq, g23, pf23, b23, eP, oP, oS, hn]
        refine ⟨i + 1, ?_, by omega, by omega⟩
        rw [List.take_succ_eq_append_getElem h, crashS_snoc, hlen, hk, decide_eq_true hb, if_pos rfl]
        simp only [put1, oT, List.map_set, hn, Int.toNat_natCast, oS, Int.natCast_add, Int.cast_ofNat_Int]
      · simp (maxSteps := 1000000) (disch := first | assumption | ((try simp only [LEN, LEN2]); omega)) only [push_cast, Int.reduceToNat, Int.reduceEq, Int.reduceNe, Int.reduceLT, Int.reduceLE, Int.reduceAdd, Int.reduceSub, Int.reduceMul, Int.reduceNeg, Nat.reduceEqDiff, Nat.reduceBEq, Nat.reduceBNe, Nat.reduceAdd, Nat.reduceLeDiff, Nat.reduceLT, Nat.reduceMul, ↓reduceIte, reduceCtorEq, g23, pf23, b23]
        refine ⟨i + 1, ?_, by omega, by omega⟩
        rw [List.take_succ_eq_append_getElem h, crashS_snoc, hlen, hk, decide_eq_false hb, if_neg (by simp)]
        simp
    · have hL1 : L = [] := List.length_eq_zero_iff.1 (by omega)
      simp (maxSteps := 1000000) (disch := first | assumption | ((try simp only [LEN, LEN2]); omega)) only [push_cast, Int.reduceToNat, Int.reduceEq, Int.reduceNe, Int.reduceLT, Int.reduceLE, Int.reduceAdd, Int.reduceSub, Int.reduceMul, Int.reduceNeg, Nat.reduceEqDiff, Nat.reduceBEq, Nat.reduceBNe, Nat.reduceAdd, Nat.reduceLeDiff, Nat.reduceLT, Nat.reduceMul, ↓reduceIte, reduceCtorEq, g23, pf23, b23, hL0, oP]
      refine ⟨i + 1, ?_, by omega, by omega⟩
      rw [List.take_succ_eq_append_getElem h, crashS_snoc, if_neg (by simp [hL1, keepB])]
      simp
  · obtain rfl : i = W.length := by omega
    simp (maxSteps := 1000000) (disch := first | assumption | ((try simp only [LEN, LEN2]); omega)) only [push_cast, Int.reduceToNat, Int.reduceEq, Int.reduceNe, Int.reduceLT, Int.reduceLE, Int.reduceAdd, Int.reduceSub, Int.reduceMul, Int.reduceNeg, Nat.reduceEqDiff, Nat.reduceBEq, Nat.reduceBNe, Nat.reduceAdd, Nat.reduceLeDiff, Nat.reduceLT, Nat.reduceMul, ↓reduceIte, reduceCtorEq, g23, pf23, b23]
    simp
theorem f23c {S : List (List UInt8)} {W : List Put} {L : List Int} (hS : S.length ≤ 1000000000) (hW : W.length ≤ 1000000000) (hL : L.length ≤ 1000000000) {g : VG} {F : Fn} {lk : Bool} {e : Env} {dst : Option Nat} {ops : List Ins} {keep : Option (List Nat)} {K : List Fr} : CallC G g F 23 [.vs true (cT S W), .one (.d (.sl (L.map eN)))] lk e dst ops keep K = ThenL G g F (if lk && !(T.noSl ((if okT S W then tErr' 0 ⟨crashS L S W, []⟩ else tErr' 1 ⟨[], []⟩))) then none else e.put g.un dst ((if okT S W then tErr' 0 ⟨crashS L S W, []⟩ else tErr' 1 ⟨[], []⟩))) ops keep K := callC_eq (f23 hS hW hL)
attribute [push_cast] f23c
end Go.Mir.Tryz

set_option linter.unusedVariables false
set_option linter.unusedSimpArgs false
set_option maxRecDepth 100000
namespace Go.Mir.Tryz
open Go.Proofs Go.Mir.Q
theorem okRows_one {l : List Row} (h : 0 < l.length) : okRows (l.take 1) = okRow l[0] := by
  obtain ⟨a, l', rfl⟩ : ∃ a l', l = a :: l' := List.exists_cons_of_length_pos h
  simp [okRows, rising]
theorem okRows_next {l : List Row} {j : Nat} (h : j + 1 < l.length) : okRows (l.take (j + 2)) = (okRows (l.take (j + 1)) && (okRow l[j + 1] && Op.bytesLess l[j].Key l[j + 1].Key)) := by
  rw [List.take_succ_eq_append_getElem h, okRows_snoc]
  have : (l.take (j + 1)).getLast? = some l[j] := by
    rw [List.take_succ_eq_append_getElem (by omega), List.getLast?_concat]
  rw [this]
theorem okRows_bad {l : List Row} {k : Nat} (h : okRows (l.take k) = false) : okRows l = false := by
  rw [← Bool.not_eq_true]
  intro hh
  rw [← List.take_append_drop k l] at hh
  rw [okRows_pre hh] at h
  cases h
set_option maxHeartbeats 2000000 in
theorem f101 {l : List Row} (hl : l.length ≤ 1000000000) : Fun G 101 [.one (.d (.sl (l.map eRow)))] (.bool (okRows l), []) := by
  refine Fun.of_run (g := g101) (pf := pf101) rfl rfl rfl rfl ?_
  simp (maxSteps := 1000000) (disch := first | assumption | ((try simp only [LEN, LEN2]); omega)) only [push_cast, Int.reduceToNat, Int.reduceEq, Int.reduceNe, Int.reduceLT, Int.reduceLE, Int.reduceAdd, Int.reduceSub, Int.reduceMul, Int.reduceNeg, Nat.reduceEqDiff, Nat.reduceBEq, Nat.reduceBNe, Nat.reduceAdd, Nat.reduceLeDiff, Nat.reduceLT, Nat.reduceMul, ↓reduceIte, reduceCtorEq, g101, pf101, b101]
  refine run_loop' (fun i : Nat => [(0, T.one (.d (.sl (l.map eRow)))), (5, T.one (.d (.sl (l.map eRow)))), (6, T.int .i64 l.length), (7, T.int .i64 i)]) (fun i => i ≤ l.length ∧ okRows (l.take i) = true) (fun i => l.length - i) 0 rfl ⟨Nat.zero_le _, rfl⟩ (fun i hi => ?_)
  obtain ⟨hi, ht⟩ := hi
  by_cases h : (i : Int) < l.length
  · have hi' : i < l.length := by omega
    have hno : okRow l[i] = false → okRows l = false := fun hx => by
      rw [← Bool.not_eq_true]
      intro hh
      simp only [okRows, Bool.and_eq_true, List.all_eq_true] at hh
      rw [hh.1 _ (List.getElem_mem hi')] at hx
      cases hx
    by_cases hk : l[i].Key ≠ [] ∧ l[i].Key.length ≤ 12
    · by_cases hv : l[i].Value.length ≤ 20
      · have hx : okRow l[i] = true := by
          have := List.length_pos_iff.2 hk.1
          simp only [okRow, decide_eq_true_eq]; omega
        by_cases h0 : (0 : Int) < i
        · have e1 : ((i : Int) - 1).toNat = i - 1 := by omega
          have hn : okRows (l.take (i + 1)) = Op.bytesLess l[i - 1].Key l[i].Key := by
            obtain ⟨j, rfl⟩ : ∃ j, i = j + 1 := ⟨i - 1, by omega⟩
            have hn := okRows_next hi'
            rw [ht, hx, Bool.true_and, Bool.true_and] at hn
            exact hn
          cases hb : Op.bytesLess l[i - 1].Key l[i].Key with
          | true =>
            simp (maxSteps := 1000000) (disch := first | assumption | ((try simp only [LEN, LEN2]); omega)) only [push_cast, Int.reduceToNat, Int.reduceEq, Int.reduceNe, Int.reduceLT, Int.reduceLE, Int.reduceAdd, Int.reduceSub, Int.reduceMul, Int.reduceNeg, Nat.reduceEqDiff, Nat.reduceBEq, Nat.reduceBNe, Nat.reduceAdd, Nat.reduceLeDiff, Nat.reduceLT, Nat.reduceMul, ↓reduceIte, reduceCtorEq, g101, pf101, b101, h, eRow, hk, hv, h0, e1, less_total, hb]
            exact ⟨i + 1, by simp, ⟨by omega, by rw [hn, hb]⟩, by omega⟩
          | false =>
            rw [hb] at hn
            simp (maxSteps := 1000000) (disch := first | assumption | ((try simp only [LEN, LEN2]); omega)) only [push_cast, Int.reduceToNat, Int.reduceEq, Int.reduceNe, Int.reduceLT, Int.reduceLE, Int.reduceAdd, Int.reduceSub, Int.reduceMul, Int.reduceNeg, Nat.reduceEqDiff, Nat.reduceBEq, Nat.reduceBNe, Nat.reduceAdd, Nat.reduceLeDiff, Nat.reduceLT, Nat.reduceMul, ↓reduceIte, reduceCtorEq, g101, pf101, b101, h, eRow, hk, hv, h0, e1, less_total, hb, okRows_bad hn]
        · have hn : okRows (l.take (i + 1)) = true := by
            obtain rfl : i = 0 := by omega
            rw [okRows_one hi', hx]
          simp (maxSteps := 1000000) (disch := first | assumption | ((try simp only [LEN, LEN2]); omega)) only [push_cast, Int.reduceToNat, Int.reduceEq, Int.reduceNe, Int.reduceLT, Int.reduceLE, Int.reduceAdd, Int.reduceSub, Int.reduceMul, Int.reduceNeg, Nat.reduceEqDiff, Nat.reduceBEq, Nat.reduceBNe, Nat.reduceAdd, Nat.reduceLeDiff, Nat.reduceLT, Nat.reduceMul, ↓reduceIte, reduceCtorEq, g101, pf101, b101, h, eRow, hk, hv, h0]
          exact ⟨i + 1, by simp, ⟨by omega, hn⟩, by omega⟩
      · have := hno (by simp only [okRow, decide_eq_false_iff_not]; omega)
        simp (maxSteps := 1000000) (disch := first | assumption | ((try simp only [LEN, LEN2]); omega)) only [push_cast, Int.reduceToNat, Int.reduceEq, Int.reduceNe, Int.reduceLT, Int.reduceLE, Int.reduceAdd, Int.reduceSub, Int.reduceMul, Int.reduceNeg, Nat.reduceEqDiff, Nat.reduceBEq, Nat.reduceBNe, Nat.reduceAdd, Nat.reduceLeDiff, Nat.reduceLT, Nat.reduceMul, ↓reduceIte, reduceCtorEq, g101, pf101, b101, h, eRow, hk, hv, this]
    · have := hno (by
        simp only [okRow, decide_eq_false_iff_not]
        intro hh
        exact hk ⟨List.length_pos_iff.1 (by omega), by omega⟩)
      simp (maxSteps := 1000000) (disch := first | assumption | ((try simp only [LEN, LEN2]); omega)) only [push_cast, Int.reduceToNat, Int.reduceEq, Int.reduceNe, Int.reduceLT, Int.reduceLE, Int.reduceAdd, Int.reduceSub, Int.reduceMul, Int.reduceNeg, Nat.reduceEqDiff, Nat.reduceBEq, Nat.reduceBNe, Nat.reduceAdd, Nat.reduceLeDiff, Nat.reduceLT, Nat.reduceMul, ↓reduceIte, reduceCtorEq, g101, pf101, b101, h, eRow, hk, this]
  · obtain rfl : i = l.length := by omega
    rw [List.take_length] at ht
    simp (maxSteps := 1000000) (disch := first | assumption | ((try simp only [LEN, LEN2]); omega)) only [push_cast, Int.reduceToNat, Int.reduceEq, Int.reduceNe, Int.reduceLT, Int.reduceLE, Int.reduceAdd, Int.reduceSub, Int.reduceMul, Int.reduceNeg, Nat.reduceEqDiff, Nat.reduceBEq, Nat.reduceBNe, Nat.reduceAdd, Nat.reduceLeDiff, Nat.reduceLT, Nat.reduceMul, ↓reduceIte, reduceCtorEq, g101, pf101, b101, h, ht]
theorem f101c {l : List Row} (hl : l.length ≤ 1000000000) {g : VG} {F : Fn} {lk : Bool} {e : Env} {dst : Option Nat} {ops : List Ins} {keep : Option (List Nat)} {K : List Fr} : CallC G g F 101 [.one (.d (.sl (l.map eRow)))] lk e dst ops keep K = ThenL G g F (if lk && !(T.noSl (.bool (okRows l))) then none else e.put g.un dst (.bool (okRows l))) ops keep K := callC_eq (f101 hl)
attribute [push_cast] f101c
set_option maxHeartbeats 2000000 in
theorem f100 {l : List Row} (hl : l.length ≤ 1000000000) : Fun G 100 [.one (.d (.sl (l.map eRow)))] (.bool (!okRows l), []) := by
  refine Fun.of_run (g := g100) (pf := pf100) rfl rfl rfl rfl ?_
  simp (maxSteps := 1000000) (disch := first | assumption | ((try simp only [LEN, LEN2]); omega)) only [push_cast, Int.reduceToNat, Int.reduceEq, Int.reduceNe, Int.reduceLT, Int.reduceLE, Int.reduceAdd, Int.reduceSub, Int.reduceMul, Int.reduceNeg, Nat.reduceEqDiff, Nat.reduceBEq, Nat.reduceBNe, Nat.reduceAdd, Nat.reduceLeDiff, Nat.reduceLT, Nat.reduceMul, ↓reduceIte, reduceCtorEq, g100, pf100, b100]
theorem f100c {l : List Row} (hl : l.length ≤ 1000000000) {g : VG} {F : Fn} {lk : Bool} {e : Env} {dst : Option Nat} {ops : List Ins} {keep : Option (List Nat)} {K : List Fr} : CallC G g F 100 [.one (.d (.sl (l.map eRow)))] lk e dst ops keep K = ThenL G g F (if lk && !(T.noSl (.bool (!okRows l))) then none else e.put g.un dst (.bool (!okRows l))) ops keep K := callC_eq (f100 hl)
attribute [push_cast] f100c
end Go.Mir.Tryz

set_option linter.unusedVariables false
set_option linter.unusedSimpArgs false
set_option maxRecDepth 100000
namespace Go.Mir.Tryz
open Go.Proofs Go.Mir.Q
theorem f122 {l : List (List Row)} {f : FuncId} {caps : List T} {p : (List Row) → Bool} (hl : l.length ≤ 1000000000) (hpm : G.pm f = [.ro] ∨ G.pm f = [.ro, .ro] ∨ G.pm f = [.ro, .ro, .ro] ∨ G.pm f = [.ro, .ro, .ro, .ro]) (hcap : capsData caps = true) (hf : ∀ w ∈ l, Fun G f (.one (.d (.sl (w.map eRow))) :: caps) (.bool (p w), [])) :
    Fun G 122 [.one (.d (.sl (l.map eMp))), .fn f caps] (.int .i64 (idx p l), []) := by
  refine Fun.of_run (g := g122) (pf := pf122) rfl rfl rfl rfl ?_
  have hcap2 := capsRo_data (caps := caps) hcap
  have hcap3 := rootsL_data (caps := caps) hcap
  simp (maxSteps := 1000000) (disch := first | assumption | ((try simp only [LEN, LEN2]); omega)) only [push_cast, Int.reduceToNat, Int.reduceEq, Int.reduceNe, Int.reduceLT, Int.reduceLE, Int.reduceAdd, Int.reduceSub, Int.reduceMul, Int.reduceNeg, Nat.reduceEqDiff, Nat.reduceBEq, Nat.reduceBNe, Nat.reduceAdd, Nat.reduceLeDiff, Nat.reduceLT, Nat.reduceMul, ↓reduceIte, reduceCtorEq, g122, pf122, b122, hcap2, hcap3, List.all_nil]
  refine run_loop' (fun i : Nat => [(0, T.one (.d (.sl (l.map eMp)))), (1, T.fn f caps), (7, T.int .i64 l.length), (8, T.int .i64 i)]) (fun i => i ≤ l.length ∧ ∀ x ∈ l.take i, p x = false) (fun i => l.length - i) 0 rfl ⟨Nat.zero_le _, by simp⟩ (fun i hi => ?_)
  obtain ⟨hi, ht⟩ := hi
  simp (maxSteps := 1000000) (disch := first | assumption | ((try simp only [LEN, LEN2]); omega)) only [push_cast, Int.reduceToNat, Int.reduceEq, Int.reduceNe, Int.reduceLT, Int.reduceLE, Int.reduceAdd, Int.reduceSub, Int.reduceMul, Int.reduceNeg, Nat.reduceEqDiff, Nat.reduceBEq, Nat.reduceBNe, Nat.reduceAdd, Nat.reduceLeDiff, Nat.reduceLT, Nat.reduceMul, ↓reduceIte, reduceCtorEq, g122, pf122, b122, hcap2, hcap3, List.all_nil]
  refine If.dec (fun h => ?_) (fun h => ?_)
  · replace h : i < l.length := by omega
    have h2 := hf l[i] (List.getElem_mem h)
    skip
    by_cases hp : p l[i] = true
    · rcases hpm with hpm | hpm | hpm | hpm <;> simp (maxSteps := 1000000) (disch := first | assumption | ((try simp only [LEN, LEN2]); omega)) only [push_cast, Int.reduceToNat, Int.reduceEq, Int.reduceNe, Int.reduceLT, Int.reduceLE, Int.reduceAdd, Int.reduceSub, Int.reduceMul, Int.reduceNeg, Nat.reduceEqDiff, Nat.reduceBEq, Nat.reduceBNe, Nat.reduceAdd, Nat.reduceLeDiff, Nat.reduceLT, Nat.reduceMul, ↓reduceIte, reduceCtorEq, g122, pf122, b122, hcap2, hcap3, List.all_nil, hpm, eMp, callT_eq h2, hp] <;> rw [idx_some h ht hp]
    · rw [Bool.not_eq_true] at hp
      rcases hpm with hpm | hpm | hpm | hpm <;> simp (maxSteps := 1000000) (disch := first | assumption | ((try simp only [LEN, LEN2]); omega)) only [push_cast, Int.reduceToNat, Int.reduceEq, Int.reduceNe, Int.reduceLT, Int.reduceLE, Int.reduceAdd, Int.reduceSub, Int.reduceMul, Int.reduceNeg, Nat.reduceEqDiff, Nat.reduceBEq, Nat.reduceBNe, Nat.reduceAdd, Nat.reduceLeDiff, Nat.reduceLT, Nat.reduceMul, ↓reduceIte, reduceCtorEq, g122, pf122, b122, hcap2, hcap3, List.all_nil, hpm, eMp, callT_eq h2, hp]
      all_goals
        refine ⟨i + 1, rfl, ⟨by omega, fun x hx => ?_⟩, by omega⟩
        rw [List.take_succ_eq_append_getElem h, List.mem_append, List.mem_singleton] at hx
        rcases hx with hx | rfl
        · exact ht x hx
        · exact hp
  · obtain rfl : i = l.length := by omega
    simp (maxSteps := 1000000) (disch := first | assumption | ((try simp only [LEN, LEN2]); omega)) only [push_cast, Int.reduceToNat, Int.reduceEq, Int.reduceNe, Int.reduceLT, Int.reduceLE, Int.reduceAdd, Int.reduceSub, Int.reduceMul, Int.reduceNeg, Nat.reduceEqDiff, Nat.reduceBEq, Nat.reduceBNe, Nat.reduceAdd, Nat.reduceLeDiff, Nat.reduceLT, Nat.reduceMul, ↓reduceIte, reduceCtorEq, g122, pf122, b122, hcap2, hcap3, List.all_nil]
    rw [idx_none (fun x hx => ht x (by rw [List.take_length]; exact hx))]
theorem f99 {l : List (List Row)} {f : FuncId} {caps : List T} {p : (List Row) → Bool} (hl : l.length ≤ 1000000000) (hpm : G.pm f = [.ro] ∨ G.pm f = [.ro, .ro] ∨ G.pm f = [.ro, .ro, .ro] ∨ G.pm f = [.ro, .ro, .ro, .ro]) (hcap : capsData caps = true) (hf : ∀ w ∈ l, Fun G f (.one (.d (.sl (w.map eRow))) :: caps) (.bool (p w), [])) :
    Fun G 99 [.one (.d (.sl (l.map eMp))), .fn f caps] (.bool (l.any p), []) := by
  refine Fun.of_run (g := g99) (pf := pf99) rfl rfl rfl rfl ?_
  have hcap2 := capsRo_data (caps := caps) hcap
  have hcap3 := rootsL_data (caps := caps) hcap
  simp (maxSteps := 1000000) (disch := first | assumption | ((try simp only [LEN, LEN2]); omega)) only [push_cast, Int.reduceToNat, Int.reduceEq, Int.reduceNe, Int.reduceLT, Int.reduceLE, Int.reduceAdd, Int.reduceSub, Int.reduceMul, Int.reduceNeg, Nat.reduceEqDiff, Nat.reduceBEq, Nat.reduceBNe, Nat.reduceAdd, Nat.reduceLeDiff, Nat.reduceLT, Nat.reduceMul, ↓reduceIte, reduceCtorEq, g99, pf99, b99, hcap2, hcap3, List.all_nil, callC_eq (f122 hl hpm hcap hf)]
  rw [← idx_nonneg]
set_option maxHeartbeats 2000000 in
theorem f69 {m : Map} (hm : smM m) : Fun G 69 [.one (.d (.sl (m.map eMp)))] (.bool (okM m), []) := by
  refine Fun.of_run (g := g69) (pf := pf69) rfl rfl rfl rfl ?_
  obtain ⟨hm, hm2⟩ := hm
  have h := f99 (l := m) (f := 100) (caps := []) (p := fun w => !okRows w) (by omega) (.inl rfl) rfl (fun w hw => f100 (by have := (hm2 w hw).1; omega))
  rw [List.not_all_eq_any_not.symm] at h
  by_cases h3 : (m.length : Int) ≤ 3
  · simp (maxSteps := 1000000) (disch := first | assumption | ((try simp only [LEN, LEN2]); omega)) only [push_cast, Int.reduceToNat, Int.reduceEq, Int.reduceNe, Int.reduceLT, Int.reduceLE, Int.reduceAdd, Int.reduceSub, Int.reduceMul, Int.reduceNeg, Nat.reduceEqDiff, Nat.reduceBEq, Nat.reduceBNe, Nat.reduceAdd, Nat.reduceLeDiff, Nat.reduceLT, Nat.reduceMul, ↓reduceIte, reduceCtorEq, g69, pf69, b69, h3, callC_eq h]
    have : m.length ≤ 3 := by omega
    simp [okM, this]
  · simp (maxSteps := 1000000) (disch := first | assumption | ((try simp only [LEN, LEN2]); omega)) only [push_cast, Int.reduceToNat, Int.reduceEq, Int.reduceNe, Int.reduceLT, Int.reduceLE, Int.reduceAdd, Int.reduceSub, Int.reduceMul, Int.reduceNeg, Nat.reduceEqDiff, Nat.reduceBEq, Nat.reduceBNe, Nat.reduceAdd, Nat.reduceLeDiff, Nat.reduceLT, Nat.reduceMul, ↓reduceIte, reduceCtorEq, g69, pf69, b69, h3]
    have : ¬ m.length ≤ 3 := by omega
    simp [okM, this]
theorem f69c {m : Map} (hm : smM m) {g : VG} {F : Fn} {lk : Bool} {e : Env} {dst : Option Nat} {ops : List Ins} {keep : Option (List Nat)} {K : List Fr} : CallC G g F 69 [.one (.d (.sl (m.map eMp)))] lk e dst ops keep K = ThenL G g F (if lk && !(T.noSl (.bool (okM m))) then none else e.put g.un dst (.bool (okM m))) ops keep K := callC_eq (f69 hm)
attribute [push_cast] f69c
set_option maxHeartbeats 2000000 in
theorem f31 {m : Map} (hm : smM m) : Fun G 31 [.one (.d (.sl (m.map eMp)))] (.bool (okM m), []) := by
  refine Fun.of_run (g := g31) (pf := pf31) rfl rfl rfl rfl ?_
  obtain ⟨hm, hm2⟩ := hm
  have hbad : ∀ l ∈ m, okRows l = false → okM m = false := fun l hl hb => by
    simp only [okM, Bool.and_eq_false_iff]
    right
    rw [← Bool.not_eq_true, List.all_eq_true]
    intro hh
    rw [hh l hl] at hb
    cases hb
  simp (maxSteps := 1000000) (disch := first | assumption | ((try simp only [LEN, LEN2]); omega)) only [push_cast, Int.reduceToNat, Int.reduceEq, Int.reduceNe, Int.reduceLT, Int.reduceLE, Int.reduceAdd, Int.reduceSub, Int.reduceMul, Int.reduceNeg, Nat.reduceEqDiff, Nat.reduceBEq, Nat.reduceBNe, Nat.reduceAdd, Nat.reduceLeDiff, Nat.reduceLT, Nat.reduceMul, ↓reduceIte, reduceCtorEq, g31, pf31, b31]
  refine run_loop' (fun i : Nat => [(0, T.one (.d (.sl (m.map eMp)))), (3, T.int .i64 i)]) (fun i => i ≤ m.length ∧ i ≤ 4 ∧ ∀ x ∈ m.take i, okRows x = true) (fun i => m.length - i) 0 rfl ⟨Nat.zero_le _, by omega, by simp⟩ (fun i hi => ?_)
  obtain ⟨hi, hi4, ht⟩ := hi
  by_cases h1 : (i : Int) < m.length
  · by_cases h2 : (i : Int) ≤ 3
    · have hi' : i < m.length := by omega
      have hlm := List.getElem_mem hi'
      obtain ⟨hl1, hl2⟩ := hm2 m[i] hlm
      obtain ⟨l, hl0⟩ : ∃ l, l = m[i] := ⟨_, rfl⟩
      rw [← hl0] at hl1 hl2 hlm
      simp (maxSteps := 1000000) (disch := first | assumption | ((try simp only [LEN, LEN2]); omega)) only [push_cast, Int.reduceToNat, Int.reduceEq, Int.reduceNe, Int.reduceLT, Int.reduceLE, Int.reduceAdd, Int.reduceSub, Int.reduceMul, Int.reduceNeg, Nat.reduceEqDiff, Nat.reduceBEq, Nat.reduceBNe, Nat.reduceAdd, Nat.reduceLeDiff, Nat.reduceLT, Nat.reduceMul, ↓reduceIte, reduceCtorEq, g31, pf31, b31, h1, h2]
      refine run_loop' (fun k : Nat => [(0, T.one (.d (.sl (m.map eMp)))), (3, T.int .i64 i), (4, T.int .i64 k)]) (fun k => k ≤ l.length ∧ okRows (l.take k) = true) (fun k => l.length - k) 0 rfl ⟨Nat.zero_le _, rfl⟩ (fun k hk => ?_)
      obtain ⟨hkl, hko⟩ := hk
      by_cases h : (k : Int) < l.length
      · have hk' : k < l.length := by omega
        have hsz := hl2 l[k] (List.getElem_mem hk')
        have hno : okRow l[k] = false → okM m = false := fun hx => hbad l hlm (by
          rw [← Bool.not_eq_true]
          intro hh
          simp only [okRows, Bool.and_eq_true, List.all_eq_true] at hh
          rw [hh.1 _ (List.getElem_mem hk')] at hx
          cases hx)
        by_cases hkk : 1 ≤ l[k].Key.length ∧ l[k].Key.length ≤ 12
        · by_cases hv : l[k].Value.length ≤ 20
          · have hx : okRow l[k] = true := by simp only [okRow, decide_eq_true_eq]; omega
            by_cases h0 : (0 : Int) < k
            · have e1 : ((k : Int) - 1).toNat = k - 1 := by omega
              have hn : okRows (l.take (k + 1)) = Op.bytesLess l[k - 1].Key l[k].Key := by
                obtain ⟨j, rfl⟩ : ∃ j, k = j + 1 := ⟨k - 1, by omega⟩
                have hn := okRows_next hk'
                rw [hko, hx, Bool.true_and, Bool.true_and] at hn
                exact hn
              cases hb : Op.bytesLess l[k - 1].Key l[k].Key with
              | true =>
                simp (maxSteps := 1000000) (disch := first | assumption | ((try simp only [LEN, LEN2]); omega)) only [push_cast, Int.reduceToNat, Int.reduceEq, Int.reduceNe, Int.reduceLT, Int.reduceLE, Int.reduceAdd, Int.reduceSub, Int.reduceMul, Int.reduceNeg, Nat.reduceEqDiff, Nat.reduceBEq, Nat.reduceBNe, Nat.reduceAdd, Nat.reduceLeDiff, Nat.reduceLT, Nat.reduceMul, ↓reduceIte, reduceCtorEq, g31, pf31, b31, h, eMp, eRow, ← hl0, hkk, hv, h0, e1, hb]
                exact ⟨k + 1, by simp, ⟨by omega, by rw [hn, hb]⟩, by omega⟩
              | false =>
                rw [hb] at hn
                simp (maxSteps := 1000000) (disch := first | assumption | ((try simp only [LEN, LEN2]); omega)) only [push_cast, Int.reduceToNat, Int.reduceEq, Int.reduceNe, Int.reduceLT, Int.reduceLE, Int.reduceAdd, Int.reduceSub, Int.reduceMul, Int.reduceNeg, Nat.reduceEqDiff, Nat.reduceBEq, Nat.reduceBNe, Nat.reduceAdd, Nat.reduceLeDiff, Nat.reduceLT, Nat.reduceMul, ↓reduceIte, reduceCtorEq, g31, pf31, b31, h, eMp, eRow, ← hl0, hkk, hv, h0, e1, hb, hbad l hlm (okRows_bad hn)]
            · have hn : okRows (l.take (k + 1)) = true := by
                obtain rfl : k = 0 := by omega
                rw [okRows_one hk', hx]
              simp (maxSteps := 1000000) (disch := first | assumption | ((try simp only [LEN, LEN2]); omega)) only [push_cast, Int.reduceToNat, Int.reduceEq, Int.reduceNe, Int.reduceLT, Int.reduceLE, Int.reduceAdd, Int.reduceSub, Int.reduceMul, Int.reduceNeg, Nat.reduceEqDiff, Nat.reduceBEq, Nat.reduceBNe, Nat.reduceAdd, Nat.reduceLeDiff, Nat.reduceLT, Nat.reduceMul, ↓reduceIte, reduceCtorEq, g31, pf31, b31, h, eMp, eRow, ← hl0, hkk, hv, h0]
              exact ⟨k + 1, by simp, ⟨by omega, hn⟩, by omega⟩
          · have := hno (by simp only [okRow, decide_eq_false_iff_not]; omega)
            simp (maxSteps := 1000000) (disch := first | assumption | ((try simp only [LEN, LEN2]); omega)) only [push_cast, Int.reduceToNat, Int.reduceEq, Int.reduceNe, Int.reduceLT, Int.reduceLE, Int.reduceAdd, Int.reduceSub, Int.reduceMul, Int.reduceNeg, Nat.reduceEqDiff, Nat.reduceBEq, Nat.reduceBNe, Nat.reduceAdd, Nat.reduceLeDiff, Nat.reduceLT, Nat.reduceMul, ↓reduceIte, reduceCtorEq, g31, pf31, b31, h, eMp, eRow, ← hl0, hkk, hv, this]
        · have := hno (by simp only [okRow, decide_eq_false_iff_not]; omega)
          simp (maxSteps := 1000000) (disch := first | assumption | ((try simp only [LEN, LEN2]); omega)) only [push_cast, Int.reduceToNat, Int.reduceEq, Int.reduceNe, Int.reduceLT, Int.reduceLE, Int.reduceAdd, Int.reduceSub, Int.reduceMul, Int.reduceNeg, Nat.reduceEqDiff, Nat.reduceBEq, Nat.reduceBNe, Nat.reduceAdd, Nat.reduceLeDiff, Nat.reduceLT, Nat.reduceMul, ↓reduceIte, reduceCtorEq, g31, pf31, b31, h, eMp, eRow, ← hl0, hkk, this]
      · obtain rfl : k = l.length := by omega
        rw [List.take_length] at hko
        simp (maxSteps := 1000000) (disch := first | assumption | ((try simp only [LEN, LEN2]); omega)) only [push_cast, Int.reduceToNat, Int.reduceEq, Int.reduceNe, Int.reduceLT, Int.reduceLE, Int.reduceAdd, Int.reduceSub, Int.reduceMul, Int.reduceNeg, Nat.reduceEqDiff, Nat.reduceBEq, Nat.reduceBNe, Nat.reduceAdd, Nat.reduceLeDiff, Nat.reduceLT, Nat.reduceMul, ↓reduceIte, reduceCtorEq, g31, pf31, b31, h, eMp, ← hl0]
        refine ⟨i + 1, by simp, ⟨by omega, by omega, fun x hx => ?_⟩, by omega⟩
        rw [List.take_succ_eq_append_getElem hi', List.mem_append, List.mem_singleton, ← hl0] at hx
        rcases hx with hx | rfl
        · exact ht x hx
        · exact hko
    · have : okM m = false := by
        simp only [okM, Bool.and_eq_false_iff, decide_eq_false_iff_not]; left; omega
      have h3 : ¬ (m.length : Int) ≤ 3 := by omega
      simp (maxSteps := 1000000) (disch := first | assumption | ((try simp only [LEN, LEN2]); omega)) only [push_cast, Int.reduceToNat, Int.reduceEq, Int.reduceNe, Int.reduceLT, Int.reduceLE, Int.reduceAdd, Int.reduceSub, Int.reduceMul, Int.reduceNeg, Nat.reduceEqDiff, Nat.reduceBEq, Nat.reduceBNe, Nat.reduceAdd, Nat.reduceLeDiff, Nat.reduceLT, Nat.reduceMul, ↓reduceIte, reduceCtorEq, g31, pf31, b31, h1, h2, h3, this]
  · obtain rfl : i = m.length := by omega
    rw [List.take_length] at ht
    by_cases h3 : (m.length : Int) ≤ 3
    · have : okM m = true := by
        simp only [okM, Bool.and_eq_true, decide_eq_true_eq, List.all_eq_true]; exact ⟨by omega, ht⟩
      simp (maxSteps := 1000000) (disch := first | assumption | ((try simp only [LEN, LEN2]); omega)) only [push_cast, Int.reduceToNat, Int.reduceEq, Int.reduceNe, Int.reduceLT, Int.reduceLE, Int.reduceAdd, Int.reduceSub, Int.reduceMul, Int.reduceNeg, Nat.reduceEqDiff, Nat.reduceBEq, Nat.reduceBNe, Nat.reduceAdd, Nat.reduceLeDiff, Nat.reduceLT, Nat.reduceMul, ↓reduceIte, reduceCtorEq, g31, pf31, b31, h1, h3, this]
    · have : okM m = false := by
        simp only [okM, Bool.and_eq_false_iff, decide_eq_false_iff_not]; left; omega
      simp (maxSteps := 1000000) (disch := first | assumption | ((try simp only [LEN, LEN2]); omega)) only [push_cast, Int.reduceToNat, Int.reduceEq, Int.reduceNe, Int.reduceLT, Int.reduceLE, Int.reduceAdd, Int.reduceSub, Int.reduceMul, Int.reduceNeg, Nat.reduceEqDiff, Nat.reduceBEq, Nat.reduceBNe, Nat.reduceAdd, Nat.reduceLeDiff, Nat.reduceLT, Nat.reduceMul, ↓reduceIte, reduceCtorEq, g31, pf31, b31, h1, h3, this]
theorem f31c {m : Map} (hm : smM m) {g : VG} {F : Fn} {lk : Bool} {e : Env} {dst : Option Nat} {ops : List Ins} {keep : Option (List Nat)} {K : List Fr} : CallC G g F 31 [.one (.d (.sl (m.map eMp)))] lk e dst ops keep K = ThenL G g F (if lk && !(T.noSl (.bool (okM m))) then none else e.put g.un dst (.bool (okM m))) ops keep K := callC_eq (f31 hm)
attribute [push_cast] f31c
end Go.Mir.Tryz

set_option linter.unusedVariables false
set_option linter.unusedSimpArgs false
set_option maxRecDepth 100000
namespace Go.Mir.Tryz
open Go.Proofs Go.Mir.Q
theorem imageF_snoc (l : List Row) : ∀ (m : Map) (t : Nat), imageF t (m ++ [l]) = imageF t m ++ l.map (wrRow (t + m.length))
  | [], t => by simp [imageF]
  | x :: m, t => by
    have := imageF_snoc l m (t + 1)
    simp only [List.cons_append, imageF, this, List.append_assoc, List.length_cons]
    rw [show t + 1 + m.length = t + (m.length + 1) by omega]
theorem image_len : ∀ {m : Map} {t : Nat}, (∀ l ∈ m, l.length ≤ 1048576) → (imageF t m).length ≤ m.length * 1048576
  | [], t, _ => by simp [imageF]
  | l :: m, t, h => by
    have h1 := h l (by simp)
    have h2 := image_len (m := m) (t := t + 1) fun x hx => h x (List.mem_cons_of_mem _ hx)
    simp only [imageF, List.length_append, List.length_map, List.length_cons]
    omega
theorem oW_wrRow (i : Nat) (x : Row) : oW (wrRow i x) = [.d (.sc (.int .i64 i)), .d (.sc (.string (bs x.Key))), .d (.sc (.string (bs x.Value))), .d (.sc (.bool false))] := rfl
set_option maxHeartbeats 2000000 in
theorem f32 {m : Map} (hm : smM m) : Fun G 32 [.one (.d (.sl (m.map eMp)))] (.one (.own 78 ((image m).map oW)), []) := by
  refine Fun.of_run (g := g32) (pf := pf32) rfl rfl rfl rfl ?_
  obtain ⟨hm, hm2⟩ := hm
  simp (maxSteps := 1000000) (disch := first | assumption | ((try simp only [LEN, LEN2]); omega)) only [push_cast, Int.reduceToNat, Int.reduceEq, Int.reduceNe, Int.reduceLT, Int.reduceLE, Int.reduceAdd, Int.reduceSub, Int.reduceMul, Int.reduceNeg, Nat.reduceEqDiff, Nat.reduceBEq, Nat.reduceBNe, Nat.reduceAdd, Nat.reduceLeDiff, Nat.reduceLT, Nat.reduceMul, ↓reduceIte, reduceCtorEq, g32, pf32, b32]
  refine run_loop' (fun i : Nat => [(0, T.one (.d (.sl (m.map eMp)))), (3, T.one (.own 78 ((image (m.take i)).map oW))), (4, T.int .i64 i)]) (fun i => i ≤ m.length) (fun i => m.length - i) 0 rfl (Nat.zero_le _) (fun i hi => ?_)
  by_cases h1 : (i : Int) < m.length
  · have hi' : i < m.length := by omega
    obtain ⟨hl1, hl2⟩ := hm2 m[i] (List.getElem_mem hi')
    obtain ⟨l, hl0⟩ : ∃ l, l = m[i] := ⟨_, rfl⟩
    rw [← hl0] at hl1 hl2
    have hil := image_len (m := m.take i) (t := 0) fun x hx => (hm2 x (List.mem_of_mem_take hx)).1
    rw [List.length_take, Nat.min_eq_left hi] at hil
    have hil2 : (image (m.take i)).length ≤ 1099511627776 := by simp only [image]; omega
    simp (maxSteps := 1000000) (disch := first | assumption | ((try simp only [LEN, LEN2]); omega)) only [push_cast, Int.reduceToNat, Int.reduceEq, Int.reduceNe, Int.reduceLT, Int.reduceLE, Int.reduceAdd, Int.reduceSub, Int.reduceMul, Int.reduceNeg, Nat.reduceEqDiff, Nat.reduceBEq, Nat.reduceBNe, Nat.reduceAdd, Nat.reduceLeDiff, Nat.reduceLT, Nat.reduceMul, ↓reduceIte, reduceCtorEq, g32, pf32, b32, h1]
    refine run_loop' (fun k : Nat => [(0, T.one (.d (.sl (m.map eMp)))), (3, T.one (.own 78 ((image (m.take i) ++ (l.take k).map (wrRow i)).map oW))), (4, T.int .i64 i), (5, T.int .i64 k)]) (fun k => k ≤ l.length) (fun k => l.length - k) 0 (by simp) (Nat.zero_le _) (fun k hk => ?_)
    by_cases h : (k : Int) < l.length
    · have hk' : k < l.length := by omega
      simp (maxSteps := 1000000) (disch := first | assumption | ((try simp only [LEN, LEN2]); omega)) only [push_cast, Int.reduceToNat, Int.reduceEq, Int.reduceNe, Int.reduceLT, Int.reduceLE, Int.reduceAdd, Int.reduceSub, Int.reduceMul, Int.reduceNeg, Nat.reduceEqDiff, Nat.reduceBEq, Nat.reduceBNe, Nat.reduceAdd, Nat.reduceLeDiff, Nat.reduceLT, Nat.reduceMul, ↓reduceIte, reduceCtorEq, g32, pf32, b32, h, eMp, eRow, ← hl0]
      refine ⟨k + 1, ?_, by omega, by omega⟩
      rw [List.take_succ_eq_append_getElem hk']
      simp only [List.map_append, List.map_cons, List.map_nil, oW_wrRow, List.append_assoc, Int.natCast_add, Int.cast_ofNat_Int]
    · obtain rfl : k = l.length := by omega
      simp (maxSteps := 1000000) (disch := first | assumption | ((try simp only [LEN, LEN2]); omega)) only [push_cast, Int.reduceToNat, Int.reduceEq, Int.reduceNe, Int.reduceLT, Int.reduceLE, Int.reduceAdd, Int.reduceSub, Int.reduceMul, Int.reduceNeg, Nat.reduceEqDiff, Nat.reduceBEq, Nat.reduceBNe, Nat.reduceAdd, Nat.reduceLeDiff, Nat.reduceLT, Nat.reduceMul, ↓reduceIte, reduceCtorEq, g32, pf32, b32, h, eMp, ← hl0]
      refine ⟨i + 1, ?_, by omega, by omega⟩
      have : image (m.take (i + 1)) = image (m.take i) ++ l.map (wrRow i) := by
        rw [List.take_succ_eq_append_getElem hi', ← hl0, image, imageF_snoc, List.length_take, Nat.zero_add, Nat.min_eq_left (by omega)]; rfl
      rw [this, List.take_length]
      simp
  · obtain rfl : i = m.length := by omega
    simp (maxSteps := 1000000) (disch := first | assumption | ((try simp only [LEN, LEN2]); omega)) only [push_cast, Int.reduceToNat, Int.reduceEq, Int.reduceNe, Int.reduceLT, Int.reduceLE, Int.reduceAdd, Int.reduceSub, Int.reduceMul, Int.reduceNeg, Nat.reduceEqDiff, Nat.reduceBEq, Nat.reduceBNe, Nat.reduceAdd, Nat.reduceLeDiff, Nat.reduceLT, Nat.reduceMul, ↓reduceIte, reduceCtorEq, g32, pf32, b32, h1]
    simp
theorem f32c {m : Map} (hm : smM m) {g : VG} {F : Fn} {lk : Bool} {e : Env} {dst : Option Nat} {ops : List Ins} {keep : Option (List Nat)} {K : List Fr} : CallC G g F 32 [.one (.d (.sl (m.map eMp)))] lk e dst ops keep K = ThenL G g F (if lk && !(T.noSl (.one (.own 78 ((image m).map oW)))) then none else e.put g.un dst (.one (.own 78 ((image m).map oW)))) ops keep K := callC_eq (f32 hm)
attribute [push_cast] f32c
set_option maxHeartbeats 2000000 in
theorem f87 {m : Map} (hm : smM m) : Fun G 87 [.one (.d (.sl (m.map eMp)))] (.vs true [.d (.sc (.int .i64 1)), .own 78 ((image m).map oW)], []) := by
  refine Fun.of_run (g := g87) (pf := pf87) rfl rfl rfl rfl ?_
  obtain ⟨hm, hm2⟩ := hm
  simp (maxSteps := 1000000) (disch := first | assumption | ((try simp only [LEN, LEN2]); omega)) only [push_cast, Int.reduceToNat, Int.reduceEq, Int.reduceNe, Int.reduceLT, Int.reduceLE, Int.reduceAdd, Int.reduceSub, Int.reduceMul, Int.reduceNeg, Nat.reduceEqDiff, Nat.reduceBEq, Nat.reduceBNe, Nat.reduceAdd, Nat.reduceLeDiff, Nat.reduceLT, Nat.reduceMul, ↓reduceIte, reduceCtorEq, g87, pf87, b87]
  refine run_loop' (fun i : Nat => [(2, T.one (.box [.d (.sc (.int .i64 0)), .own 78 []])), (3, T.one (.box [.d (.sc (.int .i64 1)), .own 78 ((image (m.take i)).map oW)])), (9, T.one (.d (.sl (m.map eMp)))), (10, T.int .i64 m.length), (11, T.int .i64 i)]) (fun i => i ≤ m.length) (fun i => m.length - i) 0 rfl (Nat.zero_le _) (fun i hi => ?_)
  by_cases h1 : (i : Int) < m.length
  · have hi' : i < m.length := by omega
    obtain ⟨hl1, hl2⟩ := hm2 m[i] (List.getElem_mem hi')
    obtain ⟨l, hl0⟩ : ∃ l, l = m[i] := ⟨_, rfl⟩
    rw [← hl0] at hl1 hl2
    have hil := image_len (m := m.take i) (t := 0) fun x hx => (hm2 x (List.mem_of_mem_take hx)).1
    rw [List.length_take, Nat.min_eq_left hi] at hil
    have hil2 : (image (m.take i)).length ≤ 1099511627776 := by simp only [image]; omega
    simp (maxSteps := 1000000) (disch := first | assumption | ((try simp only [LEN, LEN2]); omega)) only [push_cast, Int.reduceToNat, Int.reduceEq, Int.reduceNe, Int.reduceLT, Int.reduceLE, Int.reduceAdd, Int.reduceSub, Int.reduceMul, Int.reduceNeg, Nat.reduceEqDiff, Nat.reduceBEq, Nat.reduceBNe, Nat.reduceAdd, Nat.reduceLeDiff, Nat.reduceLT, Nat.reduceMul, ↓reduceIte, reduceCtorEq, g87, pf87, b87, h1, eMp, ← hl0]
    refine run_loop' (fun k : Nat => [(2, T.one (.box [.d (.sc (.int .i64 0)), .own 78 []])), (3, T.one (.box [.d (.sc (.int .i64 1)), .own 78 ((image (m.take i) ++ (l.take k).map (wrRow i)).map oW)])), (4, T.int .i64 i), (5, T.one (.d (.sl (l.map eRow)))), (9, T.one (.d (.sl (m.map eMp)))), (10, T.int .i64 m.length), (11, T.int .i64 i), (16, T.one (.d (.sl (l.map eRow)))), (17, T.int .i64 l.length), (18, T.int .i64 k)]) (fun k => k ≤ l.length) (fun k => l.length - k) 0 (by simp) (Nat.zero_le _) (fun k hk => ?_)
    by_cases h : (k : Int) < l.length
    · have hk' : k < l.length := by omega
      simp (maxSteps := 1000000) (disch := first | assumption | ((try simp only [LEN, LEN2]); omega)) only [push_cast, Int.reduceToNat, Int.reduceEq, Int.reduceNe, Int.reduceLT, Int.reduceLE, Int.reduceAdd, Int.reduceSub, Int.reduceMul, Int.reduceNeg, Nat.reduceEqDiff, Nat.reduceBEq, Nat.reduceBNe, Nat.reduceAdd, Nat.reduceLeDiff, Nat.reduceLT, Nat.reduceMul, ↓reduceIte, reduceCtorEq, g87, pf87, b87, h, eRow]
      refine ⟨k + 1, ?_, by omega, by omega⟩
      rw [List.take_succ_eq_append_getElem hk']
      simp only [List.map_append, List.map_cons, List.map_nil, oW_wrRow, List.append_assoc, Int.natCast_add, Int.cast_ofNat_Int]
    · obtain rfl : k = l.length := by omega
      simp (maxSteps := 1000000) (disch := first | assumption | ((try simp only [LEN, LEN2]); omega)) only [push_cast, Int.reduceToNat, Int.reduceEq, Int.reduceNe, Int.reduceLT, Int.reduceLE, Int.reduceAdd, Int.reduceSub, Int.reduceMul, Int.reduceNeg, Nat.reduceEqDiff, Nat.reduceBEq, Nat.reduceBNe, Nat.reduceAdd, Nat.reduceLeDiff, Nat.reduceLT, Nat.reduceMul, ↓reduceIte, reduceCtorEq, g87, pf87, b87, h]
      refine ⟨i + 1, ?_, by omega, by omega⟩
      have : image (m.take (i + 1)) = image (m.take i) ++ l.map (wrRow i) := by
        rw [List.take_succ_eq_append_getElem hi', ← hl0, image, imageF_snoc, List.length_take, Nat.zero_add, Nat.min_eq_left (by omega)]; rfl
      rw [this, List.take_length]
      simp
  · obtain rfl : i = m.length := by omega
    simp (maxSteps := 1000000) (disch := first | assumption | ((try simp only [LEN, LEN2]); omega)) only [push_cast, Int.reduceToNat, Int.reduceEq, Int.reduceNe, Int.reduceLT, Int.reduceLE, Int.reduceAdd, Int.reduceSub, Int.reduceMul, Int.reduceNeg, Nat.reduceEqDiff, Nat.reduceBEq, Nat.reduceBNe, Nat.reduceAdd, Nat.reduceLeDiff, Nat.reduceLT, Nat.reduceMul, ↓reduceIte, reduceCtorEq, g87, pf87, b87, h1]
    simp
theorem f87c {m : Map} (hm : smM m) {g : VG} {F : Fn} {lk : Bool} {e : Env} {dst : Option Nat} {ops : List Ins} {keep : Option (List Nat)} {K : List Fr} : CallC G g F 87 [.one (.d (.sl (m.map eMp)))] lk e dst ops keep K = ThenL G g F (if lk && !(T.noSl (.vs true [.d (.sc (.int .i64 1)), .own 78 ((image m).map oW)])) then none else e.put g.un dst (.vs true [.d (.sc (.int .i64 1)), .own 78 ((image m).map oW)])) ops keep K := callC_eq (f87 hm)
attribute [push_cast] f87c
set_option maxHeartbeats 2000000 in
theorem f8 {m : Map} (hm : smM m) : Fun G 8 [.one (.d (.sl (m.map eMp)))] (.bool (okM m && decide (1 ≤ m.length ∧ (image m).length ≤ 64)), []) := by
  refine Fun.of_run (g := g8) (pf := pf8) rfl rfl rfl rfl ?_
  cases hok : okM m with
  | false => simp (maxSteps := 1000000) (disch := first | assumption | ((try simp only [LEN, LEN2]); omega)) only [push_cast, Int.reduceToNat, Int.reduceEq, Int.reduceNe, Int.reduceLT, Int.reduceLE, Int.reduceAdd, Int.reduceSub, Int.reduceMul, Int.reduceNeg, Nat.reduceEqDiff, Nat.reduceBEq, Nat.reduceBNe, Nat.reduceAdd, Nat.reduceLeDiff, Nat.reduceLT, Nat.reduceMul, ↓reduceIte, reduceCtorEq, g8, pf8, b8, hok]
  | true =>
    have h3 : m.length ≤ 3 := by simp only [okM, Bool.and_eq_true, decide_eq_true_eq] at hok; exact hok.1
    have hil := image_len (m := m) (t := 0) fun l hl => (hm.2 l hl).1
    have hil2 : (image m).length ≤ 4194304 := by simp only [image]; omega
    by_cases h1 : (0 : Int) < m.length
    · by_cases h2 : ((image m).length : Int) ≤ 64
      · have e : decide (1 ≤ m.length ∧ (image m).length ≤ 64) = true := by simp; omega
        simp (maxSteps := 1000000) (disch := first | assumption | ((try simp only [LEN, LEN2]); omega)) only [push_cast, Int.reduceToNat, Int.reduceEq, Int.reduceNe, Int.reduceLT, Int.reduceLE, Int.reduceAdd, Int.reduceSub, Int.reduceMul, Int.reduceNeg, Nat.reduceEqDiff, Nat.reduceBEq, Nat.reduceBNe, Nat.reduceAdd, Nat.reduceLeDiff, Nat.reduceLT, Nat.reduceMul, ↓reduceIte, reduceCtorEq, g8, pf8, b8, hok, h1, h2, e]
      · have e : decide (1 ≤ m.length ∧ (image m).length ≤ 64) = false := by simp; omega
        simp (maxSteps := 1000000) (disch := first | assumption | ((try simp only [LEN, LEN2]); omega)) only [push_cast, Int.reduceToNat, Int.reduceEq, Int.reduceNe, Int.reduceLT, Int.reduceLE, Int.reduceAdd, Int.reduceSub, Int.reduceMul, Int.reduceNeg, Nat.reduceEqDiff, Nat.reduceBEq, Nat.reduceBNe, Nat.reduceAdd, Nat.reduceLeDiff, Nat.reduceLT, Nat.reduceMul, ↓reduceIte, reduceCtorEq, g8, pf8, b8, hok, h1, h2, e]
    · have e : decide (1 ≤ m.length ∧ (image m).length ≤ 64) = false := by simp; omega
      simp (maxSteps := 1000000) (disch := first | assumption | ((try simp only [LEN, LEN2]); omega)) only [push_cast, Int.reduceToNat, Int.reduceEq, Int.reduceNe, Int.reduceLT, Int.reduceLE, Int.reduceAdd, Int.reduceSub, Int.reduceMul, Int.reduceNeg, Nat.reduceEqDiff, Nat.reduceBEq, Nat.reduceBNe, Nat.reduceAdd, Nat.reduceLeDiff, Nat.reduceLT, Nat.reduceMul, ↓reduceIte, reduceCtorEq, g8, pf8, b8, hok, h1, e]
theorem f8c {m : Map} (hm : smM m) {g : VG} {F : Fn} {lk : Bool} {e : Env} {dst : Option Nat} {ops : List Ins} {keep : Option (List Nat)} {K : List Fr} : CallC G g F 8 [.one (.d (.sl (m.map eMp)))] lk e dst ops keep K = ThenL G g F (if lk && !(T.noSl (.bool (okM m && decide (1 ≤ m.length ∧ (image m).length ≤ 64)))) then none else e.put g.un dst (.bool (okM m && decide (1 ≤ m.length ∧ (image m).length ≤ 64)))) ops keep K := callC_eq (f8 hm)
attribute [push_cast] f8c
end Go.Mir.Tryz

set_option linter.unusedVariables false
set_option linter.unusedSimpArgs false
set_option maxRecDepth 100000
namespace Go.Mir.Tryz
open Go.Proofs Go.Mir.Q
set_option maxHeartbeats 2000000 in
theorem f57 {a b c d : Int}  : Fun G 57 [.vs true [.d (.sc (.int .i64 a)), .d (.sc (.int .i64 b)), .d (.sc (.int .i64 c)), .d (.sc (.int .i64 d))]] (.bool (okWal ⟨a, b, c, d⟩), []) := by
  refine Fun.of_run (g := g57) (pf := pf57) rfl rfl rfl rfl ?_
  by_cases h1 : 1 ≤ a
  · by_cases h2 : a < 1073741824
    · by_cases h3 : b = 0 ∨ b = 1
      · by_cases h5 : 255 ≤ c
        · by_cases h6 : c ≤ 512
          · by_cases h7 : 1 ≤ d
            · have e : okWal ⟨a, b, c, d⟩ = decide (d < 1073741824) := by simp [okWal, h1, h2, h3, h5, h6, h7]
              rcases h3 with h3 | h3 <;> subst h3 <;> simp (maxSteps := 1000000) (disch := first | assumption | ((try simp only [LEN, LEN2]); omega)) only [push_cast, Int.reduceToNat, Int.reduceEq, Int.reduceNe, Int.reduceLT, Int.reduceLE, Int.reduceAdd, Int.reduceSub, Int.reduceMul, Int.reduceNeg, Nat.reduceEqDiff, Nat.reduceBEq, Nat.reduceBNe, Nat.reduceAdd, Nat.reduceLeDiff, Nat.reduceLT, Nat.reduceMul, ↓reduceIte, reduceCtorEq, g57, pf57, b57, h1, h2, h5, h6, h7, e]
            · have e : okWal ⟨a, b, c, d⟩ = false := by simp [okWal, h7]
              rcases h3 with h3 | h3 <;> subst h3 <;> simp (maxSteps := 1000000) (disch := first | assumption | ((try simp only [LEN, LEN2]); omega)) only [push_cast, Int.reduceToNat, Int.reduceEq, Int.reduceNe, Int.reduceLT, Int.reduceLE, Int.reduceAdd, Int.reduceSub, Int.reduceMul, Int.reduceNeg, Nat.reduceEqDiff, Nat.reduceBEq, Nat.reduceBNe, Nat.reduceAdd, Nat.reduceLeDiff, Nat.reduceLT, Nat.reduceMul, ↓reduceIte, reduceCtorEq, g57, pf57, b57, h1, h2, h5, h6, h7, e]
          · have e : okWal ⟨a, b, c, d⟩ = false := by simp [okWal, h6]
            rcases h3 with h3 | h3 <;> subst h3 <;> simp (maxSteps := 1000000) (disch := first | assumption | ((try simp only [LEN, LEN2]); omega)) only [push_cast, Int.reduceToNat, Int.reduceEq, Int.reduceNe, Int.reduceLT, Int.reduceLE, Int.reduceAdd, Int.reduceSub, Int.reduceMul, Int.reduceNeg, Nat.reduceEqDiff, Nat.reduceBEq, Nat.reduceBNe, Nat.reduceAdd, Nat.reduceLeDiff, Nat.reduceLT, Nat.reduceMul, ↓reduceIte, reduceCtorEq, g57, pf57, b57, h1, h2, h5, h6, e]
        · have e : okWal ⟨a, b, c, d⟩ = false := by simp [okWal, h5]
          rcases h3 with h3 | h3 <;> subst h3 <;> simp (maxSteps := 1000000) (disch := first | assumption | ((try simp only [LEN, LEN2]); omega)) only [push_cast, Int.reduceToNat, Int.reduceEq, Int.reduceNe, Int.reduceLT, Int.reduceLE, Int.reduceAdd, Int.reduceSub, Int.reduceMul, Int.reduceNeg, Nat.reduceEqDiff, Nat.reduceBEq, Nat.reduceBNe, Nat.reduceAdd, Nat.reduceLeDiff, Nat.reduceLT, Nat.reduceMul, ↓reduceIte, reduceCtorEq, g57, pf57, b57, h1, h2, h5, e]
      · have e : okWal ⟨a, b, c, d⟩ = false := by simp [okWal, h3]
        obtain ⟨h3, h4⟩ := not_or.1 h3
        simp (maxSteps := 1000000) (disch := first | assumption | ((try simp only [LEN, LEN2]); omega)) only [push_cast, Int.reduceToNat, Int.reduceEq, Int.reduceNe, Int.reduceLT, Int.reduceLE, Int.reduceAdd, Int.reduceSub, Int.reduceMul, Int.reduceNeg, Nat.reduceEqDiff, Nat.reduceBEq, Nat.reduceBNe, Nat.reduceAdd, Nat.reduceLeDiff, Nat.reduceLT, Nat.reduceMul, ↓reduceIte, reduceCtorEq, g57, pf57, b57, h1, h2, h3, h4, e]
    · have e : okWal ⟨a, b, c, d⟩ = false := by simp [okWal, h2]
      simp (maxSteps := 1000000) (disch := first | assumption | ((try simp only [LEN, LEN2]); omega)) only [push_cast, Int.reduceToNat, Int.reduceEq, Int.reduceNe, Int.reduceLT, Int.reduceLE, Int.reduceAdd, Int.reduceSub, Int.reduceMul, Int.reduceNeg, Nat.reduceEqDiff, Nat.reduceBEq, Nat.reduceBNe, Nat.reduceAdd, Nat.reduceLeDiff, Nat.reduceLT, Nat.reduceMul, ↓reduceIte, reduceCtorEq, g57, pf57, b57, h1, h2, e]
  · have e : okWal ⟨a, b, c, d⟩ = false := by simp [okWal, h1]
    simp (maxSteps := 1000000) (disch := first | assumption | ((try simp only [LEN, LEN2]); omega)) only [push_cast, Int.reduceToNat, Int.reduceEq, Int.reduceNe, Int.reduceLT, Int.reduceLE, Int.reduceAdd, Int.reduceSub, Int.reduceMul, Int.reduceNeg, Nat.reduceEqDiff, Nat.reduceBEq, Nat.reduceBNe, Nat.reduceAdd, Nat.reduceLeDiff, Nat.reduceLT, Nat.reduceMul, ↓reduceIte, reduceCtorEq, g57, pf57, b57, h1, e]
theorem f57c {a b c d : Int}  {g : VG} {F : Fn} {lk : Bool} {e : Env} {dst : Option Nat} {ops : List Ins} {keep : Option (List Nat)} {K : List Fr} : CallC G g F 57 [.vs true [.d (.sc (.int .i64 a)), .d (.sc (.int .i64 b)), .d (.sc (.int .i64 c)), .d (.sc (.int .i64 d))]] lk e dst ops keep K = ThenL G g F (if lk && !(T.noSl (.bool (okWal ⟨a, b, c, d⟩))) then none else e.put g.un dst (.bool (okWal ⟨a, b, c, d⟩))) ops keep K := callC_eq (f57 )
attribute [push_cast] f57c
set_option maxHeartbeats 2000000 in
theorem f41 {s : Int}  : Fun G 41 [.int .i64 s] (.int .i64 (startS s), []) := by
  refine Fun.of_run (g := g41) (pf := pf41) rfl rfl rfl rfl ?_
  by_cases h : s = 0
  · simp (maxSteps := 1000000) (disch := first | assumption | ((try simp only [LEN, LEN2]); omega)) only [push_cast, Int.reduceToNat, Int.reduceEq, Int.reduceNe, Int.reduceLT, Int.reduceLE, Int.reduceAdd, Int.reduceSub, Int.reduceMul, Int.reduceNeg, Nat.reduceEqDiff, Nat.reduceBEq, Nat.reduceBNe, Nat.reduceAdd, Nat.reduceLeDiff, Nat.reduceLT, Nat.reduceMul, ↓reduceIte, reduceCtorEq, g41, pf41, b41, h]
    simp [startS]
  · simp (maxSteps := 1000000) (disch := first | assumption | ((try simp only [LEN, LEN2]); omega)) only [push_cast, Int.reduceToNat, Int.reduceEq, Int.reduceNe, Int.reduceLT, Int.reduceLE, Int.reduceAdd, Int.reduceSub, Int.reduceMul, Int.reduceNeg, Nat.reduceEqDiff, Nat.reduceBEq, Nat.reduceBNe, Nat.reduceAdd, Nat.reduceLeDiff, Nat.reduceLT, Nat.reduceMul, ↓reduceIte, reduceCtorEq, g41, pf41, b41, h]
    simp [startS, h]
theorem f41c {s : Int}  {g : VG} {F : Fn} {lk : Bool} {e : Env} {dst : Option Nat} {ops : List Ins} {keep : Option (List Nat)} {K : List Fr} : CallC G g F 41 [.int .i64 s] lk e dst ops keep K = ThenL G g F (if lk && !(T.noSl (.int .i64 (startS s))) then none else e.put g.un dst (.int .i64 (startS s))) ops keep K := callC_eq (f41 )
attribute [push_cast] f41c
theorem putsD_snoc (a : Nat) (l : List (List UInt8)) (s : List UInt8) : putsD a (l ++ [s]) = putsD a l ++ [⟨false, ⟨((a + l.length : Nat) : Int), s⟩⟩] := by
  simp [putsD, putsW_app, putsW]
set_option maxHeartbeats 2000000 in
theorem f65 {L : List Do} {a : Nat} {S : List (List UInt8)} (hL : L.length ≤ 1000000) (hS : S.length ≤ 1000000) (ha : a ≤ 1000000) : Fun G 65 [.one (.own 74 (L.map oDo)), .int .i64 a, .one (.d (.sl (S.map eS)))] (.one (.own 74 ((L ++ putsD a S).map oDo)), []) := by
  refine Fun.of_run (g := g65) (pf := pf65) rfl rfl rfl rfl ?_
  simp (maxSteps := 1000000) (disch := first | assumption | ((try simp only [LEN, LEN2]); omega)) only [push_cast, Int.reduceToNat, Int.reduceEq, Int.reduceNe, Int.reduceLT, Int.reduceLE, Int.reduceAdd, Int.reduceSub, Int.reduceMul, Int.reduceNeg, Nat.reduceEqDiff, Nat.reduceBEq, Nat.reduceBNe, Nat.reduceAdd, Nat.reduceLeDiff, Nat.reduceLT, Nat.reduceMul, ↓reduceIte, reduceCtorEq, g65, pf65, b65]
  refine run_loop' (fun i : Nat => [(0, T.one (.own 74 ((L ++ putsD a (S.take i)).map oDo))), (1, T.int .i64 a), (9, T.one (.d (.sl (S.map eS)))), (10, T.int .i64 S.length), (11, T.int .i64 i)]) (fun i => i ≤ S.length) (fun i => S.length - i) 0 (by simp [putsD, putsW]) (Nat.zero_le _) (fun i hi => ?_)
  have hpl := putsD_len (S.take i) a
  rw [List.length_take, Nat.min_eq_left hi] at hpl
  by_cases h : (i : Int) < S.length
  · have hi' : i < S.length := by omega
    simp (maxSteps := 1000000) (disch := first | assumption | ((try simp only [LEN, LEN2]); omega)) only [push_cast, Int.reduceToNat, Int.reduceEq, Int.reduceNe, Int.reduceLT, Int.reduceLE, Int.reduceAdd, Int.reduceSub, Int.reduceMul, Int.reduceNeg, Nat.reduceEqDiff, Nat.reduceBEq, Nat.reduceBNe, Nat.reduceAdd, Nat.reduceLeDiff, Nat.reduceLT, Nat.reduceMul, ↓reduceIte, reduceCtorEq, g65, pf65, b65, h, eS]
    refine ⟨i + 1, ?_, by omega, by omega⟩
    rw [List.take_succ_eq_append_getElem hi', putsD_snoc, List.length_take, Nat.min_eq_left hi]
    simp only [List.map_append, List.map_cons, List.map_nil, oDo, List.append_assoc, Int.natCast_add, Int.cast_ofNat_Int]
  · obtain rfl : i = S.length := by omega
    simp (maxSteps := 1000000) (disch := first | assumption | ((try simp only [LEN, LEN2]); omega)) only [push_cast, Int.reduceToNat, Int.reduceEq, Int.reduceNe, Int.reduceLT, Int.reduceLE, Int.reduceAdd, Int.reduceSub, Int.reduceMul, Int.reduceNeg, Nat.reduceEqDiff, Nat.reduceBEq, Nat.reduceBNe, Nat.reduceAdd, Nat.reduceLeDiff, Nat.reduceLT, Nat.reduceMul, ↓reduceIte, reduceCtorEq, g65, pf65, b65, h]
    simp
theorem f65t {L : List Do} {a : Nat} {S : List (List UInt8)} (hL : L.length ≤ 1000000) (hS : S.length ≤ 1000000) (ha : a ≤ 1000000) {g : VG} {F : Fn} {lk : Bool} {ags : List Arg} {e0 e1 : Env} {dst : Option Nat} {ops : List Ins} {keep : Option (List Nat)} {K : List Fr} : CallT G g F 65 [.one (.own 74 (L.map oDo)), .int .i64 a, .one (.d (.sl (S.map eS)))] lk ags e0 e1 dst ops keep K = RetT G g F (.one (.own 74 ((L ++ putsD a S).map oDo))) [] lk ags e0 e1 dst ops keep K := callT_eq (f65 hL hS ha)
attribute [push_cast] f65t
end Go.Mir.Tryz

set_option linter.unusedVariables false
set_option linter.unusedSimpArgs false
set_option maxRecDepth 100000
namespace Go.Mir.Tryz
open Go.Proofs Go.Mir.Q
abbrev layT (l : List Do) (w : Wal) (e : Int) : T := .tup [(false, [.own 74 (l.map oDo)]), (true, cWal w), (false, [.d (.sc (.int .i64 e))])]
def layR (run slot : Int) (m : Map) : List Do × Wal × Int :=
  if okM m = false then ([], ⟨0, 0, 0, 0⟩, 1) else if 1073741824 ≤ run then ([], ⟨0, 0, 0, 0⟩, 2) else
  if (image m).length ≤ 64 then (layD run slot m, ⟨run, slot, 255, 1⟩, 0) else ([], ⟨0, 0, 0, 0⟩, 5)
set_option maxHeartbeats 2000000 in
theorem f58 {run slot : Int} {m : Map} (hm : smM m) (hr : okN run) (hs : slot = 0 ∨ slot = 1) : Fun G 58 [.int .i64 run, .int .i64 slot, .one (.d (.sl (m.map eMp)))] (layT (layR run slot m).1 (layR run slot m).2.1 (layR run slot m).2.2, []) := by
  refine Fun.of_run (g := g58) (pf := pf58) rfl rfl rfl rfl ?_
  obtain ⟨hr1, hr2⟩ := hr
  cases hok : okM m with
  | false =>
    have e : layR run slot m = ([], ⟨0, 0, 0, 0⟩, 1) := by unfold layR; rw [if_pos hok]
    simp (maxSteps := 1000000) (disch := first | assumption | ((try simp only [LEN, LEN2]); omega)) only [push_cast, Int.reduceToNat, Int.reduceEq, Int.reduceNe, Int.reduceLT, Int.reduceLE, Int.reduceAdd, Int.reduceSub, Int.reduceMul, Int.reduceNeg, Nat.reduceEqDiff, Nat.reduceBEq, Nat.reduceBNe, Nat.reduceAdd, Nat.reduceLeDiff, Nat.reduceLT, Nat.reduceMul, ↓reduceIte, reduceCtorEq, g58, pf58, b58, hok, e]
    rfl
  | true =>
    by_cases h1 : 1073741824 ≤ run
    · have e : layR run slot m = ([], ⟨0, 0, 0, 0⟩, 2) := by unfold layR; rw [if_neg (by rw [hok]; simp), if_pos h1]
      simp (maxSteps := 1000000) (disch := first | assumption | ((try simp only [LEN, LEN2]); omega)) only [push_cast, Int.reduceToNat, Int.reduceEq, Int.reduceNe, Int.reduceLT, Int.reduceLE, Int.reduceAdd, Int.reduceSub, Int.reduceMul, Int.reduceNeg, Nat.reduceEqDiff, Nat.reduceBEq, Nat.reduceBNe, Nat.reduceAdd, Nat.reduceLeDiff, Nat.reduceLT, Nat.reduceMul, ↓reduceIte, reduceCtorEq, g58, pf58, b58, hok, h1, e]
      rfl
    · have h3 : m.length ≤ 3 := by have := hok; simp only [okM, Bool.and_eq_true, decide_eq_true_eq] at this; exact this.1
      have hil := image_len (m := m) (t := 0) fun l hl => (hm.2 l hl).1
      have hil2 : (image m).length ≤ 4194304 := by simp only [image]; omega
      by_cases h2 : (image m).length ≤ 64
      · have e : layR run slot m = (layD run slot m, ⟨run, slot, 255, 1⟩, 0) := by unfold layR; rw [if_neg (by rw [hok]; simp), if_neg h1, if_pos h2]
        have hR := image_okR hok h2
        have hc := okR_cnt hR
        have hsw := okR_smW hR
        simp only at hsw
        have hc1 := f64 (num' := 0) (run := run) hsw hR
        have hc2 := f64 (n := slot + 1) (run := 0) (num' := run) (l := []) ⟨by simp, by simp⟩ (okR_super hs)
        rw [cuts_super] at hc2
        obtain ⟨C, hC⟩ : ∃ C, C = cuts run 0 (spelt ⟨1, image m⟩) := ⟨_, rfl⟩
        have hCl : C.length ≤ 116 := by rw [hC, cuts_len]; exact hc
        rw [← hC] at hc1
        have hst := startS_le (slot := slot)
        have hp1 := f65 (L := []) (a := startS slot) (S := C) (by simp) (by omega) (by omega)
        have ef : layD run slot m = putsD (startS slot) C ++ syncD :: (putsD 0 [superS run slot] ++ [syncD]) := by rw [hC]; rfl
        have hpl := putsD_len C (startS slot)
        obtain ⟨P, hP⟩ : ∃ P, P = putsD (startS slot) C := ⟨_, rfl⟩
        simp only [List.map_nil, List.nil_append] at hp1
        rw [← hP] at hp1 ef hpl
        have hp2 := f65 (L := P ++ [syncD]) (a := 0) (S := [superS run slot]) (by simp; omega) (by simp) (by omega)
        simp only [push_cast, Int.reduceToNat, Int.reduceEq, Int.reduceNe, Int.reduceLT, Int.reduceLE, Int.reduceAdd, Int.reduceSub, Int.reduceMul, Int.reduceNeg, Nat.reduceEqDiff, Nat.reduceBEq, Nat.reduceBNe, Nat.reduceAdd, Nat.reduceLeDiff, Nat.reduceLT, Nat.reduceMul, ↓reduceIte, reduceCtorEq, oDo, syncD, eS, oS, putsD, putsW, Int.natCast_zero, List.map_append] at hc2 hp2
        have h127 : ¬ (127 : Int) < C.length := by omega
        simp (maxSteps := 1000000) (disch := first | assumption | ((try simp only [LEN, LEN2]); omega)) only [push_cast, Int.reduceToNat, Int.reduceEq, Int.reduceNe, Int.reduceLT, Int.reduceLE, Int.reduceAdd, Int.reduceSub, Int.reduceMul, Int.reduceNeg, Nat.reduceEqDiff, Nat.reduceBEq, Nat.reduceBNe, Nat.reduceAdd, Nat.reduceLeDiff, Nat.reduceLT, Nat.reduceMul, ↓reduceIte, reduceCtorEq, g58, pf58, b58, hok, h1, hR, h127, callC_eq hc1, callC_eq hc2, callT_eq hc1, callT_eq hc2, callT_eq hp1, callT_eq hp2, oDo, oS]
        rw [e, ef]
        simp [layT, oDo, syncD, putsD, putsW]
      · have e : layR run slot m = ([], ⟨0, 0, 0, 0⟩, 5) := by unfold layR; rw [if_neg (by rw [hok]; simp), if_neg h1, if_neg h2]
        have hR : okR ⟨1, image m⟩ = false := by
          simp only [okR, Bool.and_eq_false_iff, decide_eq_false_iff_not]; left; omega
        simp (maxSteps := 1000000) (disch := first | assumption | ((try simp only [LEN, LEN2]); omega)) only [push_cast, Int.reduceToNat, Int.reduceEq, Int.reduceNe, Int.reduceLT, Int.reduceLE, Int.reduceAdd, Int.reduceSub, Int.reduceMul, Int.reduceNeg, Nat.reduceEqDiff, Nat.reduceBEq, Nat.reduceBNe, Nat.reduceAdd, Nat.reduceLeDiff, Nat.reduceLT, Nat.reduceMul, ↓reduceIte, reduceCtorEq, g58, pf58, b58, hok, h1, hR, e]
        rfl
theorem f58c {run slot : Int} {m : Map} (hm : smM m) (hr : okN run) (hs : slot = 0 ∨ slot = 1) {g : VG} {F : Fn} {lk : Bool} {e : Env} {dst : Option Nat} {ops : List Ins} {keep : Option (List Nat)} {K : List Fr} : CallC G g F 58 [.int .i64 run, .int .i64 slot, .one (.d (.sl (m.map eMp)))] lk e dst ops keep K = ThenL G g F (if lk && !(T.noSl (layT (layR run slot m).1 (layR run slot m).2.1 (layR run slot m).2.2)) then none else e.put g.un dst (layT (layR run slot m).1 (layR run slot m).2.1 (layR run slot m).2.2)) ops keep K := callC_eq (f58 hm hr hs)
attribute [push_cast] f58c
end Go.Mir.Tryz

set_option linter.unusedVariables false
set_option linter.unusedSimpArgs false
set_option maxRecDepth 100000
namespace Go.Mir.Tryz
open Go.Proofs Go.Mir.Q
set_option maxHeartbeats 2000000 in
theorem f56 {m : Map} (hm : smM m) : Fun G 56 [.one (.d (.sl (m.map eMp)))] (layT (layR 1 0 m).1 (layR 1 0 m).2.1 (layR 1 0 m).2.2, []) := by
  refine Fun.of_run (g := g56) (pf := pf56) rfl rfl rfl rfl ?_
  have h := f58 (run := 1) (slot := 0) hm ⟨by omega, by omega⟩ (.inl rfl)
  simp only [layT] at h
  simp (maxSteps := 1000000) (disch := first | assumption | ((try simp only [LEN, LEN2]); omega)) only [push_cast, Int.reduceToNat, Int.reduceEq, Int.reduceNe, Int.reduceLT, Int.reduceLE, Int.reduceAdd, Int.reduceSub, Int.reduceMul, Int.reduceNeg, Nat.reduceEqDiff, Nat.reduceBEq, Nat.reduceBNe, Nat.reduceAdd, Nat.reduceLeDiff, Nat.reduceLT, Nat.reduceMul, ↓reduceIte, reduceCtorEq, g56, pf56, b56, callC_eq h, callT_eq h]
  try rfl
theorem f56c {m : Map} (hm : smM m) {g : VG} {F : Fn} {lk : Bool} {e : Env} {dst : Option Nat} {ops : List Ins} {keep : Option (List Nat)} {K : List Fr} : CallC G g F 56 [.one (.d (.sl (m.map eMp)))] lk e dst ops keep K = ThenL G g F (if lk && !(T.noSl (layT (layR 1 0 m).1 (layR 1 0 m).2.1 (layR 1 0 m).2.2)) then none else e.put g.un dst (layT (layR 1 0 m).1 (layR 1 0 m).2.1 (layR 1 0 m).2.2)) ops keep K := callC_eq (f56 hm)
attribute [push_cast] f56c
set_option maxHeartbeats 2000000 in
theorem f21 {w : Wal} {m : Map} (hm : smM m) (hr : okN w.Run) : Fun G 21 [.vs true (cWal w), .one (.d (.sl (m.map eMp)))] ((if okWal w = true then layT (layR (w.Run + 1) (1 - w.Slot) m).1 (layR (w.Run + 1) (1 - w.Slot) m).2.1 (layR (w.Run + 1) (1 - w.Slot) m).2.2 else layT [] ⟨0, 0, 0, 0⟩ 1), []) := by
  refine Fun.of_run (g := g21) (pf := pf21) rfl rfl rfl rfl ?_
  obtain ⟨a, b, c, d⟩ := w
  cases hok : okWal ⟨a, b, c, d⟩ with
  | false =>
    simp (maxSteps := 1000000) (disch := first | assumption | ((try simp only [LEN, LEN2]); omega)) only [push_cast, Int.reduceToNat, Int.reduceEq, Int.reduceNe, Int.reduceLT, Int.reduceLE, Int.reduceAdd, Int.reduceSub, Int.reduceMul, Int.reduceNeg, Nat.reduceEqDiff, Nat.reduceBEq, Nat.reduceBNe, Nat.reduceAdd, Nat.reduceLeDiff, Nat.reduceLT, Nat.reduceMul, ↓reduceIte, reduceCtorEq, g21, pf21, b21, hok]
    try rfl
  | true =>
    have hw := hok
    simp only [okWal, Bool.and_eq_true, decide_eq_true_eq] at hw
    have h := f58 (run := a + 1) (slot := 1 - b) hm ⟨by omega, by omega⟩ (by omega)
    simp only [layT] at h
    simp (maxSteps := 1000000) (disch := first | assumption | ((try simp only [LEN, LEN2]); omega)) only [push_cast, Int.reduceToNat, Int.reduceEq, Int.reduceNe, Int.reduceLT, Int.reduceLE, Int.reduceAdd, Int.reduceSub, Int.reduceMul, Int.reduceNeg, Nat.reduceEqDiff, Nat.reduceBEq, Nat.reduceBNe, Nat.reduceAdd, Nat.reduceLeDiff, Nat.reduceLT, Nat.reduceMul, ↓reduceIte, reduceCtorEq, g21, pf21, b21, hok, callC_eq h, callT_eq h]
    try rfl
theorem f21c {w : Wal} {m : Map} (hm : smM m) (hr : okN w.Run) {g : VG} {F : Fn} {lk : Bool} {e : Env} {dst : Option Nat} {ops : List Ins} {keep : Option (List Nat)} {K : List Fr} : CallC G g F 21 [.vs true (cWal w), .one (.d (.sl (m.map eMp)))] lk e dst ops keep K = ThenL G g F (if lk && !(T.noSl ((if okWal w = true then layT (layR (w.Run + 1) (1 - w.Slot) m).1 (layR (w.Run + 1) (1 - w.Slot) m).2.1 (layR (w.Run + 1) (1 - w.Slot) m).2.2 else layT [] ⟨0, 0, 0, 0⟩ 1))) then none else e.put g.un dst ((if okWal w = true then layT (layR (w.Run + 1) (1 - w.Slot) m).1 (layR (w.Run + 1) (1 - w.Slot) m).2.1 (layR (w.Run + 1) (1 - w.Slot) m).2.2 else layT [] ⟨0, 0, 0, 0⟩ 1))) ops keep K := callC_eq (f21 hm hr)
attribute [push_cast] f21c
def addR (w : Wal) (r : Record) : List Do × Wal × Int :=
  if okWal w = false ∨ okR r = false then ([], ⟨0, 0, 0, 0⟩, 1) else if 1073741824 ≤ w.Seq + 1 then ([], ⟨0, 0, 0, 0⟩, 2) else
  if 512 - w.At < (cnt (spelt r) : Nat) then ([], ⟨0, 0, 0, 0⟩, 5) else (putsD w.At.toNat (cuts w.Run w.Seq (spelt r)), ⟨w.Run, w.Slot, w.At + (cnt (spelt r) : Nat), w.Seq + 1⟩, 0)
set_option maxHeartbeats 2000000 in
theorem f26 {w : Wal} {n : Int} {l : List Write} (hs : smW l) : Fun G 26 [.vs true (cWal w), .vs true [.d (.sc (.int .i64 n)), .d (.sl (l.map eW))]] (layT (addR w ⟨n, l⟩).1 (addR w ⟨n, l⟩).2.1 (addR w ⟨n, l⟩).2.2, []) := by
  refine Fun.of_run (g := g26) (pf := pf26) rfl rfl rfl rfl ?_
  obtain ⟨a, b, c, d⟩ := w
  have hs1 := hs.1
  cases hok : okWal ⟨a, b, c, d⟩ with
  | false =>
    have e : addR ⟨a, b, c, d⟩ ⟨n, l⟩ = ([], ⟨0, 0, 0, 0⟩, 1) := by unfold addR; rw [if_pos (.inl hok)]
    simp (maxSteps := 1000000) (disch := first | assumption | ((try simp only [LEN, LEN2]); omega)) only [push_cast, Int.reduceToNat, Int.reduceEq, Int.reduceNe, Int.reduceLT, Int.reduceLE, Int.reduceAdd, Int.reduceSub, Int.reduceMul, Int.reduceNeg, Nat.reduceEqDiff, Nat.reduceBEq, Nat.reduceBNe, Nat.reduceAdd, Nat.reduceLeDiff, Nat.reduceLT, Nat.reduceMul, ↓reduceIte, reduceCtorEq, g26, pf26, b26, hok, e]
    try rfl
  | true =>
    cases hr : okR ⟨n, l⟩ with
    | false =>
      have e : addR ⟨a, b, c, d⟩ ⟨n, l⟩ = ([], ⟨0, 0, 0, 0⟩, 1) := by unfold addR; rw [if_pos (.inr hr)]
      simp (maxSteps := 1000000) (disch := first | assumption | ((try simp only [LEN, LEN2]); omega)) only [push_cast, Int.reduceToNat, Int.reduceEq, Int.reduceNe, Int.reduceLT, Int.reduceLE, Int.reduceAdd, Int.reduceSub, Int.reduceMul, Int.reduceNeg, Nat.reduceEqDiff, Nat.reduceBEq, Nat.reduceBNe, Nat.reduceAdd, Nat.reduceLeDiff, Nat.reduceLT, Nat.reduceMul, ↓reduceIte, reduceCtorEq, g26, pf26, b26, hok, hr, e]
      try rfl
    | true =>
      have hw := hok
      simp only [okWal, Bool.and_eq_true, decide_eq_true_eq] at hw
      have hn : ¬ (okWal ⟨a, b, c, d⟩ = false ∨ okR ⟨n, l⟩ = false) := by rw [hok, hr]; simp
      by_cases h1 : 1073741824 ≤ d + 1
      · have e : addR ⟨a, b, c, d⟩ ⟨n, l⟩ = ([], ⟨0, 0, 0, 0⟩, 2) := by unfold addR; rw [if_neg hn, if_pos h1]
        simp (maxSteps := 1000000) (disch := first | assumption | ((try simp only [LEN, LEN2]); omega)) only [push_cast, Int.reduceToNat, Int.reduceEq, Int.reduceNe, Int.reduceLT, Int.reduceLE, Int.reduceAdd, Int.reduceSub, Int.reduceMul, Int.reduceNeg, Nat.reduceEqDiff, Nat.reduceBEq, Nat.reduceBNe, Nat.reduceAdd, Nat.reduceLeDiff, Nat.reduceLT, Nat.reduceMul, ↓reduceIte, reduceCtorEq, g26, pf26, b26, hok, hr, h1, e]
        try rfl
      · have hc := okR_cnt hr
        have hcut := f64 (num' := d) (run := a) hs hr
        have hcl := cuts_len a d (spelt ⟨n, l⟩)
        have hgo : ∀ q, q = addR ⟨a, b, c, d⟩ ⟨n, l⟩ → q = addR ⟨a, b, c, d⟩ ⟨n, l⟩ := fun q h => h
        by_cases h2 : 512 - c < (cnt (spelt ⟨n, l⟩) : Nat)
        · have e : addR ⟨a, b, c, d⟩ ⟨n, l⟩ = ([], ⟨0, 0, 0, 0⟩, 5) := by unfold addR; rw [if_neg hn, if_neg h1, if_pos h2]
          simp (maxSteps := 1000000) (disch := first | assumption | ((try simp only [LEN, LEN2]); omega)) only [push_cast, Int.reduceToNat, Int.reduceEq, Int.reduceNe, Int.reduceLT, Int.reduceLE, Int.reduceAdd, Int.reduceSub, Int.reduceMul, Int.reduceNeg, Nat.reduceEqDiff, Nat.reduceBEq, Nat.reduceBNe, Nat.reduceAdd, Nat.reduceLeDiff, Nat.reduceLT, Nat.reduceMul, ↓reduceIte, reduceCtorEq, g26, pf26, b26, hok, hr, h1, hcl, h2, e]
          try rfl
        · have e : addR ⟨a, b, c, d⟩ ⟨n, l⟩ = (putsD c.toNat (cuts a d (spelt ⟨n, l⟩)), ⟨a, b, c + (cnt (spelt ⟨n, l⟩) : Nat), d + 1⟩, 0) := by unfold addR; rw [if_neg hn, if_neg h1, if_neg h2]
          have hp := f65 (L := []) (a := c.toNat) (S := cuts a d (spelt ⟨n, l⟩)) (by simp) (by omega) (by omega)
          rw [show ((c.toNat : Nat) : Int) = c by omega] at hp
          simp only [List.map_nil, List.nil_append] at hp
          simp (maxSteps := 1000000) (disch := first | assumption | ((try simp only [LEN, LEN2]); omega)) only [push_cast, Int.reduceToNat, Int.reduceEq, Int.reduceNe, Int.reduceLT, Int.reduceLE, Int.reduceAdd, Int.reduceSub, Int.reduceMul, Int.reduceNeg, Nat.reduceEqDiff, Nat.reduceBEq, Nat.reduceBNe, Nat.reduceAdd, Nat.reduceLeDiff, Nat.reduceLT, Nat.reduceMul, ↓reduceIte, reduceCtorEq, g26, pf26, b26, hok, hr, h1, hcl, h2, callT_eq hp, e]
          try rfl
theorem f26c {w : Wal} {n : Int} {l : List Write} (hs : smW l) {g : VG} {F : Fn} {lk : Bool} {e : Env} {dst : Option Nat} {ops : List Ins} {keep : Option (List Nat)} {K : List Fr} : CallC G g F 26 [.vs true (cWal w), .vs true [.d (.sc (.int .i64 n)), .d (.sl (l.map eW))]] lk e dst ops keep K = ThenL G g F (if lk && !(T.noSl (layT (addR w ⟨n, l⟩).1 (addR w ⟨n, l⟩).2.1 (addR w ⟨n, l⟩).2.2)) then none else e.put g.un dst (layT (addR w ⟨n, l⟩).1 (addR w ⟨n, l⟩).2.1 (addR w ⟨n, l⟩).2.2)) ops keep K := callC_eq (f26 hs)
attribute [push_cast] f26c
end Go.Mir.Tryz

set_option linter.unusedVariables false
set_option linter.unusedSimpArgs false
set_option maxRecDepth 100000
namespace Go.Mir.Tryz
open Go.Proofs Go.Mir.Q
def turnP (s : List UInt8) : Wal × Bool :=
  if runOf s < 1 ∨ 1073741824 ≤ runOf s then (⟨runOf s, 0, 0, 0⟩, false) else
  (⟨runOf s, (whole1 0 (runOf s) [s]).1.Commit - 1, 0, 0⟩, decide ((whole1 0 (runOf s) [s]).2 = 1 ∧ (whole1 0 (runOf s) [s]).1.Writes = [] ∧ ((whole1 0 (runOf s) [s]).1.Commit - 1 = 0 ∨ (whole1 0 (runOf s) [s]).1.Commit - 1 = 1)))
theorem turnP_eq (s : List UInt8) : turnT s = if (turnP s).2 = true then some ((turnP s).1.Run, (turnP s).1.Slot) else none := by
  unfold turnP
  by_cases h : runOf s < 1 ∨ 1073741824 ≤ runOf s
  · rw [if_pos h, turnT, if_neg (by omega)]; simp
  · rw [if_neg h, turn_eq (by omega) (by omega)]
    simp only [decide_eq_true_eq]
theorem runOf_pre {s : List UInt8} {i : Nat} (h : 4 + i < s.length) (hi : i < 4) : num (((s.drop 4).take (i + 1))) = num ((s.drop 4).take i) * 256 + (s[4 + i]).toNat := by
  rw [List.take_succ_eq_append_getElem (by rw [List.length_drop]; omega), num_snoc, List.getElem_drop]
theorem whole_bd {run n : Int} {L : List (List UInt8)} : ∀ {l : List (List UInt8)} {i : Nat} {b : List UInt8}, whole run n L l i b = (⟨0, []⟩, 0) ∨ okR (whole run n L l i b).1 = true
  | [], i, b => .inl rfl
  | s :: ss, i, b => by
    have ih := whole_bd (run := run) (n := n) (L := L) (l := ss) (i := i + 1) (b := b ++ (s.drop 12).take (s[11]?.getD 0).toNat)
    unfold whole
    split
    · exact .inl rfl
    · split
      · exact .inl rfl
      · split
        · exact ih
        · cases ht : take (b ++ (s.drop 12).take (s[11]?.getD 0).toNat) with
          | none => exact .inl rfl
          | some r =>
            simp only
            split
            · exact .inr (take_ok ht)
            · exact .inl rfl
theorem okR_commit {r : Record} (h : okR r = true) : 1 ≤ r.Commit ∧ r.Commit ≤ 1073741824 := by
  simp only [okR, Bool.and_eq_true, decide_eq_true_eq] at h
  omega
set_option maxHeartbeats 2000000 in
theorem f40 {s : List UInt8} (hs : s.length = 32) : Fun G 40 [.str (bs s)] (.tup [(true, cWal (turnP s).1), (false, [.d (.sc (.bool (turnP s).2))])], []) := by
  refine Fun.of_run (g := g40) (pf := pf40) rfl rfl rfl rfl ?_
  simp (maxSteps := 1000000) (disch := first | assumption | ((try simp only [LEN, LEN2]); omega)) only [push_cast, Int.reduceToNat, Int.reduceEq, Int.reduceNe, Int.reduceLT, Int.reduceLE, Int.reduceAdd, Int.reduceSub, Int.reduceMul, Int.reduceNeg, Nat.reduceEqDiff, Nat.reduceBEq, Nat.reduceBNe, Nat.reduceAdd, Nat.reduceLeDiff, Nat.reduceLT, Nat.reduceMul, ↓reduceIte, reduceCtorEq, g40, pf40, b40]
  refine run_loop' (fun i : Nat => [(0, T.str (bs s)), (2, T.one (.box [.d (.sc (.int .i64 (num ((s.drop 4).take i)))), .d (.sc (.int .i64 0)), .d (.sc (.int .i64 0)), .d (.sc (.int .i64 0))])), (7, T.int .i64 i)]) (fun i => i ≤ 4) (fun i => 4 - i) 0 rfl (by omega) (fun i hi => ?_)
  have hb := num_bd6 ((s.drop 4).take i) (by rw [List.length_take]; omega)
  by_cases h : (i : Int) < 4
  · have hi' : i < 4 := by omega
    have h2 := runOf_pre (s := s) (i := i) (by omega) hi'
    obtain ⟨n, hn⟩ : ∃ n, n = num ((s.drop 4).take i) := ⟨_, rfl⟩
    rw [← hn] at hb h2
    have e := or_byte (a := n) (b := (s[4 + i]'(by omega)).toNat) hb.1 (by omega) (by omega) (by have := (s[4 + i]'(by omega)).toNat_lt; omega)
    have e4 : (4 + (i : Int)).toNat = 4 + i := by omega
    simp (maxSteps := 1000000) (disch := first | assumption | ((try simp only [LEN, LEN2]); omega)) only [push_cast, Int.reduceToNat, Int.reduceEq, Int.reduceNe, Int.reduceLT, Int.reduceLE, Int.reduceAdd, Int.reduceSub, Int.reduceMul, Int.reduceNeg, Nat.reduceEqDiff, Nat.reduceBEq, Nat.reduceBNe, Nat.reduceAdd, Nat.reduceLeDiff, Nat.reduceLT, Nat.reduceMul, ↓reduceIte, reduceCtorEq, g40, pf40, b40, h, ← hn, e, e4]
    refine ⟨i + 1, ?_, by omega, by omega⟩
    rw [h2]
    simp
  · obtain rfl : i = 4 := by omega
    have e : num ((s.drop 4).take 4) = runOf s := rfl
    rw [e] at hb
    unfold turnP
    obtain ⟨n, hn⟩ : ∃ n, n = runOf s := ⟨_, rfl⟩
    rw [e]
    rw [← hn] at hb ⊢
    by_cases h1 : n < 1
    · simp (maxSteps := 1000000) (disch := first | assumption | ((try simp only [LEN, LEN2]); omega)) only [push_cast, Int.reduceToNat, Int.reduceEq, Int.reduceNe, Int.reduceLT, Int.reduceLE, Int.reduceAdd, Int.reduceSub, Int.reduceMul, Int.reduceNeg, Nat.reduceEqDiff, Nat.reduceBEq, Nat.reduceBNe, Nat.reduceAdd, Nat.reduceLeDiff, Nat.reduceLT, Nat.reduceMul, ↓reduceIte, reduceCtorEq, g40, pf40, b40, h1]
    · by_cases h2 : 1073741824 ≤ n
      · simp (maxSteps := 1000000) (disch := first | assumption | ((try simp only [LEN, LEN2]); omega)) only [push_cast, Int.reduceToNat, Int.reduceEq, Int.reduceNe, Int.reduceLT, Int.reduceLE, Int.reduceAdd, Int.reduceSub, Int.reduceMul, Int.reduceNeg, Nat.reduceEqDiff, Nat.reduceBEq, Nat.reduceBNe, Nat.reduceAdd, Nat.reduceLeDiff, Nat.reduceLT, Nat.reduceMul, ↓reduceIte, reduceCtorEq, g40, pf40, b40, h1, h2]
      · rw [if_neg (by omega)]
        have hw := f42 (run := 0) (nn := n) (L := [s]) (by simp)
        have hle := whole1_le 0 n [s]
        obtain ⟨⟨⟨c, ws⟩, k⟩, hW⟩ : ∃ x, whole1 0 n [s] = x := ⟨_, rfl⟩
        rw [hW] at hw hle ⊢
        have hcb : 0 ≤ c ∧ c ≤ 1073741824 := by
          rcases whole_bd (run := 0) (n := n) (L := [s]) (l := [s]) (i := 0) (b := []) with g | g
          · rw [show whole 0 n [s] [s] 0 [] = whole1 0 n [s] from rfl, hW] at g
            simp only [Prod.mk.injEq, Q.Record.mk.injEq] at g
            omega
          · rw [show whole 0 n [s] [s] 0 [] = whole1 0 n [s] from rfl, hW] at g
            have := okR_commit g
            simp only at this; omega
        simp only [push_cast, Int.reduceToNat, Int.reduceEq, Int.reduceNe, Int.reduceLT, Int.reduceLE, Int.reduceAdd, Int.reduceSub, Int.reduceMul, Int.reduceNeg, Nat.reduceEqDiff, Nat.reduceBEq, Nat.reduceBNe, Nat.reduceAdd, Nat.reduceLeDiff, Nat.reduceLT, Nat.reduceMul, ↓reduceIte, reduceCtorEq, eS] at hw hle
        by_cases hk : k = 1
        · subst hk
          by_cases hws : ws = []
          · subst hws
            by_cases h3 : c - 1 = 0
            · simp (maxSteps := 1000000) (disch := first | assumption | ((try simp only [LEN, LEN2]); omega)) only [push_cast, Int.reduceToNat, Int.reduceEq, Int.reduceNe, Int.reduceLT, Int.reduceLE, Int.reduceAdd, Int.reduceSub, Int.reduceMul, Int.reduceNeg, Nat.reduceEqDiff, Nat.reduceBEq, Nat.reduceBNe, Nat.reduceAdd, Nat.reduceLeDiff, Nat.reduceLT, Nat.reduceMul, ↓reduceIte, reduceCtorEq, g40, pf40, b40, h1, h2, callC_eq hw, h3, oW]
              done
            · by_cases h4 : c - 1 = 1
              · simp (maxSteps := 1000000) (disch := first | assumption | ((try simp only [LEN, LEN2]); omega)) only [push_cast, Int.reduceToNat, Int.reduceEq, Int.reduceNe, Int.reduceLT, Int.reduceLE, Int.reduceAdd, Int.reduceSub, Int.reduceMul, Int.reduceNeg, Nat.reduceEqDiff, Nat.reduceBEq, Nat.reduceBNe, Nat.reduceAdd, Nat.reduceLeDiff, Nat.reduceLT, Nat.reduceMul, ↓reduceIte, reduceCtorEq, g40, pf40, b40, h1, h2, callC_eq hw, h3, h4, oW]
                done
              · simp (maxSteps := 1000000) (disch := first | assumption | ((try simp only [LEN, LEN2]); omega)) only [push_cast, Int.reduceToNat, Int.reduceEq, Int.reduceNe, Int.reduceLT, Int.reduceLE, Int.reduceAdd, Int.reduceSub, Int.reduceMul, Int.reduceNeg, Nat.reduceEqDiff, Nat.reduceBEq, Nat.reduceBNe, Nat.reduceAdd, Nat.reduceLeDiff, Nat.reduceLT, Nat.reduceMul, ↓reduceIte, reduceCtorEq, g40, pf40, b40, h1, h2, callC_eq hw, h3, h4, oW]
                done
          · have h5 : ¬ (ws.length : Int) = 0 := fun hh => hws (List.length_eq_zero_iff.1 (by omega))
            simp (maxSteps := 1000000) (disch := first | assumption | ((try simp only [LEN, LEN2]); omega)) only [push_cast, Int.reduceToNat, Int.reduceEq, Int.reduceNe, Int.reduceLT, Int.reduceLE, Int.reduceAdd, Int.reduceSub, Int.reduceMul, Int.reduceNeg, Nat.reduceEqDiff, Nat.reduceBEq, Nat.reduceBNe, Nat.reduceAdd, Nat.reduceLeDiff, Nat.reduceLT, Nat.reduceMul, ↓reduceIte, reduceCtorEq, g40, pf40, b40, h1, h2, callC_eq hw, hws, h5]
            done
        · have h6 : ¬ (k : Int) = 1 := by omega
          simp (maxSteps := 1000000) (disch := first | assumption | ((try simp only [LEN, LEN2]); omega)) only [push_cast, Int.reduceToNat, Int.reduceEq, Int.reduceNe, Int.reduceLT, Int.reduceLE, Int.reduceAdd, Int.reduceSub, Int.reduceMul, Int.reduceNeg, Nat.reduceEqDiff, Nat.reduceBEq, Nat.reduceBNe, Nat.reduceAdd, Nat.reduceLeDiff, Nat.reduceLT, Nat.reduceMul, ↓reduceIte, reduceCtorEq, g40, pf40, b40, h1, h2, callC_eq hw, hk, h6]
          done
theorem f40c {s : List UInt8} (hs : s.length = 32) {g : VG} {F : Fn} {lk : Bool} {e : Env} {dst : Option Nat} {ops : List Ins} {keep : Option (List Nat)} {K : List Fr} : CallC G g F 40 [.str (bs s)] lk e dst ops keep K = ThenL G g F (if lk && !(T.noSl (.tup [(true, cWal (turnP s).1), (false, [.d (.sc (.bool (turnP s).2))])])) then none else e.put g.un dst (.tup [(true, cWal (turnP s).1), (false, [.d (.sc (.bool (turnP s).2))])])) ops keep K := callC_eq (f40 hs)
attribute [push_cast] f40c
end Go.Mir.Tryz
