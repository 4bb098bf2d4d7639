/- The law TapeCrashes: where the input's bulk is at most 1048576 the law answers true, and the input reads as it did. Part 4 of its proof. -/
import Derived.Test.YtnijfjppolamlaaMirTc3
import Derived.WalkKit
import Derived.ProofKit
import Derived.OpenShut
import Derived.JoinedCond
import Derived.Below
/- Walks: a tape's copies, comparisons, weights. -/
set_option linter.unusedVariables false
set_option linter.unusedSimpArgs false
set_option maxRecDepth 100000
namespace Go.Mir.Try
open Go.Proofs Go.Mir.Q

set_option maxHeartbeats 2000000 in
theorem f12 {l : List (List UInt8)} (hl : l.length ≤ 1000000000) : Fun G 12 [.one (.d (.sl (l.map eS)))] (.one (.own 9 (l.map oS)), []) := by
  refine Fun.of_run (g := g12) (pf := pf12) rfl rfl rfl rfl ?_
  simp (maxSteps := 1000000) (disch := first | assumption | ((try simp only [LEN, LEN2]); omega)) only [push_cast, Int.reduceToNat, Int.reduceEq, Int.reduceNe, Int.reduceLT, Int.reduceLE, Int.reduceAdd, Int.reduceSub, Int.reduceMul, Int.reduceNeg, Nat.reduceEqDiff, Nat.reduceBEq, Nat.reduceBNe, Nat.reduceAdd, Nat.reduceLeDiff, Nat.reduceLT, Nat.reduceMul, ↓reduceIte, reduceCtorEq, g12, pf12, b12]
  refine run_loop' (fun i : Nat => [(0, T.one (.d (.sl (l.map eS)))), (3, T.one (.own 9 ((l.take i).map oS))), (4, T.int .i64 i)]) (fun i => i ≤ l.length) (fun i => l.length - i) 0 rfl (Nat.zero_le _) (fun i hi => ?_)
  simp (maxSteps := 1000000) (disch := first | assumption | ((try simp only [LEN, LEN2]); omega)) only [push_cast, Int.reduceToNat, Int.reduceEq, Int.reduceNe, Int.reduceLT, Int.reduceLE, Int.reduceAdd, Int.reduceSub, Int.reduceMul, Int.reduceNeg, Nat.reduceEqDiff, Nat.reduceBEq, Nat.reduceBNe, Nat.reduceAdd, Nat.reduceLeDiff, Nat.reduceLT, Nat.reduceMul, ↓reduceIte, reduceCtorEq, g12, pf12, b12]
  refine If.dec (fun h => ?_) (fun h => ?_)
  · replace h : i < l.length := by omega
    simp (maxSteps := 1000000) (disch := first | assumption | ((try simp only [LEN, LEN2]); omega)) only [push_cast, Int.reduceToNat, Int.reduceEq, Int.reduceNe, Int.reduceLT, Int.reduceLE, Int.reduceAdd, Int.reduceSub, Int.reduceMul, Int.reduceNeg, Nat.reduceEqDiff, Nat.reduceBEq, Nat.reduceBNe, Nat.reduceAdd, Nat.reduceLeDiff, Nat.reduceLT, Nat.reduceMul, ↓reduceIte, reduceCtorEq, g12, pf12, b12, eS]
    refine ⟨i + 1, ?_, by omega, by omega⟩
    simp only [List.take_succ_eq_append_getElem h, List.map_append, List.map_cons, List.map_nil, oS, Int.natCast_add, Int.cast_ofNat_Int]
  · obtain rfl : i = l.length := by omega
    simp (maxSteps := 1000000) (disch := first | assumption | ((try simp only [LEN, LEN2]); omega)) only [push_cast, Int.reduceToNat, Int.reduceEq, Int.reduceNe, Int.reduceLT, Int.reduceLE, Int.reduceAdd, Int.reduceSub, Int.reduceMul, Int.reduceNeg, Nat.reduceEqDiff, Nat.reduceBEq, Nat.reduceBNe, Nat.reduceAdd, Nat.reduceLeDiff, Nat.reduceLT, Nat.reduceMul, ↓reduceIte, reduceCtorEq, g12, pf12, b12, eS]
    simp
theorem f12c {l : List (List UInt8)} (hl : l.length ≤ 1000000000) {g : VG} {F : Fn} {lk : Bool} {e : Env} {dst : Option Nat} {ops : List Ins} {keep : Option (List Nat)} {K : List Fr} : CallC G g F 12 [.one (.d (.sl (l.map eS)))] lk e dst ops keep K = ThenL G g F (if lk && !(T.noSl (.one (.own 9 (l.map oS)))) then none else e.put g.un dst (.one (.own 9 (l.map oS)))) ops keep K := callC_eq (f12 hl)
attribute [push_cast] f12c
set_option maxHeartbeats 2000000 in
theorem f65 {l : List (Put)} (hl : l.length ≤ 1000000000) : Fun G 65 [.one (.d (.sl (l.map eP)))] (.one (.own 64 (l.map oP)), []) := by
  refine Fun.of_run (g := g65) (pf := pf65) rfl rfl rfl rfl ?_
  simp (maxSteps := 1000000) (disch := first | assumption | ((try simp only [LEN, LEN2]); omega)) only [push_cast, Int.reduceToNat, Int.reduceEq, Int.reduceNe, Int.reduceLT, Int.reduceLE, Int.reduceAdd, Int.reduceSub, Int.reduceMul, Int.reduceNeg, Nat.reduceEqDiff, Nat.reduceBEq, Nat.reduceBNe, Nat.reduceAdd, Nat.reduceLeDiff, Nat.reduceLT, Nat.reduceMul, ↓reduceIte, reduceCtorEq, g65, pf65, b65]
  refine run_loop' (fun i : Nat => [(0, T.one (.d (.sl (l.map eP)))), (3, T.one (.own 64 ((l.take i).map oP))), (4, T.int .i64 i)]) (fun i => i ≤ l.length) (fun i => l.length - i) 0 rfl (Nat.zero_le _) (fun i hi => ?_)
  simp (maxSteps := 1000000) (disch := first | assumption | ((try simp only [LEN, LEN2]); omega)) only [push_cast, Int.reduceToNat, Int.reduceEq, Int.reduceNe, Int.reduceLT, Int.reduceLE, Int.reduceAdd, Int.reduceSub, Int.reduceMul, Int.reduceNeg, Nat.reduceEqDiff, Nat.reduceBEq, Nat.reduceBNe, Nat.reduceAdd, Nat.reduceLeDiff, Nat.reduceLT, Nat.reduceMul, ↓reduceIte, reduceCtorEq, g65, pf65, b65]
  refine If.dec (fun h => ?_) (fun h => ?_)
  · replace h : i < l.length := by omega
    simp (maxSteps := 1000000) (disch := first | assumption | ((try simp only [LEN, LEN2]); omega)) only [push_cast, Int.reduceToNat, Int.reduceEq, Int.reduceNe, Int.reduceLT, Int.reduceLE, Int.reduceAdd, Int.reduceSub, Int.reduceMul, Int.reduceNeg, Nat.reduceEqDiff, Nat.reduceBEq, Nat.reduceBNe, Nat.reduceAdd, Nat.reduceLeDiff, Nat.reduceLT, Nat.reduceMul, ↓reduceIte, reduceCtorEq, g65, pf65, b65, eP]
    refine ⟨i + 1, ?_, by omega, by omega⟩
    simp only [List.take_succ_eq_append_getElem h, List.map_append, List.map_cons, List.map_nil, oP, Int.natCast_add, Int.cast_ofNat_Int]
  · obtain rfl : i = l.length := by omega
    simp (maxSteps := 1000000) (disch := first | assumption | ((try simp only [LEN, LEN2]); omega)) only [push_cast, Int.reduceToNat, Int.reduceEq, Int.reduceNe, Int.reduceLT, Int.reduceLE, Int.reduceAdd, Int.reduceSub, Int.reduceMul, Int.reduceNeg, Nat.reduceEqDiff, Nat.reduceBEq, Nat.reduceBNe, Nat.reduceAdd, Nat.reduceLeDiff, Nat.reduceLT, Nat.reduceMul, ↓reduceIte, reduceCtorEq, g65, pf65, b65, eP]
    simp
theorem f65c {l : List (Put)} (hl : l.length ≤ 1000000000) {g : VG} {F : Fn} {lk : Bool} {e : Env} {dst : Option Nat} {ops : List Ins} {keep : Option (List Nat)} {K : List Fr} : CallC G g F 65 [.one (.d (.sl (l.map eP)))] lk e dst ops keep K = ThenL G g F (if lk && !(T.noSl (.one (.own 64 (l.map oP)))) then none else e.put g.un dst (.one (.own 64 (l.map oP)))) ops keep K := callC_eq (f65 hl)
attribute [push_cast] f65c
set_option maxHeartbeats 2000000 in
theorem f66 {l : List (Int)} (hl : l.length ≤ 1000000000) : Fun G 66 [.one (.d (.sl (l.map eN)))] (.one (.own 3 (l.map oN)), []) := by
  refine Fun.of_run (g := g66) (pf := pf66) rfl rfl rfl rfl ?_
  simp (maxSteps := 1000000) (disch := first | assumption | ((try simp only [LEN, LEN2]); omega)) only [push_cast, Int.reduceToNat, Int.reduceEq, Int.reduceNe, Int.reduceLT, Int.reduceLE, Int.reduceAdd, Int.reduceSub, Int.reduceMul, Int.reduceNeg, Nat.reduceEqDiff, Nat.reduceBEq, Nat.reduceBNe, Nat.reduceAdd, Nat.reduceLeDiff, Nat.reduceLT, Nat.reduceMul, ↓reduceIte, reduceCtorEq, g66, pf66, b66]
  refine run_loop' (fun i : Nat => [(0, T.one (.d (.sl (l.map eN)))), (3, T.one (.own 3 ((l.take i).map oN))), (4, T.int .i64 i)]) (fun i => i ≤ l.length) (fun i => l.length - i) 0 rfl (Nat.zero_le _) (fun i hi => ?_)
  simp (maxSteps := 1000000) (disch := first | assumption | ((try simp only [LEN, LEN2]); omega)) only [push_cast, Int.reduceToNat, Int.reduceEq, Int.reduceNe, Int.reduceLT, Int.reduceLE, Int.reduceAdd, Int.reduceSub, Int.reduceMul, Int.reduceNeg, Nat.reduceEqDiff, Nat.reduceBEq, Nat.reduceBNe, Nat.reduceAdd, Nat.reduceLeDiff, Nat.reduceLT, Nat.reduceMul, ↓reduceIte, reduceCtorEq, g66, pf66, b66]
  refine If.dec (fun h => ?_) (fun h => ?_)
  · replace h : i < l.length := by omega
    simp (maxSteps := 1000000) (disch := first | assumption | ((try simp only [LEN, LEN2]); omega)) only [push_cast, Int.reduceToNat, Int.reduceEq, Int.reduceNe, Int.reduceLT, Int.reduceLE, Int.reduceAdd, Int.reduceSub, Int.reduceMul, Int.reduceNeg, Nat.reduceEqDiff, Nat.reduceBEq, Nat.reduceBNe, Nat.reduceAdd, Nat.reduceLeDiff, Nat.reduceLT, Nat.reduceMul, ↓reduceIte, reduceCtorEq, g66, pf66, b66, eN]
    refine ⟨i + 1, ?_, by omega, by omega⟩
    simp only [List.take_succ_eq_append_getElem h, List.map_append, List.map_cons, List.map_nil, oN, Int.natCast_add, Int.cast_ofNat_Int]
  · obtain rfl : i = l.length := by omega
    simp (maxSteps := 1000000) (disch := first | assumption | ((try simp only [LEN, LEN2]); omega)) only [push_cast, Int.reduceToNat, Int.reduceEq, Int.reduceNe, Int.reduceLT, Int.reduceLE, Int.reduceAdd, Int.reduceSub, Int.reduceMul, Int.reduceNeg, Nat.reduceEqDiff, Nat.reduceBEq, Nat.reduceBNe, Nat.reduceAdd, Nat.reduceLeDiff, Nat.reduceLT, Nat.reduceMul, ↓reduceIte, reduceCtorEq, g66, pf66, b66, eN]
    simp
theorem f66c {l : List (Int)} (hl : l.length ≤ 1000000000) {g : VG} {F : Fn} {lk : Bool} {e : Env} {dst : Option Nat} {ops : List Ins} {keep : Option (List Nat)} {K : List Fr} : CallC G g F 66 [.one (.d (.sl (l.map eN)))] lk e dst ops keep K = ThenL G g F (if lk && !(T.noSl (.one (.own 3 (l.map oN)))) then none else e.put g.un dst (.one (.own 3 (l.map oN)))) ops keep K := callC_eq (f66 hl)
attribute [push_cast] f66c
set_option maxHeartbeats 2000000 in
theorem f71 {l : List (Do)} (hl : l.length ≤ 1000000000) : Fun G 71 [.one (.d (.sl (l.map eDo)))] (.one (.own 66 (l.map oDo)), []) := by
  refine Fun.of_run (g := g71) (pf := pf71) rfl rfl rfl rfl ?_
  simp (maxSteps := 1000000) (disch := first | assumption | ((try simp only [LEN, LEN2]); omega)) only [push_cast, Int.reduceToNat, Int.reduceEq, Int.reduceNe, Int.reduceLT, Int.reduceLE, Int.reduceAdd, Int.reduceSub, Int.reduceMul, Int.reduceNeg, Nat.reduceEqDiff, Nat.reduceBEq, Nat.reduceBNe, Nat.reduceAdd, Nat.reduceLeDiff, Nat.reduceLT, Nat.reduceMul, ↓reduceIte, reduceCtorEq, g71, pf71, b71]
  refine run_loop' (fun i : Nat => [(0, T.one (.d (.sl (l.map eDo)))), (3, T.one (.own 66 ((l.take i).map oDo))), (4, T.int .i64 i)]) (fun i => i ≤ l.length) (fun i => l.length - i) 0 rfl (Nat.zero_le _) (fun i hi => ?_)
  simp (maxSteps := 1000000) (disch := first | assumption | ((try simp only [LEN, LEN2]); omega)) only [push_cast, Int.reduceToNat, Int.reduceEq, Int.reduceNe, Int.reduceLT, Int.reduceLE, Int.reduceAdd, Int.reduceSub, Int.reduceMul, Int.reduceNeg, Nat.reduceEqDiff, Nat.reduceBEq, Nat.reduceBNe, Nat.reduceAdd, Nat.reduceLeDiff, Nat.reduceLT, Nat.reduceMul, ↓reduceIte, reduceCtorEq, g71, pf71, b71]
  refine If.dec (fun h => ?_) (fun h => ?_)
  · replace h : i < l.length := by omega
    simp (maxSteps := 1000000) (disch := first | assumption | ((try simp only [LEN, LEN2]); omega)) only [push_cast, Int.reduceToNat, Int.reduceEq, Int.reduceNe, Int.reduceLT, Int.reduceLE, Int.reduceAdd, Int.reduceSub, Int.reduceMul, Int.reduceNeg, Nat.reduceEqDiff, Nat.reduceBEq, Nat.reduceBNe, Nat.reduceAdd, Nat.reduceLeDiff, Nat.reduceLT, Nat.reduceMul, ↓reduceIte, reduceCtorEq, g71, pf71, b71, eDo]
    refine ⟨i + 1, ?_, by omega, by omega⟩
    simp only [List.take_succ_eq_append_getElem h, List.map_append, List.map_cons, List.map_nil, oDo, Int.natCast_add, Int.cast_ofNat_Int]
  · obtain rfl : i = l.length := by omega
    simp (maxSteps := 1000000) (disch := first | assumption | ((try simp only [LEN, LEN2]); omega)) only [push_cast, Int.reduceToNat, Int.reduceEq, Int.reduceNe, Int.reduceLT, Int.reduceLE, Int.reduceAdd, Int.reduceSub, Int.reduceMul, Int.reduceNeg, Nat.reduceEqDiff, Nat.reduceBEq, Nat.reduceBNe, Nat.reduceAdd, Nat.reduceLeDiff, Nat.reduceLT, Nat.reduceMul, ↓reduceIte, reduceCtorEq, g71, pf71, b71, eDo]
    simp
theorem f71c {l : List (Do)} (hl : l.length ≤ 1000000000) {g : VG} {F : Fn} {lk : Bool} {e : Env} {dst : Option Nat} {ops : List Ins} {keep : Option (List Nat)} {K : List Fr} : CallC G g F 71 [.one (.d (.sl (l.map eDo)))] lk e dst ops keep K = ThenL G g F (if lk && !(T.noSl (.one (.own 66 (l.map oDo)))) then none else e.put g.un dst (.one (.own 66 (l.map oDo)))) ops keep K := callC_eq (f71 hl)
attribute [push_cast] f71c
set_option maxHeartbeats 2000000 in
theorem f31 {a b : List (List UInt8)} (ha : a.length ≤ 1000000000) (hb : b.length ≤ 1000000000) : Fun G 31 [.one (.d (.sl (a.map eS))), .one (.d (.sl (b.map eS)))] (.bool (decide (a = b)), []) := by
  refine Fun.of_run (g := g31) (pf := pf31) rfl rfl rfl rfl ?_
  simp (maxSteps := 1000000) (disch := first | assumption | ((try simp only [LEN, LEN2]); omega)) only [push_cast, Int.reduceToNat, Int.reduceEq, Int.reduceNe, Int.reduceLT, Int.reduceLE, Int.reduceAdd, Int.reduceSub, Int.reduceMul, Int.reduceNeg, Nat.reduceEqDiff, Nat.reduceBEq, Nat.reduceBNe, Nat.reduceAdd, Nat.reduceLeDiff, Nat.reduceLT, Nat.reduceMul, ↓reduceIte, reduceCtorEq, g31, pf31, b31]
  refine If.dec (fun h => ?_) (fun h => ?_)
  · have : a ≠ b := fun e => h (by rw [e])
    simp (maxSteps := 1000000) (disch := first | assumption | ((try simp only [LEN, LEN2]); omega)) only [push_cast, Int.reduceToNat, Int.reduceEq, Int.reduceNe, Int.reduceLT, Int.reduceLE, Int.reduceAdd, Int.reduceSub, Int.reduceMul, Int.reduceNeg, Nat.reduceEqDiff, Nat.reduceBEq, Nat.reduceBNe, Nat.reduceAdd, Nat.reduceLeDiff, Nat.reduceLT, Nat.reduceMul, ↓reduceIte, reduceCtorEq, g31, pf31, b31]
    simp [this]
  simp (maxSteps := 1000000) (disch := first | assumption | ((try simp only [LEN, LEN2]); omega)) only [push_cast, Int.reduceToNat, Int.reduceEq, Int.reduceNe, Int.reduceLT, Int.reduceLE, Int.reduceAdd, Int.reduceSub, Int.reduceMul, Int.reduceNeg, Nat.reduceEqDiff, Nat.reduceBEq, Nat.reduceBNe, Nat.reduceAdd, Nat.reduceLeDiff, Nat.reduceLT, Nat.reduceMul, ↓reduceIte, reduceCtorEq, g31, pf31, b31]
  have hl : a.length = b.length := by omega
  refine run_loop' (fun i : Nat => [(0, T.one (.d (.sl (a.map eS)))), (1, T.one (.d (.sl (b.map eS)))), (5, T.int .i64 i)]) (fun i => i ≤ a.length ∧ a.take i = b.take i) (fun i => a.length - i) 0 rfl ⟨Nat.zero_le _, by simp⟩ (fun i hi => ?_)
  obtain ⟨hi, ht⟩ := hi
  simp (maxSteps := 1000000) (disch := first | assumption | ((try simp only [LEN, LEN2]); omega)) only [push_cast, Int.reduceToNat, Int.reduceEq, Int.reduceNe, Int.reduceLT, Int.reduceLE, Int.reduceAdd, Int.reduceSub, Int.reduceMul, Int.reduceNeg, Nat.reduceEqDiff, Nat.reduceBEq, Nat.reduceBNe, Nat.reduceAdd, Nat.reduceLeDiff, Nat.reduceLT, Nat.reduceMul, ↓reduceIte, reduceCtorEq, g31, pf31, b31]
  refine If.dec (fun h => ?_) (fun h => ?_)
  · replace h : i < a.length := by omega
    have h' : i < b.length := by omega
    simp (maxSteps := 1000000) (disch := first | assumption | ((try simp only [LEN, LEN2]); omega)) only [push_cast, Int.reduceToNat, Int.reduceEq, Int.reduceNe, Int.reduceLT, Int.reduceLE, Int.reduceAdd, Int.reduceSub, Int.reduceMul, Int.reduceNeg, Nat.reduceEqDiff, Nat.reduceBEq, Nat.reduceBNe, Nat.reduceAdd, Nat.reduceLeDiff, Nat.reduceLT, Nat.reduceMul, ↓reduceIte, reduceCtorEq, g31, pf31, b31, eS]
    by_cases he : a[i] = b[i]
    · simp (maxSteps := 1000000) (disch := first | assumption | ((try simp only [LEN, LEN2]); omega)) only [push_cast, Int.reduceToNat, Int.reduceEq, Int.reduceNe, Int.reduceLT, Int.reduceLE, Int.reduceAdd, Int.reduceSub, Int.reduceMul, Int.reduceNeg, Nat.reduceEqDiff, Nat.reduceBEq, Nat.reduceBNe, Nat.reduceAdd, Nat.reduceLeDiff, Nat.reduceLT, Nat.reduceMul, ↓reduceIte, reduceCtorEq, g31, pf31, b31, he]
      refine ⟨i + 1, rfl, ⟨by omega, ?_⟩, by omega⟩
      rw [List.take_succ_eq_append_getElem h, List.take_succ_eq_append_getElem h', ht, he]
    · have hne : a ≠ b := fun e => he (by subst e; rfl)
      simp (maxSteps := 1000000) (disch := first | assumption | ((try simp only [LEN, LEN2]); omega)) only [push_cast, Int.reduceToNat, Int.reduceEq, Int.reduceNe, Int.reduceLT, Int.reduceLE, Int.reduceAdd, Int.reduceSub, Int.reduceMul, Int.reduceNeg, Nat.reduceEqDiff, Nat.reduceBEq, Nat.reduceBNe, Nat.reduceAdd, Nat.reduceLeDiff, Nat.reduceLT, Nat.reduceMul, ↓reduceIte, reduceCtorEq, g31, pf31, b31, he]
      simp [hne]
  · obtain rfl : i = a.length := by omega
    have : a = b := by rw [List.take_length] at ht; rw [ht, hl, List.take_length]
    simp (maxSteps := 1000000) (disch := first | assumption | ((try simp only [LEN, LEN2]); omega)) only [push_cast, Int.reduceToNat, Int.reduceEq, Int.reduceNe, Int.reduceLT, Int.reduceLE, Int.reduceAdd, Int.reduceSub, Int.reduceMul, Int.reduceNeg, Nat.reduceEqDiff, Nat.reduceBEq, Nat.reduceBNe, Nat.reduceAdd, Nat.reduceLeDiff, Nat.reduceLT, Nat.reduceMul, ↓reduceIte, reduceCtorEq, g31, pf31, b31]
    simp [this]
theorem f31c {a b : List (List UInt8)} (ha : a.length ≤ 1000000000) (hb : b.length ≤ 1000000000) {g : VG} {F : Fn} {lk : Bool} {e : Env} {dst : Option Nat} {ops : List Ins} {keep : Option (List Nat)} {K : List Fr} : CallC G g F 31 [.one (.d (.sl (a.map eS))), .one (.d (.sl (b.map eS)))] lk e dst ops keep K = ThenL G g F (if lk && !(T.noSl (.bool (decide (a = b)))) then none else e.put g.un dst (.bool (decide (a = b)))) ops keep K := callC_eq (f31 ha hb)
attribute [push_cast] f31c
set_option maxHeartbeats 2000000 in
theorem f68 {a b : List (Int)} (ha : a.length ≤ 1000000000) (hb : b.length ≤ 1000000000) : Fun G 68 [.one (.d (.sl (a.map eN))), .one (.d (.sl (b.map eN)))] (.bool (decide (a = b)), []) := by
  refine Fun.of_run (g := g68) (pf := pf68) rfl rfl rfl rfl ?_
  simp (maxSteps := 1000000) (disch := first | assumption | ((try simp only [LEN, LEN2]); omega)) only [push_cast, Int.reduceToNat, Int.reduceEq, Int.reduceNe, Int.reduceLT, Int.reduceLE, Int.reduceAdd, Int.reduceSub, Int.reduceMul, Int.reduceNeg, Nat.reduceEqDiff, Nat.reduceBEq, Nat.reduceBNe, Nat.reduceAdd, Nat.reduceLeDiff, Nat.reduceLT, Nat.reduceMul, ↓reduceIte, reduceCtorEq, g68, pf68, b68]
  refine If.dec (fun h => ?_) (fun h => ?_)
  · have : a ≠ b := fun e => h (by rw [e])
    simp (maxSteps := 1000000) (disch := first | assumption | ((try simp only [LEN, LEN2]); omega)) only [push_cast, Int.reduceToNat, Int.reduceEq, Int.reduceNe, Int.reduceLT, Int.reduceLE, Int.reduceAdd, Int.reduceSub, Int.reduceMul, Int.reduceNeg, Nat.reduceEqDiff, Nat.reduceBEq, Nat.reduceBNe, Nat.reduceAdd, Nat.reduceLeDiff, Nat.reduceLT, Nat.reduceMul, ↓reduceIte, reduceCtorEq, g68, pf68, b68]
    simp [this]
  simp (maxSteps := 1000000) (disch := first | assumption | ((try simp only [LEN, LEN2]); omega)) only [push_cast, Int.reduceToNat, Int.reduceEq, Int.reduceNe, Int.reduceLT, Int.reduceLE, Int.reduceAdd, Int.reduceSub, Int.reduceMul, Int.reduceNeg, Nat.reduceEqDiff, Nat.reduceBEq, Nat.reduceBNe, Nat.reduceAdd, Nat.reduceLeDiff, Nat.reduceLT, Nat.reduceMul, ↓reduceIte, reduceCtorEq, g68, pf68, b68]
  have hl : a.length = b.length := by omega
  refine run_loop' (fun i : Nat => [(0, T.one (.d (.sl (a.map eN)))), (1, T.one (.d (.sl (b.map eN)))), (5, T.int .i64 i)]) (fun i => i ≤ a.length ∧ a.take i = b.take i) (fun i => a.length - i) 0 rfl ⟨Nat.zero_le _, by simp⟩ (fun i hi => ?_)
  obtain ⟨hi, ht⟩ := hi
  simp (maxSteps := 1000000) (disch := first | assumption | ((try simp only [LEN, LEN2]); omega)) only [push_cast, Int.reduceToNat, Int.reduceEq, Int.reduceNe, Int.reduceLT, Int.reduceLE, Int.reduceAdd, Int.reduceSub, Int.reduceMul, Int.reduceNeg, Nat.reduceEqDiff, Nat.reduceBEq, Nat.reduceBNe, Nat.reduceAdd, Nat.reduceLeDiff, Nat.reduceLT, Nat.reduceMul, ↓reduceIte, reduceCtorEq, g68, pf68, b68]
  refine If.dec (fun h => ?_) (fun h => ?_)
  · replace h : i < a.length := by omega
    have h' : i < b.length := by omega
    simp (maxSteps := 1000000) (disch := first | assumption | ((try simp only [LEN, LEN2]); omega)) only [push_cast, Int.reduceToNat, Int.reduceEq, Int.reduceNe, Int.reduceLT, Int.reduceLE, Int.reduceAdd, Int.reduceSub, Int.reduceMul, Int.reduceNeg, Nat.reduceEqDiff, Nat.reduceBEq, Nat.reduceBNe, Nat.reduceAdd, Nat.reduceLeDiff, Nat.reduceLT, Nat.reduceMul, ↓reduceIte, reduceCtorEq, g68, pf68, b68, eN]
    by_cases he : a[i] = b[i]
    · simp (maxSteps := 1000000) (disch := first | assumption | ((try simp only [LEN, LEN2]); omega)) only [push_cast, Int.reduceToNat, Int.reduceEq, Int.reduceNe, Int.reduceLT, Int.reduceLE, Int.reduceAdd, Int.reduceSub, Int.reduceMul, Int.reduceNeg, Nat.reduceEqDiff, Nat.reduceBEq, Nat.reduceBNe, Nat.reduceAdd, Nat.reduceLeDiff, Nat.reduceLT, Nat.reduceMul, ↓reduceIte, reduceCtorEq, g68, pf68, b68, he]
      refine ⟨i + 1, rfl, ⟨by omega, ?_⟩, by omega⟩
      rw [List.take_succ_eq_append_getElem h, List.take_succ_eq_append_getElem h', ht, he]
    · have hne : a ≠ b := fun e => he (by subst e; rfl)
      simp (maxSteps := 1000000) (disch := first | assumption | ((try simp only [LEN, LEN2]); omega)) only [push_cast, Int.reduceToNat, Int.reduceEq, Int.reduceNe, Int.reduceLT, Int.reduceLE, Int.reduceAdd, Int.reduceSub, Int.reduceMul, Int.reduceNeg, Nat.reduceEqDiff, Nat.reduceBEq, Nat.reduceBNe, Nat.reduceAdd, Nat.reduceLeDiff, Nat.reduceLT, Nat.reduceMul, ↓reduceIte, reduceCtorEq, g68, pf68, b68, he]
      simp [hne]
  · obtain rfl : i = a.length := by omega
    have : a = b := by rw [List.take_length] at ht; rw [ht, hl, List.take_length]
    simp (maxSteps := 1000000) (disch := first | assumption | ((try simp only [LEN, LEN2]); omega)) only [push_cast, Int.reduceToNat, Int.reduceEq, Int.reduceNe, Int.reduceLT, Int.reduceLE, Int.reduceAdd, Int.reduceSub, Int.reduceMul, Int.reduceNeg, Nat.reduceEqDiff, Nat.reduceBEq, Nat.reduceBNe, Nat.reduceAdd, Nat.reduceLeDiff, Nat.reduceLT, Nat.reduceMul, ↓reduceIte, reduceCtorEq, g68, pf68, b68]
    simp [this]
theorem f68c {a b : List (Int)} (ha : a.length ≤ 1000000000) (hb : b.length ≤ 1000000000) {g : VG} {F : Fn} {lk : Bool} {e : Env} {dst : Option Nat} {ops : List Ins} {keep : Option (List Nat)} {K : List Fr} : CallC G g F 68 [.one (.d (.sl (a.map eN))), .one (.d (.sl (b.map eN)))] lk e dst ops keep K = ThenL G g F (if lk && !(T.noSl (.bool (decide (a = b)))) then none else e.put g.un dst (.bool (decide (a = b)))) ops keep K := callC_eq (f68 ha hb)
attribute [push_cast] f68c
set_option maxHeartbeats 2000000 in
theorem f60 {a b : List (Put)} (ha : a.length ≤ 1000000000) (hb : b.length ≤ 1000000000) : Fun G 60 [.one (.d (.sl (a.map eP))), .one (.d (.sl (b.map eP)))] (.bool (decide (a = b)), []) := by
  refine Fun.of_run (g := g60) (pf := pf60) rfl rfl rfl rfl ?_
  simp (maxSteps := 1000000) (disch := first | assumption | ((try simp only [LEN, LEN2]); omega)) only [push_cast, Int.reduceToNat, Int.reduceEq, Int.reduceNe, Int.reduceLT, Int.reduceLE, Int.reduceAdd, Int.reduceSub, Int.reduceMul, Int.reduceNeg, Nat.reduceEqDiff, Nat.reduceBEq, Nat.reduceBNe, Nat.reduceAdd, Nat.reduceLeDiff, Nat.reduceLT, Nat.reduceMul, ↓reduceIte, reduceCtorEq, g60, pf60, b60]
  refine If.dec (fun h => ?_) (fun h => ?_)
  · have : a ≠ b := fun e => h (by rw [e])
    simp (maxSteps := 1000000) (disch := first | assumption | ((try simp only [LEN, LEN2]); omega)) only [push_cast, Int.reduceToNat, Int.reduceEq, Int.reduceNe, Int.reduceLT, Int.reduceLE, Int.reduceAdd, Int.reduceSub, Int.reduceMul, Int.reduceNeg, Nat.reduceEqDiff, Nat.reduceBEq, Nat.reduceBNe, Nat.reduceAdd, Nat.reduceLeDiff, Nat.reduceLT, Nat.reduceMul, ↓reduceIte, reduceCtorEq, g60, pf60, b60]
    simp [this]
  simp (maxSteps := 1000000) (disch := first | assumption | ((try simp only [LEN, LEN2]); omega)) only [push_cast, Int.reduceToNat, Int.reduceEq, Int.reduceNe, Int.reduceLT, Int.reduceLE, Int.reduceAdd, Int.reduceSub, Int.reduceMul, Int.reduceNeg, Nat.reduceEqDiff, Nat.reduceBEq, Nat.reduceBNe, Nat.reduceAdd, Nat.reduceLeDiff, Nat.reduceLT, Nat.reduceMul, ↓reduceIte, reduceCtorEq, g60, pf60, b60]
  have hl : a.length = b.length := by omega
  refine run_loop' (fun i : Nat => [(0, T.one (.d (.sl (a.map eP)))), (1, T.one (.d (.sl (b.map eP)))), (5, T.int .i64 i)]) (fun i => i ≤ a.length ∧ a.take i = b.take i) (fun i => a.length - i) 0 rfl ⟨Nat.zero_le _, by simp⟩ (fun i hi => ?_)
  obtain ⟨hi, ht⟩ := hi
  simp (maxSteps := 1000000) (disch := first | assumption | ((try simp only [LEN, LEN2]); omega)) only [push_cast, Int.reduceToNat, Int.reduceEq, Int.reduceNe, Int.reduceLT, Int.reduceLE, Int.reduceAdd, Int.reduceSub, Int.reduceMul, Int.reduceNeg, Nat.reduceEqDiff, Nat.reduceBEq, Nat.reduceBNe, Nat.reduceAdd, Nat.reduceLeDiff, Nat.reduceLT, Nat.reduceMul, ↓reduceIte, reduceCtorEq, g60, pf60, b60]
  refine If.dec (fun h => ?_) (fun h => ?_)
  · replace h : i < a.length := by omega
    have h' : i < b.length := by omega
    simp (maxSteps := 1000000) (disch := first | assumption | ((try simp only [LEN, LEN2]); omega)) only [push_cast, Int.reduceToNat, Int.reduceEq, Int.reduceNe, Int.reduceLT, Int.reduceLE, Int.reduceAdd, Int.reduceSub, Int.reduceMul, Int.reduceNeg, Nat.reduceEqDiff, Nat.reduceBEq, Nat.reduceBNe, Nat.reduceAdd, Nat.reduceLeDiff, Nat.reduceLT, Nat.reduceMul, ↓reduceIte, reduceCtorEq, g60, pf60, b60, eP, eqP_fold]
    by_cases he : a[i] = b[i]
    · simp (maxSteps := 1000000) (disch := first | assumption | ((try simp only [LEN, LEN2]); omega)) only [push_cast, Int.reduceToNat, Int.reduceEq, Int.reduceNe, Int.reduceLT, Int.reduceLE, Int.reduceAdd, Int.reduceSub, Int.reduceMul, Int.reduceNeg, Nat.reduceEqDiff, Nat.reduceBEq, Nat.reduceBNe, Nat.reduceAdd, Nat.reduceLeDiff, Nat.reduceLT, Nat.reduceMul, ↓reduceIte, reduceCtorEq, g60, pf60, b60, he]
      refine ⟨i + 1, rfl, ⟨by omega, ?_⟩, by omega⟩
      rw [List.take_succ_eq_append_getElem h, List.take_succ_eq_append_getElem h', ht, he]
    · have hne : a ≠ b := fun e => he (by subst e; rfl)
      simp (maxSteps := 1000000) (disch := first | assumption | ((try simp only [LEN, LEN2]); omega)) only [push_cast, Int.reduceToNat, Int.reduceEq, Int.reduceNe, Int.reduceLT, Int.reduceLE, Int.reduceAdd, Int.reduceSub, Int.reduceMul, Int.reduceNeg, Nat.reduceEqDiff, Nat.reduceBEq, Nat.reduceBNe, Nat.reduceAdd, Nat.reduceLeDiff, Nat.reduceLT, Nat.reduceMul, ↓reduceIte, reduceCtorEq, g60, pf60, b60, he]
      simp [hne]
  · obtain rfl : i = a.length := by omega
    have : a = b := by rw [List.take_length] at ht; rw [ht, hl, List.take_length]
    simp (maxSteps := 1000000) (disch := first | assumption | ((try simp only [LEN, LEN2]); omega)) only [push_cast, Int.reduceToNat, Int.reduceEq, Int.reduceNe, Int.reduceLT, Int.reduceLE, Int.reduceAdd, Int.reduceSub, Int.reduceMul, Int.reduceNeg, Nat.reduceEqDiff, Nat.reduceBEq, Nat.reduceBNe, Nat.reduceAdd, Nat.reduceLeDiff, Nat.reduceLT, Nat.reduceMul, ↓reduceIte, reduceCtorEq, g60, pf60, b60]
    simp [this]
theorem f60c {a b : List (Put)} (ha : a.length ≤ 1000000000) (hb : b.length ≤ 1000000000) {g : VG} {F : Fn} {lk : Bool} {e : Env} {dst : Option Nat} {ops : List Ins} {keep : Option (List Nat)} {K : List Fr} : CallC G g F 60 [.one (.d (.sl (a.map eP))), .one (.d (.sl (b.map eP)))] lk e dst ops keep K = ThenL G g F (if lk && !(T.noSl (.bool (decide (a = b)))) then none else e.put g.un dst (.bool (decide (a = b)))) ops keep K := callC_eq (f60 ha hb)
attribute [push_cast] f60c
set_option maxHeartbeats 2000000 in
theorem f73 {a b : List (Do)} (ha : a.length ≤ 1000000000) (hb : b.length ≤ 1000000000) : Fun G 73 [.one (.d (.sl (a.map eDo))), .one (.d (.sl (b.map eDo)))] (.bool (decide (a = b)), []) := by
  refine Fun.of_run (g := g73) (pf := pf73) rfl rfl rfl rfl ?_
  simp (maxSteps := 1000000) (disch := first | assumption | ((try simp only [LEN, LEN2]); omega)) only [push_cast, Int.reduceToNat, Int.reduceEq, Int.reduceNe, Int.reduceLT, Int.reduceLE, Int.reduceAdd, Int.reduceSub, Int.reduceMul, Int.reduceNeg, Nat.reduceEqDiff, Nat.reduceBEq, Nat.reduceBNe, Nat.reduceAdd, Nat.reduceLeDiff, Nat.reduceLT, Nat.reduceMul, ↓reduceIte, reduceCtorEq, g73, pf73, b73]
  refine If.dec (fun h => ?_) (fun h => ?_)
  · have : a ≠ b := fun e => h (by rw [e])
    simp (maxSteps := 1000000) (disch := first | assumption | ((try simp only [LEN, LEN2]); omega)) only [push_cast, Int.reduceToNat, Int.reduceEq, Int.reduceNe, Int.reduceLT, Int.reduceLE, Int.reduceAdd, Int.reduceSub, Int.reduceMul, Int.reduceNeg, Nat.reduceEqDiff, Nat.reduceBEq, Nat.reduceBNe, Nat.reduceAdd, Nat.reduceLeDiff, Nat.reduceLT, Nat.reduceMul, ↓reduceIte, reduceCtorEq, g73, pf73, b73]
    simp [this]
  simp (maxSteps := 1000000) (disch := first | assumption | ((try simp only [LEN, LEN2]); omega)) only [push_cast, Int.reduceToNat, Int.reduceEq, Int.reduceNe, Int.reduceLT, Int.reduceLE, Int.reduceAdd, Int.reduceSub, Int.reduceMul, Int.reduceNeg, Nat.reduceEqDiff, Nat.reduceBEq, Nat.reduceBNe, Nat.reduceAdd, Nat.reduceLeDiff, Nat.reduceLT, Nat.reduceMul, ↓reduceIte, reduceCtorEq, g73, pf73, b73]
  have hl : a.length = b.length := by omega
  refine run_loop' (fun i : Nat => [(0, T.one (.d (.sl (a.map eDo)))), (1, T.one (.d (.sl (b.map eDo)))), (5, T.int .i64 i)]) (fun i => i ≤ a.length ∧ a.take i = b.take i) (fun i => a.length - i) 0 rfl ⟨Nat.zero_le _, by simp⟩ (fun i hi => ?_)
  obtain ⟨hi, ht⟩ := hi
  simp (maxSteps := 1000000) (disch := first | assumption | ((try simp only [LEN, LEN2]); omega)) only [push_cast, Int.reduceToNat, Int.reduceEq, Int.reduceNe, Int.reduceLT, Int.reduceLE, Int.reduceAdd, Int.reduceSub, Int.reduceMul, Int.reduceNeg, Nat.reduceEqDiff, Nat.reduceBEq, Nat.reduceBNe, Nat.reduceAdd, Nat.reduceLeDiff, Nat.reduceLT, Nat.reduceMul, ↓reduceIte, reduceCtorEq, g73, pf73, b73]
  refine If.dec (fun h => ?_) (fun h => ?_)
  · replace h : i < a.length := by omega
    have h' : i < b.length := by omega
    simp (maxSteps := 1000000) (disch := first | assumption | ((try simp only [LEN, LEN2]); omega)) only [push_cast, Int.reduceToNat, Int.reduceEq, Int.reduceNe, Int.reduceLT, Int.reduceLE, Int.reduceAdd, Int.reduceSub, Int.reduceMul, Int.reduceNeg, Nat.reduceEqDiff, Nat.reduceBEq, Nat.reduceBNe, Nat.reduceAdd, Nat.reduceLeDiff, Nat.reduceLT, Nat.reduceMul, ↓reduceIte, reduceCtorEq, g73, pf73, b73, eDo, eqDo_fold]
    by_cases he : a[i] = b[i]
    · simp (maxSteps := 1000000) (disch := first | assumption | ((try simp only [LEN, LEN2]); omega)) only [push_cast, Int.reduceToNat, Int.reduceEq, Int.reduceNe, Int.reduceLT, Int.reduceLE, Int.reduceAdd, Int.reduceSub, Int.reduceMul, Int.reduceNeg, Nat.reduceEqDiff, Nat.reduceBEq, Nat.reduceBNe, Nat.reduceAdd, Nat.reduceLeDiff, Nat.reduceLT, Nat.reduceMul, ↓reduceIte, reduceCtorEq, g73, pf73, b73, he]
      refine ⟨i + 1, rfl, ⟨by omega, ?_⟩, by omega⟩
      rw [List.take_succ_eq_append_getElem h, List.take_succ_eq_append_getElem h', ht, he]
    · have hne : a ≠ b := fun e => he (by subst e; rfl)
      simp (maxSteps := 1000000) (disch := first | assumption | ((try simp only [LEN, LEN2]); omega)) only [push_cast, Int.reduceToNat, Int.reduceEq, Int.reduceNe, Int.reduceLT, Int.reduceLE, Int.reduceAdd, Int.reduceSub, Int.reduceMul, Int.reduceNeg, Nat.reduceEqDiff, Nat.reduceBEq, Nat.reduceBNe, Nat.reduceAdd, Nat.reduceLeDiff, Nat.reduceLT, Nat.reduceMul, ↓reduceIte, reduceCtorEq, g73, pf73, b73, he]
      simp [hne]
  · obtain rfl : i = a.length := by omega
    have : a = b := by rw [List.take_length] at ht; rw [ht, hl, List.take_length]
    simp (maxSteps := 1000000) (disch := first | assumption | ((try simp only [LEN, LEN2]); omega)) only [push_cast, Int.reduceToNat, Int.reduceEq, Int.reduceNe, Int.reduceLT, Int.reduceLE, Int.reduceAdd, Int.reduceSub, Int.reduceMul, Int.reduceNeg, Nat.reduceEqDiff, Nat.reduceBEq, Nat.reduceBNe, Nat.reduceAdd, Nat.reduceLeDiff, Nat.reduceLT, Nat.reduceMul, ↓reduceIte, reduceCtorEq, g73, pf73, b73]
    simp [this]
theorem f73c {a b : List (Do)} (ha : a.length ≤ 1000000000) (hb : b.length ≤ 1000000000) {g : VG} {F : Fn} {lk : Bool} {e : Env} {dst : Option Nat} {ops : List Ins} {keep : Option (List Nat)} {K : List Fr} : CallC G g F 73 [.one (.d (.sl (a.map eDo))), .one (.d (.sl (b.map eDo)))] lk e dst ops keep K = ThenL G g F (if lk && !(T.noSl (.bool (decide (a = b)))) then none else e.put g.un dst (.bool (decide (a = b)))) ops keep K := callC_eq (f73 ha hb)
attribute [push_cast] f73c

set_option maxHeartbeats 2000000 in
theorem f17 {i n : Int} (h0 : okN i) (h1 : 0 < n) (h2 : n ≤ 9223372036854775807) : Fun G 17 [.int .i64 i, .int .i64 n] (.int .i64 ((i % 18446744073709551616) % n), []) := by
  refine Fun.of_run (g := g17) (pf := pf17) rfl rfl rfl rfl ?_
  have e1 : IntKind.u64.wrap i = i % 18446744073709551616 := by rw [wrap_u64]
  have e2 : IntKind.u64.wrap n = n := by rw [wrap_u64]; omega
  have e3 : IntKind.i64.wrap ((i % 18446744073709551616) % n) = (i % 18446744073709551616) % n := wrap_i64 (by have := Int.emod_nonneg (i % 18446744073709551616) (by omega : n ≠ 0); omega) (by have := Int.emod_lt_of_pos (i % 18446744073709551616) h1; omega)
  have e4 : (i % 18446744073709551616).tmod n = (i % 18446744073709551616) % n := Int.tmod_eq_emod_of_nonneg (by omega)
  simp (maxSteps := 1000000) (disch := first | assumption | ((try simp only [LEN, LEN2]); omega)) only [push_cast, Int.reduceToNat, Int.reduceEq, Int.reduceNe, Int.reduceLT, Int.reduceLE, Int.reduceAdd, Int.reduceSub, Int.reduceMul, Int.reduceNeg, Nat.reduceEqDiff, Nat.reduceBEq, Nat.reduceBNe, Nat.reduceAdd, Nat.reduceLeDiff, Nat.reduceLT, Nat.reduceMul, ↓reduceIte, reduceCtorEq, g17, pf17, b17, e1, e2, e3, e4]
theorem f17c {i n : Int} (h0 : okN i) (h1 : 0 < n) (h2 : n ≤ 9223372036854775807) {g : VG} {F : Fn} {lk : Bool} {e : Env} {dst : Option Nat} {ops : List Ins} {keep : Option (List Nat)} {K : List Fr} : CallC G g F 17 [.int .i64 i, .int .i64 n] lk e dst ops keep K = ThenL G g F (if lk && !(T.noSl (.int .i64 ((i % 18446744073709551616) % n))) then none else e.put g.un dst (.int .i64 ((i % 18446744073709551616) % n))) ops keep K := callC_eq (f17 h0 h1 h2)
attribute [push_cast] f17c

set_option maxHeartbeats 2000000 in
theorem f28 {i : Int}  : Fun G 28 [.int .i64 i] (.int .i64 i, []) := by
  refine Fun.of_run (g := g28) (pf := pf28) rfl rfl rfl rfl ?_
  simp (maxSteps := 1000000) (disch := first | assumption | ((try simp only [LEN, LEN2]); omega)) only [push_cast, Int.reduceToNat, Int.reduceEq, Int.reduceNe, Int.reduceLT, Int.reduceLE, Int.reduceAdd, Int.reduceSub, Int.reduceMul, Int.reduceNeg, Nat.reduceEqDiff, Nat.reduceBEq, Nat.reduceBNe, Nat.reduceAdd, Nat.reduceLeDiff, Nat.reduceLT, Nat.reduceMul, ↓reduceIte, reduceCtorEq, g28, pf28, b28]
theorem f28c {i : Int}  {g : VG} {F : Fn} {lk : Bool} {e : Env} {dst : Option Nat} {ops : List Ins} {keep : Option (List Nat)} {K : List Fr} : CallC G g F 28 [.int .i64 i] lk e dst ops keep K = ThenL G g F (if lk && !(T.noSl (.int .i64 i)) then none else e.put g.un dst (.int .i64 i)) ops keep K := callC_eq (f28 )
attribute [push_cast] f28c

set_option maxHeartbeats 2000000 in
theorem f36 {n a b : Int}  : Fun G 36 [.int .i64 n, .int .i64 a, .int .i64 b] (.bool (decide (a ≤ n ∧ n ≤ b)), []) := by
  refine Fun.of_run (g := g36) (pf := pf36) rfl rfl rfl rfl ?_
  by_cases h : a ≤ n <;> by_cases h' : n ≤ b <;> simp (maxSteps := 1000000) (disch := first | assumption | ((try simp only [LEN, LEN2]); omega)) only [push_cast, Int.reduceToNat, Int.reduceEq, Int.reduceNe, Int.reduceLT, Int.reduceLE, Int.reduceAdd, Int.reduceSub, Int.reduceMul, Int.reduceNeg, Nat.reduceEqDiff, Nat.reduceBEq, Nat.reduceBNe, Nat.reduceAdd, Nat.reduceLeDiff, Nat.reduceLT, Nat.reduceMul, ↓reduceIte, reduceCtorEq, g36, pf36, b36, h, h']
theorem f36c {n a b : Int}  {g : VG} {F : Fn} {lk : Bool} {e : Env} {dst : Option Nat} {ops : List Ins} {keep : Option (List Nat)} {K : List Fr} : CallC G g F 36 [.int .i64 n, .int .i64 a, .int .i64 b] lk e dst ops keep K = ThenL G g F (if lk && !(T.noSl (.bool (decide (a ≤ n ∧ n ≤ b)))) then none else e.put g.un dst (.bool (decide (a ≤ n ∧ n ≤ b)))) ops keep K := callC_eq (f36 )
attribute [push_cast] f36c

set_option maxHeartbeats 2000000 in
theorem f59 {n a : Int}  : Fun G 59 [.int .i64 n, .int .i64 a] (.bool (decide (0 ≤ n ∧ n ≤ a)), []) := by
  refine Fun.of_run (g := g59) (pf := pf59) rfl rfl rfl rfl ?_
  by_cases h : 0 ≤ n <;> by_cases h' : n ≤ a <;> simp (maxSteps := 1000000) (disch := first | assumption | ((try simp only [LEN, LEN2]); omega)) only [push_cast, Int.reduceToNat, Int.reduceEq, Int.reduceNe, Int.reduceLT, Int.reduceLE, Int.reduceAdd, Int.reduceSub, Int.reduceMul, Int.reduceNeg, Nat.reduceEqDiff, Nat.reduceBEq, Nat.reduceBNe, Nat.reduceAdd, Nat.reduceLeDiff, Nat.reduceLT, Nat.reduceMul, ↓reduceIte, reduceCtorEq, g59, pf59, b59, h, h']
theorem f59c {n a : Int}  {g : VG} {F : Fn} {lk : Bool} {e : Env} {dst : Option Nat} {ops : List Ins} {keep : Option (List Nat)} {K : List Fr} : CallC G g F 59 [.int .i64 n, .int .i64 a] lk e dst ops keep K = ThenL G g F (if lk && !(T.noSl (.bool (decide (0 ≤ n ∧ n ≤ a)))) then none else e.put g.un dst (.bool (decide (0 ≤ n ∧ n ≤ a)))) ops keep K := callC_eq (f59 )
attribute [push_cast] f59c

set_option maxHeartbeats 2000000 in
theorem f32 {S S' : List (List UInt8)} {W W' : List Put} (h1 : S.length ≤ 1000000000) (h2 : S'.length ≤ 1000000000) (h3 : W.length ≤ 1000000000) (h4 : W'.length ≤ 1000000000) : Fun G 32 [.vs true (cT S W), .vs true (cT S' W')] (.bool (decide (S = S' ∧ W = W')), []) := by
  refine Fun.of_run (g := g32) (pf := pf32) rfl rfl rfl rfl ?_
  by_cases h : S = S' <;> simp (maxSteps := 1000000) (disch := first | assumption | ((try simp only [LEN, LEN2]); omega)) only [push_cast, Int.reduceToNat, Int.reduceEq, Int.reduceNe, Int.reduceLT, Int.reduceLE, Int.reduceAdd, Int.reduceSub, Int.reduceMul, Int.reduceNeg, Nat.reduceEqDiff, Nat.reduceBEq, Nat.reduceBNe, Nat.reduceAdd, Nat.reduceLeDiff, Nat.reduceLT, Nat.reduceMul, ↓reduceIte, reduceCtorEq, g32, pf32, b32, h] <;> simp
theorem f32c {S S' : List (List UInt8)} {W W' : List Put} (h1 : S.length ≤ 1000000000) (h2 : S'.length ≤ 1000000000) (h3 : W.length ≤ 1000000000) (h4 : W'.length ≤ 1000000000) {g : VG} {F : Fn} {lk : Bool} {e : Env} {dst : Option Nat} {ops : List Ins} {keep : Option (List Nat)} {K : List Fr} : CallC G g F 32 [.vs true (cT S W), .vs true (cT S' W')] lk e dst ops keep K = ThenL G g F (if lk && !(T.noSl (.bool (decide (S = S' ∧ W = W')))) then none else e.put g.un dst (.bool (decide (S = S' ∧ W = W')))) ops keep K := callC_eq (f32 h1 h2 h3 h4)
attribute [push_cast] f32c

abbrev oT (S : List (List UInt8)) (W : List Put) : List V := [.own 9 (S.map oS), .own 64 (W.map oP)]

set_option maxHeartbeats 2000000 in
theorem f37 {S : List (List UInt8)} {W : List Put} (h1 : S.length ≤ 1000000000) (h3 : W.length ≤ 1000000000) : Fun G 37 [.vs true (cT S W)] (.vs true (oT S W), []) := by
  refine Fun.of_run (g := g37) (pf := pf37) rfl rfl rfl rfl ?_
  simp (maxSteps := 1000000) (disch := first | assumption | ((try simp only [LEN, LEN2]); omega)) only [push_cast, Int.reduceToNat, Int.reduceEq, Int.reduceNe, Int.reduceLT, Int.reduceLE, Int.reduceAdd, Int.reduceSub, Int.reduceMul, Int.reduceNeg, Nat.reduceEqDiff, Nat.reduceBEq, Nat.reduceBNe, Nat.reduceAdd, Nat.reduceLeDiff, Nat.reduceLT, Nat.reduceMul, ↓reduceIte, reduceCtorEq, g37, pf37, b37]
theorem f37c {S : List (List UInt8)} {W : List Put} (h1 : S.length ≤ 1000000000) (h3 : W.length ≤ 1000000000) {g : VG} {F : Fn} {lk : Bool} {e : Env} {dst : Option Nat} {ops : List Ins} {keep : Option (List Nat)} {K : List Fr} : CallC G g F 37 [.vs true (cT S W)] lk e dst ops keep K = ThenL G g F (if lk && !(T.noSl (.vs true (oT S W))) then none else e.put g.un dst (.vs true (oT S W))) ops keep K := callC_eq (f37 h1 h3)
attribute [push_cast] f37c

def smP (W : List Put) : Prop := W.length ≤ 1048576 ∧ ∀ p ∈ W, p.Text.length ≤ 1048576
def smS (l : List (List UInt8)) : Prop := l.length ≤ 1048576 ∧ ∀ s ∈ l, s.length ≤ 1048576
def smDo (l : List Do) : Prop := l.length ≤ 1048576 ∧ ∀ p ∈ l, p.Put.Text.length ≤ 1048576

theorem f54 {S : List (List UInt8)} {W : List Put} (hS : smS S) (hW : smP W) : ∃ n : Int, Fun G 54 [.vs true (cT S W)] (.int .i64 n, []) ∧ 0 ≤ n ∧ n ≤ 4194304 := by
  obtain ⟨hS, hS2⟩ := hS
  obtain ⟨hW, hW2⟩ := hW
  obtain ⟨r, h1, n, rfl, h2⟩ := Fun.ex_of_run (G := G) (f := 54) (args := [.vs true (cT S W)]) (Q := fun r => ∃ n : Int, r = (.int .i64 n, []) ∧ 0 ≤ n ∧ n ≤ 4194304) (g := g54) (pf := pf54) rfl rfl rfl rfl (by
    simp (maxSteps := 1000000) (disch := first | assumption | ((try simp only [LEN, LEN2]); omega)) only [push_cast, Int.reduceToNat, Int.reduceEq, Int.reduceNe, Int.reduceLT, Int.reduceLE, Int.reduceAdd, Int.reduceSub, Int.reduceMul, Int.reduceNeg, Nat.reduceEqDiff, Nat.reduceBEq, Nat.reduceBNe, Nat.reduceAdd, Nat.reduceLeDiff, Nat.reduceLT, Nat.reduceMul, ↓reduceIte, reduceCtorEq, g54, pf54, b54]
    refine run_loop' (fun x : Nat × Int => [(1, T.one (.box (cT S W))), (3, T.int .i64 x.2), (4, T.int .i64 x.1)]) (fun x => x.1 ≤ S.length ∧ 0 ≤ x.2 ∧ x.2 ≤ 2200000) (fun x => S.length - x.1) (0, S.length + W.length) rfl (by simp only; omega) (fun ⟨i, n⟩ hi => ?_)
    simp only at hi
    by_cases h1 : (i : Int) < S.length
    · have hi' : i < S.length := by omega
      have hs := hS2 S[i] (List.getElem_mem hi')
      by_cases h2 : n < 1048576
      · simp (maxSteps := 1000000) (disch := first | assumption | ((try simp only [LEN, LEN2]); omega)) only [push_cast, Int.reduceToNat, Int.reduceEq, Int.reduceNe, Int.reduceLT, Int.reduceLE, Int.reduceAdd, Int.reduceSub, Int.reduceMul, Int.reduceNeg, Nat.reduceEqDiff, Nat.reduceBEq, Nat.reduceBNe, Nat.reduceAdd, Nat.reduceLeDiff, Nat.reduceLT, Nat.reduceMul, ↓reduceIte, reduceCtorEq, g54, pf54, b54, h1, h2, eS]
        refine ⟨(i + 1, n + (S[i].length : Int) / 64), ?_, ?_, ?_⟩
        · simp
        · simp only; omega
        · simp only; omega
      · simp (maxSteps := 1000000) (disch := first | assumption | ((try simp only [LEN, LEN2]); omega)) only [push_cast, Int.reduceToNat, Int.reduceEq, Int.reduceNe, Int.reduceLT, Int.reduceLE, Int.reduceAdd, Int.reduceSub, Int.reduceMul, Int.reduceNeg, Nat.reduceEqDiff, Nat.reduceBEq, Nat.reduceBNe, Nat.reduceAdd, Nat.reduceLeDiff, Nat.reduceLT, Nat.reduceMul, ↓reduceIte, reduceCtorEq, g54, pf54, b54, h1, h2]
        refine run_loop' (fun x : Nat × Int => [(1, T.one (.box (cT S W))), (3, T.int .i64 x.2), (5, T.int .i64 x.1)]) (fun x => x.1 ≤ W.length ∧ 0 ≤ x.2 ∧ x.2 ≤ 2200000) (fun x => W.length - x.1) (0, n) rfl (by simp only; omega) (fun ⟨j, m⟩ hj => ?_)
        simp only at hj
        by_cases h3 : (j : Int) < W.length
        · have hj' : j < W.length := by omega
          have hs := hW2 W[j] (List.getElem_mem hj')
          by_cases h4 : m < 1048576
          · simp (maxSteps := 1000000) (disch := first | assumption | ((try simp only [LEN, LEN2]); omega)) only [push_cast, Int.reduceToNat, Int.reduceEq, Int.reduceNe, Int.reduceLT, Int.reduceLE, Int.reduceAdd, Int.reduceSub, Int.reduceMul, Int.reduceNeg, Nat.reduceEqDiff, Nat.reduceBEq, Nat.reduceBNe, Nat.reduceAdd, Nat.reduceLeDiff, Nat.reduceLT, Nat.reduceMul, ↓reduceIte, reduceCtorEq, g54, pf54, b54, h3, h4, eP]
            refine ⟨(j + 1, m + (W[j].Text.length : Int) / 64), ?_, ?_, ?_⟩
            · simp
            · simp only; omega
            · simp only; omega
          · simp (maxSteps := 1000000) (disch := first | assumption | ((try simp only [LEN, LEN2]); omega)) only [push_cast, Int.reduceToNat, Int.reduceEq, Int.reduceNe, Int.reduceLT, Int.reduceLE, Int.reduceAdd, Int.reduceSub, Int.reduceMul, Int.reduceNeg, Nat.reduceEqDiff, Nat.reduceBEq, Nat.reduceBNe, Nat.reduceAdd, Nat.reduceLeDiff, Nat.reduceLT, Nat.reduceMul, ↓reduceIte, reduceCtorEq, g54, pf54, b54, h3, h4]
            exact ⟨m, rfl, hj.2.1, by omega⟩
        · simp (maxSteps := 1000000) (disch := first | assumption | ((try simp only [LEN, LEN2]); omega)) only [push_cast, Int.reduceToNat, Int.reduceEq, Int.reduceNe, Int.reduceLT, Int.reduceLE, Int.reduceAdd, Int.reduceSub, Int.reduceMul, Int.reduceNeg, Nat.reduceEqDiff, Nat.reduceBEq, Nat.reduceBNe, Nat.reduceAdd, Nat.reduceLeDiff, Nat.reduceLT, Nat.reduceMul, ↓reduceIte, reduceCtorEq, g54, pf54, b54, h3]
          exact ⟨m, rfl, hj.2.1, by omega⟩
    · simp (maxSteps := 1000000) (disch := first | assumption | ((try simp only [LEN, LEN2]); omega)) only [push_cast, Int.reduceToNat, Int.reduceEq, Int.reduceNe, Int.reduceLT, Int.reduceLE, Int.reduceAdd, Int.reduceSub, Int.reduceMul, Int.reduceNeg, Nat.reduceEqDiff, Nat.reduceBEq, Nat.reduceBNe, Nat.reduceAdd, Nat.reduceLeDiff, Nat.reduceLT, Nat.reduceMul, ↓reduceIte, reduceCtorEq, g54, pf54, b54, h1]
      refine run_loop' (fun x : Nat × Int => [(1, T.one (.box (cT S W))), (3, T.int .i64 x.2), (5, T.int .i64 x.1)]) (fun x => x.1 ≤ W.length ∧ 0 ≤ x.2 ∧ x.2 ≤ 2200000) (fun x => W.length - x.1) (0, n) rfl (by simp only; omega) (fun ⟨j, m⟩ hj => ?_)
      simp only at hj
      by_cases h3 : (j : Int) < W.length
      · have hj' : j < W.length := by omega
        have hs := hW2 W[j] (List.getElem_mem hj')
        by_cases h4 : m < 1048576
        · simp (maxSteps := 1000000) (disch := first | assumption | ((try simp only [LEN, LEN2]); omega)) only [push_cast, Int.reduceToNat, Int.reduceEq, Int.reduceNe, Int.reduceLT, Int.reduceLE, Int.reduceAdd, Int.reduceSub, Int.reduceMul, Int.reduceNeg, Nat.reduceEqDiff, Nat.reduceBEq, Nat.reduceBNe, Nat.reduceAdd, Nat.reduceLeDiff, Nat.reduceLT, Nat.reduceMul, ↓reduceIte, reduceCtorEq, g54, pf54, b54, h3, h4, eP]
          refine ⟨(j + 1, m + (W[j].Text.length : Int) / 64), ?_, ?_, ?_⟩
          · simp
          · simp only; omega
          · simp only; omega
        · simp (maxSteps := 1000000) (disch := first | assumption | ((try simp only [LEN, LEN2]); omega)) only [push_cast, Int.reduceToNat, Int.reduceEq, Int.reduceNe, Int.reduceLT, Int.reduceLE, Int.reduceAdd, Int.reduceSub, Int.reduceMul, Int.reduceNeg, Nat.reduceEqDiff, Nat.reduceBEq, Nat.reduceBNe, Nat.reduceAdd, Nat.reduceLeDiff, Nat.reduceLT, Nat.reduceMul, ↓reduceIte, reduceCtorEq, g54, pf54, b54, h3, h4]
          exact ⟨m, rfl, hj.2.1, by omega⟩
      · simp (maxSteps := 1000000) (disch := first | assumption | ((try simp only [LEN, LEN2]); omega)) only [push_cast, Int.reduceToNat, Int.reduceEq, Int.reduceNe, Int.reduceLT, Int.reduceLE, Int.reduceAdd, Int.reduceSub, Int.reduceMul, Int.reduceNeg, Nat.reduceEqDiff, Nat.reduceBEq, Nat.reduceBNe, Nat.reduceAdd, Nat.reduceLeDiff, Nat.reduceLT, Nat.reduceMul, ↓reduceIte, reduceCtorEq, g54, pf54, b54, h3]
        exact ⟨m, rfl, hj.2.1, by omega⟩)
  exact ⟨n, h1, h2⟩
end Go.Mir.Try

/- Walks: the page's tape. -/
set_option linter.unusedVariables false
set_option linter.unusedSimpArgs false
set_option maxRecDepth 100000
namespace Go.Mir.Try
open Go.Proofs Go.Mir.Q

theorem zeroB (n : Nat) : List.replicate n [V.d (D.sc (Value.int IntKind.u8 0))] = (List.replicate n (0 : UInt8)).map oB := by simp [oB]

set_option maxHeartbeats 2000000 in
theorem f55 {n : Nat} (h : n ≤ 1000000) : Fun G 55 [.int .i64 n] (.str (bs (List.replicate n 0)), []) := by
  refine Fun.of_run (g := g55) (pf := pf55) rfl rfl rfl rfl ?_
  simp (maxSteps := 1000000) (disch := first | assumption | ((try simp only [LEN, LEN2]); omega)) only [push_cast, Int.reduceToNat, Int.reduceEq, Int.reduceNe, Int.reduceLT, Int.reduceLE, Int.reduceAdd, Int.reduceSub, Int.reduceMul, Int.reduceNeg, Nat.reduceEqDiff, Nat.reduceBEq, Nat.reduceBNe, Nat.reduceAdd, Nat.reduceLeDiff, Nat.reduceLT, Nat.reduceMul, ↓reduceIte, reduceCtorEq, g55, pf55, b55, zeroB]
theorem f55c {n : Nat} (h : n ≤ 1000000) {g : VG} {F : Fn} {lk : Bool} {e : Env} {dst : Option Nat} {ops : List Ins} {keep : Option (List Nat)} {K : List Fr} : CallC G g F 55 [.int .i64 n] lk e dst ops keep K = ThenL G g F (if lk && !(T.noSl (.str (bs (List.replicate n 0)))) then none else e.put g.un dst (.str (bs (List.replicate n 0)))) ops keep K := callC_eq (f55 h)
attribute [push_cast] f55c

set_option maxHeartbeats 2000000 in
theorem f29 {S : List (List UInt8)} {W : List Put} (h1 : smS S) (h2 : smP W) : Fun G 29 [.vs true (cT S W)] (.bool (okT S W), []) := by
  refine Fun.of_run (g := g29) (pf := pf29) rfl rfl rfl rfl ?_
  obtain ⟨hS, hS2⟩ := h1
  obtain ⟨hW, hW2⟩ := h2
  by_cases h3 : 1 ≤ (S.length : Int) ∧ (S.length : Int) ≤ 512
  · by_cases h4 : 2048 < (W.length : Int)
    · have : okT S W = false := by rw [← Bool.not_eq_true, okT_iff]; omega
      simp (maxSteps := 1000000) (disch := first | assumption | ((try simp only [LEN, LEN2]); omega)) only [push_cast, Int.reduceToNat, Int.reduceEq, Int.reduceNe, Int.reduceLT, Int.reduceLE, Int.reduceAdd, Int.reduceSub, Int.reduceMul, Int.reduceNeg, Nat.reduceEqDiff, Nat.reduceBEq, Nat.reduceBNe, Nat.reduceAdd, Nat.reduceLeDiff, Nat.reduceLT, Nat.reduceMul, ↓reduceIte, reduceCtorEq, g29, pf29, b29, h3, h4, this]
    · simp (maxSteps := 1000000) (disch := first | assumption | ((try simp only [LEN, LEN2]); omega)) only [push_cast, Int.reduceToNat, Int.reduceEq, Int.reduceNe, Int.reduceLT, Int.reduceLE, Int.reduceAdd, Int.reduceSub, Int.reduceMul, Int.reduceNeg, Nat.reduceEqDiff, Nat.reduceBEq, Nat.reduceBNe, Nat.reduceAdd, Nat.reduceLeDiff, Nat.reduceLT, Nat.reduceMul, ↓reduceIte, reduceCtorEq, g29, pf29, b29, h3, h4]
      refine run_loop' (fun i : Nat => [(1, T.one (.box (cT S W))), (3, T.int .i64 i)]) (fun i => i ≤ S.length ∧ ∀ s ∈ S.take i, s.length = 32) (fun i => S.length - i) 0 rfl ⟨Nat.zero_le _, by simp⟩ (fun i hi => ?_)
      obtain ⟨hi, ht⟩ := hi
      simp (maxSteps := 1000000) (disch := first | assumption | ((try simp only [LEN, LEN2]); omega)) only [push_cast, Int.reduceToNat, Int.reduceEq, Int.reduceNe, Int.reduceLT, Int.reduceLE, Int.reduceAdd, Int.reduceSub, Int.reduceMul, Int.reduceNeg, Nat.reduceEqDiff, Nat.reduceBEq, Nat.reduceBNe, Nat.reduceAdd, Nat.reduceLeDiff, Nat.reduceLT, Nat.reduceMul, ↓reduceIte, reduceCtorEq, g29, pf29, b29]
      refine If.dec (fun h => ?_) (fun h => ?_)
      · replace h : i < S.length := by omega
        have hk := hS2 S[i] (List.getElem_mem h)
        by_cases hp : (S[i].length : Int) = 32
        · simp (maxSteps := 1000000) (disch := first | assumption | ((try simp only [LEN, LEN2]); omega)) only [push_cast, Int.reduceToNat, Int.reduceEq, Int.reduceNe, Int.reduceLT, Int.reduceLE, Int.reduceAdd, Int.reduceSub, Int.reduceMul, Int.reduceNeg, Nat.reduceEqDiff, Nat.reduceBEq, Nat.reduceBNe, Nat.reduceAdd, Nat.reduceLeDiff, Nat.reduceLT, Nat.reduceMul, ↓reduceIte, reduceCtorEq, g29, pf29, b29, eS, hp]
          refine ⟨i + 1, rfl, ⟨by omega, fun s hs => ?_⟩, by omega⟩
          rw [List.take_succ_eq_append_getElem h, List.mem_append, List.mem_singleton] at hs
          rcases hs with hs | rfl
          · exact ht s hs
          · omega
        · have : okT S W = false := by
            rw [← Bool.not_eq_true, okT_iff]
            rintro ⟨_, hh, _⟩
            have := hh S[i] (List.getElem_mem h)
            omega
          simp (maxSteps := 1000000) (disch := first | assumption | ((try simp only [LEN, LEN2]); omega)) only [push_cast, Int.reduceToNat, Int.reduceEq, Int.reduceNe, Int.reduceLT, Int.reduceLE, Int.reduceAdd, Int.reduceSub, Int.reduceMul, Int.reduceNeg, Nat.reduceEqDiff, Nat.reduceBEq, Nat.reduceBNe, Nat.reduceAdd, Nat.reduceLeDiff, Nat.reduceLT, Nat.reduceMul, ↓reduceIte, reduceCtorEq, g29, pf29, b29, eS, hp, this]
      · obtain rfl : i = S.length := by omega
        rw [List.take_length] at ht
        simp (maxSteps := 1000000) (disch := first | assumption | ((try simp only [LEN, LEN2]); omega)) only [push_cast, Int.reduceToNat, Int.reduceEq, Int.reduceNe, Int.reduceLT, Int.reduceLE, Int.reduceAdd, Int.reduceSub, Int.reduceMul, Int.reduceNeg, Nat.reduceEqDiff, Nat.reduceBEq, Nat.reduceBNe, Nat.reduceAdd, Nat.reduceLeDiff, Nat.reduceLT, Nat.reduceMul, ↓reduceIte, reduceCtorEq, g29, pf29, b29]
        refine run_loop' (fun i : Nat => [(1, T.one (.box (cT S W))), (4, T.int .i64 i)]) (fun i => i ≤ W.length ∧ ∀ p ∈ W.take i, 0 ≤ p.At ∧ p.At < S.length ∧ p.Text.length = 32) (fun i => W.length - i) 0 rfl ⟨Nat.zero_le _, by simp⟩ (fun i hi => ?_)
        obtain ⟨hi, ht2⟩ := hi
        simp (maxSteps := 1000000) (disch := first | assumption | ((try simp only [LEN, LEN2]); omega)) only [push_cast, Int.reduceToNat, Int.reduceEq, Int.reduceNe, Int.reduceLT, Int.reduceLE, Int.reduceAdd, Int.reduceSub, Int.reduceMul, Int.reduceNeg, Nat.reduceEqDiff, Nat.reduceBEq, Nat.reduceBNe, Nat.reduceAdd, Nat.reduceLeDiff, Nat.reduceLT, Nat.reduceMul, ↓reduceIte, reduceCtorEq, g29, pf29, b29]
        refine If.dec (fun h => ?_) (fun h => ?_)
        · replace h : i < W.length := by omega
          have hk := hW2 W[i] (List.getElem_mem h)
          by_cases hp : 0 ≤ W[i].At ∧ W[i].At ≤ (S.length : Int) - 1
          · by_cases hq : (W[i].Text.length : Int) = 32
            · simp (maxSteps := 1000000) (disch := first | assumption | ((try simp only [LEN, LEN2]); omega)) only [push_cast, Int.reduceToNat, Int.reduceEq, Int.reduceNe, Int.reduceLT, Int.reduceLE, Int.reduceAdd, Int.reduceSub, Int.reduceMul, Int.reduceNeg, Nat.reduceEqDiff, Nat.reduceBEq, Nat.reduceBNe, Nat.reduceAdd, Nat.reduceLeDiff, Nat.reduceLT, Nat.reduceMul, ↓reduceIte, reduceCtorEq, g29, pf29, b29, eP, hp, hq]
              refine ⟨i + 1, rfl, ⟨by omega, fun s hs => ?_⟩, by omega⟩
              rw [List.take_succ_eq_append_getElem h, List.mem_append, List.mem_singleton] at hs
              rcases hs with hs | rfl
              · exact ht2 s hs
              · exact ⟨hp.1, by omega, by omega⟩
            · have : okT S W = false := by
                rw [← Bool.not_eq_true, okT_iff]
                rintro ⟨_, _, hh⟩
                have := hh W[i] (List.getElem_mem h)
                omega
              simp (maxSteps := 1000000) (disch := first | assumption | ((try simp only [LEN, LEN2]); omega)) only [push_cast, Int.reduceToNat, Int.reduceEq, Int.reduceNe, Int.reduceLT, Int.reduceLE, Int.reduceAdd, Int.reduceSub, Int.reduceMul, Int.reduceNeg, Nat.reduceEqDiff, Nat.reduceBEq, Nat.reduceBNe, Nat.reduceAdd, Nat.reduceLeDiff, Nat.reduceLT, Nat.reduceMul, ↓reduceIte, reduceCtorEq, g29, pf29, b29, eP, hp, hq, this]
          · have : okT S W = false := by
              rw [← Bool.not_eq_true, okT_iff]
              rintro ⟨_, _, hh⟩
              have := hh W[i] (List.getElem_mem h)
              omega
            simp (maxSteps := 1000000) (disch := first | assumption | ((try simp only [LEN, LEN2]); omega)) only [push_cast, Int.reduceToNat, Int.reduceEq, Int.reduceNe, Int.reduceLT, Int.reduceLE, Int.reduceAdd, Int.reduceSub, Int.reduceMul, Int.reduceNeg, Nat.reduceEqDiff, Nat.reduceBEq, Nat.reduceBNe, Nat.reduceAdd, Nat.reduceLeDiff, Nat.reduceLT, Nat.reduceMul, ↓reduceIte, reduceCtorEq, g29, pf29, b29, eP, hp, this]
        · obtain rfl : i = W.length := by omega
          rw [List.take_length] at ht2
          have : okT S W = true := by rw [okT_iff]; exact ⟨by omega, ht, ht2⟩
          simp (maxSteps := 1000000) (disch := first | assumption | ((try simp only [LEN, LEN2]); omega)) only [push_cast, Int.reduceToNat, Int.reduceEq, Int.reduceNe, Int.reduceLT, Int.reduceLE, Int.reduceAdd, Int.reduceSub, Int.reduceMul, Int.reduceNeg, Nat.reduceEqDiff, Nat.reduceBEq, Nat.reduceBNe, Nat.reduceAdd, Nat.reduceLeDiff, Nat.reduceLT, Nat.reduceMul, ↓reduceIte, reduceCtorEq, g29, pf29, b29, this]
  · have : okT S W = false := by rw [← Bool.not_eq_true, okT_iff]; omega
    simp (maxSteps := 1000000) (disch := first | assumption | ((try simp only [LEN, LEN2]); omega)) only [push_cast, Int.reduceToNat, Int.reduceEq, Int.reduceNe, Int.reduceLT, Int.reduceLE, Int.reduceAdd, Int.reduceSub, Int.reduceMul, Int.reduceNeg, Nat.reduceEqDiff, Nat.reduceBEq, Nat.reduceBNe, Nat.reduceAdd, Nat.reduceLeDiff, Nat.reduceLT, Nat.reduceMul, ↓reduceIte, reduceCtorEq, g29, pf29, b29, h3, this]
theorem f29c {S : List (List UInt8)} {W : List Put} (h1 : smS S) (h2 : smP W) {g : VG} {F : Fn} {lk : Bool} {e : Env} {dst : Option Nat} {ops : List Ins} {keep : Option (List Nat)} {K : List Fr} : CallC G g F 29 [.vs true (cT S W)] lk e dst ops keep K = ThenL G g F (if lk && !(T.noSl (.bool (okT S W))) then none else e.put g.un dst (.bool (okT S W))) ops keep K := callC_eq (f29 h1 h2)
attribute [push_cast] f29c

set_option maxHeartbeats 2000000 in
theorem f26 {n : Nat} (h : n ≤ 1000000) : Fun G 26 [.int .i64 n] (.vs true (oT (List.replicate n zeros) []), []) := by
  refine Fun.of_run (g := g26) (pf := pf26) rfl rfl rfl rfl ?_
  simp (maxSteps := 1000000) (disch := first | assumption | ((try simp only [LEN, LEN2]); omega)) only [push_cast, Int.reduceToNat, Int.reduceEq, Int.reduceNe, Int.reduceLT, Int.reduceLE, Int.reduceAdd, Int.reduceSub, Int.reduceMul, Int.reduceNeg, Nat.reduceEqDiff, Nat.reduceBEq, Nat.reduceBNe, Nat.reduceAdd, Nat.reduceLeDiff, Nat.reduceLT, Nat.reduceMul, ↓reduceIte, reduceCtorEq, g26, pf26, b26]
  refine run_loop' (fun i : Nat => [(0, T.int .i64 n), (2, T.one (.box [.own 9 [], .own 64 []])), (3, T.one (.box (oT (List.replicate i zeros) []))), (4, T.int .i64 i)]) (fun i => i ≤ n) (fun i => n - i) 0 rfl (Nat.zero_le _) (fun i hi => ?_)
  simp (maxSteps := 1000000) (disch := first | assumption | ((try simp only [LEN, LEN2]); omega)) only [push_cast, Int.reduceToNat, Int.reduceEq, Int.reduceNe, Int.reduceLT, Int.reduceLE, Int.reduceAdd, Int.reduceSub, Int.reduceMul, Int.reduceNeg, Nat.reduceEqDiff, Nat.reduceBEq, Nat.reduceBNe, Nat.reduceAdd, Nat.reduceLeDiff, Nat.reduceLT, Nat.reduceMul, ↓reduceIte, reduceCtorEq, g26, pf26, b26]
  refine If.dec (fun h => ?_) (fun h => ?_)
  · replace h : i < n := by omega
    have hz : Fun G 55 [.int .i64 32] (.str (bs zeros), []) := f55 (n := 32) (by omega)
    simp (maxSteps := 1000000) (disch := first | assumption | ((try simp only [LEN, LEN2]); omega)) only [push_cast, Int.reduceToNat, Int.reduceEq, Int.reduceNe, Int.reduceLT, Int.reduceLE, Int.reduceAdd, Int.reduceSub, Int.reduceMul, Int.reduceNeg, Nat.reduceEqDiff, Nat.reduceBEq, Nat.reduceBNe, Nat.reduceAdd, Nat.reduceLeDiff, Nat.reduceLT, Nat.reduceMul, ↓reduceIte, reduceCtorEq, g26, pf26, b26, callC_eq hz]
    refine ⟨i + 1, ?_, by omega, by omega⟩
    simp only [List.replicate_succ', List.map_append, List.map_cons, List.map_nil, oS, oT, Int.natCast_add, Int.cast_ofNat_Int]
  · obtain rfl : i = n := by omega
    simp (maxSteps := 1000000) (disch := first | assumption | ((try simp only [LEN, LEN2]); omega)) only [push_cast, Int.reduceToNat, Int.reduceEq, Int.reduceNe, Int.reduceLT, Int.reduceLE, Int.reduceAdd, Int.reduceSub, Int.reduceMul, Int.reduceNeg, Nat.reduceEqDiff, Nat.reduceBEq, Nat.reduceBNe, Nat.reduceAdd, Nat.reduceLeDiff, Nat.reduceLT, Nat.reduceMul, ↓reduceIte, reduceCtorEq, g26, pf26, b26]
    try simp
theorem f26c {n : Nat} (h : n ≤ 1000000) {g : VG} {F : Fn} {lk : Bool} {e : Env} {dst : Option Nat} {ops : List Ins} {keep : Option (List Nat)} {K : List Fr} : CallC G g F 26 [.int .i64 n] lk e dst ops keep K = ThenL G g F (if lk && !(T.noSl (.vs true (oT (List.replicate n zeros) []))) then none else e.put g.un dst (.vs true (oT (List.replicate n zeros) []))) ops keep K := callC_eq (f26 h)
attribute [push_cast] f26c
theorem see_snoc (i : Int) : ∀ (A : List Put) (p : Put) (s : List UInt8), see s i (A ++ [p]) = if p.At = i then p.Text else see s i A
  | [], p, s => by simp [see]
  | q :: A, p, s => by simp only [List.cons_append, see]; exact see_snoc i A p _

set_option maxHeartbeats 2000000 in
theorem f70 {S : List (List UInt8)} {W : List Put} {k : Nat} (hS : S.length ≤ 1000000000) (hW : W.length ≤ 1000000000) (hk : k < S.length) : Fun G 70 [.vs true (cT S W), .int .i64 k] (.str (bs (see S[k] k W)), []) := by
  refine Fun.of_run (g := g70) (pf := pf70) rfl rfl rfl rfl ?_
  simp (maxSteps := 1000000) (disch := first | assumption | ((try simp only [LEN, LEN2]); omega)) only [push_cast, Int.reduceToNat, Int.reduceEq, Int.reduceNe, Int.reduceLT, Int.reduceLE, Int.reduceAdd, Int.reduceSub, Int.reduceMul, Int.reduceNeg, Nat.reduceEqDiff, Nat.reduceBEq, Nat.reduceBNe, Nat.reduceAdd, Nat.reduceLeDiff, Nat.reduceLT, Nat.reduceMul, ↓reduceIte, reduceCtorEq, g70, pf70, b70, eS]
  refine run_loop' (fun i : Nat => [(1, T.int .i64 k), (2, T.one (.box (cT S W))), (5, T.str (bs (see S[k] k (W.take i)))), (6, T.int .i64 i)]) (fun i => i ≤ W.length) (fun i => W.length - i) 0 rfl (Nat.zero_le _) (fun i hi => ?_)
  simp (maxSteps := 1000000) (disch := first | assumption | ((try simp only [LEN, LEN2]); omega)) only [push_cast, Int.reduceToNat, Int.reduceEq, Int.reduceNe, Int.reduceLT, Int.reduceLE, Int.reduceAdd, Int.reduceSub, Int.reduceMul, Int.reduceNeg, Nat.reduceEqDiff, Nat.reduceBEq, Nat.reduceBNe, Nat.reduceAdd, Nat.reduceLeDiff, Nat.reduceLT, Nat.reduceMul, ↓reduceIte, reduceCtorEq, g70, pf70, b70]
  refine If.dec (fun h => ?_) (fun h => ?_)
  · replace h : i < W.length := by omega
    by_cases hp : W[i].At = k
    · simp (maxSteps := 1000000) (disch := first | assumption | ((try simp only [LEN, LEN2]); omega)) only [push_cast, Int.reduceToNat, Int.reduceEq, Int.reduceNe, Int.reduceLT, Int.reduceLE, Int.reduceAdd, Int.reduceSub, Int.reduceMul, Int.reduceNeg, Nat.reduceEqDiff, Nat.reduceBEq, Nat.reduceBNe, Nat.reduceAdd, Nat.reduceLeDiff, Nat.reduceLT, Nat.reduceMul, ↓reduceIte, reduceCtorEq, g70, pf70, b70, eP, hp]
      refine ⟨i + 1, ?_, by omega, by omega⟩
      rw [List.take_succ_eq_append_getElem h, see_snoc, if_pos hp]
      simp
    · simp (maxSteps := 1000000) (disch := first | assumption | ((try simp only [LEN, LEN2]); omega)) only [push_cast, Int.reduceToNat, Int.reduceEq, Int.reduceNe, Int.reduceLT, Int.reduceLE, Int.reduceAdd, Int.reduceSub, Int.reduceMul, Int.reduceNeg, Nat.reduceEqDiff, Nat.reduceBEq, Nat.reduceBNe, Nat.reduceAdd, Nat.reduceLeDiff, Nat.reduceLT, Nat.reduceMul, ↓reduceIte, reduceCtorEq, g70, pf70, b70, eP, hp]
      refine ⟨i + 1, ?_, by omega, by omega⟩
      rw [List.take_succ_eq_append_getElem h, see_snoc, if_neg hp]
      simp
  · obtain rfl : i = W.length := by omega
    simp (maxSteps := 1000000) (disch := first | assumption | ((try simp only [LEN, LEN2]); omega)) only [push_cast, Int.reduceToNat, Int.reduceEq, Int.reduceNe, Int.reduceLT, Int.reduceLE, Int.reduceAdd, Int.reduceSub, Int.reduceMul, Int.reduceNeg, Nat.reduceEqDiff, Nat.reduceBEq, Nat.reduceBNe, Nat.reduceAdd, Nat.reduceLeDiff, Nat.reduceLT, Nat.reduceMul, ↓reduceIte, reduceCtorEq, g70, pf70, b70]
    simp
theorem f70c {S : List (List UInt8)} {W : List Put} {k : Nat} (hS : S.length ≤ 1000000000) (hW : W.length ≤ 1000000000) (hk : k < S.length) {g : VG} {F : Fn} {lk : Bool} {e : Env} {dst : Option Nat} {ops : List Ins} {keep : Option (List Nat)} {K : List Fr} : CallC G g F 70 [.vs true (cT S W), .int .i64 k] lk e dst ops keep K = ThenL G g F (if lk && !(T.noSl (.str (bs (see S[k] k W)))) then none else e.put g.un dst (.str (bs (see S[k] k W)))) ops keep K := callC_eq (f70 hS hW hk)
attribute [push_cast] f70c

set_option maxHeartbeats 2000000 in
theorem f67 {S : List (List UInt8)} {W : List Put} {L : List Int} (hS : S.length ≤ 1000000000) (hW : W.length ≤ 1000000000) (hL : L.length ≤ 1000000000) (hok : ∀ p ∈ W, 0 ≤ p.At ∧ p.At < S.length) : Fun G 67 [.vs true (cT S W), .one (.d (.sl (L.map eN)))] (.vs true (oT (crashS L S W) []), []) := by
  refine Fun.of_run (g := g67) (pf := pf67) rfl rfl rfl rfl ?_
  simp (maxSteps := 1000000) (disch := first | assumption | ((try simp only [LEN, LEN2]); omega)) only [push_cast, Int.reduceToNat, Int.reduceEq, Int.reduceNe, Int.reduceLT, Int.reduceLE, Int.reduceAdd, Int.reduceSub, Int.reduceMul, Int.reduceNeg, Nat.reduceEqDiff, Nat.reduceBEq, Nat.reduceBNe, Nat.reduceAdd, Nat.reduceLeDiff, Nat.reduceLT, Nat.reduceMul, ↓reduceIte, reduceCtorEq, g67, pf67, b67]
  refine run_loop' (fun i : Nat => [(1, T.one (.d (.sl (L.map eN)))), (2, T.one (.box (oT (crashS L S (W.take i)) W))), (4, T.one (.box [.own 9 [], .own 64 []])), (5, T.int .i64 i)]) (fun i => i ≤ W.length) (fun i => W.length - i) 0 rfl (Nat.zero_le _) (fun i hi => ?_)
  simp (maxSteps := 1000000) (disch := first | assumption | ((try simp only [LEN, LEN2]); omega)) only [push_cast, Int.reduceToNat, Int.reduceEq, Int.reduceNe, Int.reduceLT, Int.reduceLE, Int.reduceAdd, Int.reduceSub, Int.reduceMul, Int.reduceNeg, Nat.reduceEqDiff, Nat.reduceBEq, Nat.reduceBNe, Nat.reduceAdd, Nat.reduceLeDiff, Nat.reduceLT, Nat.reduceMul, ↓reduceIte, reduceCtorEq, g67, pf67, b67]
  refine If.dec (fun h => ?_) (fun h => ?_)
  · replace h : i < W.length := by omega
    have hp := hok W[i] (List.getElem_mem h)
    have hcl := crashS_length L S (W.take i)
    by_cases hL0 : 0 < (L.length : Int)
    · have hm : i % L.length < L.length := Nat.mod_lt _ (by omega)
      have hmod : ((i : Int) % (L.length : Int)).toNat = i % L.length := by omega
      simp (maxSteps := 1000000) (disch := first | assumption | ((try simp only [LEN, LEN2]); omega)) only [push_cast, Int.reduceToNat, Int.reduceEq, Int.reduceNe, Int.reduceLT, Int.reduceLE, Int.reduceAdd, Int.reduceSub, Int.reduceMul, Int.reduceNeg, Nat.reduceEqDiff, Nat.reduceBEq, Nat.reduceBNe, Nat.reduceAdd, Nat.reduceLeDiff, Nat.reduceLT, Nat.reduceMul, ↓reduceIte, reduceCtorEq, g67, pf67, b67, hL0, hmod, eN]
      have hk : keepB L i = decide (IntKind.i64.wrap ((BitVec.ofInt IntKind.i64.bits L[i % L.length] &&& BitVec.ofInt IntKind.i64.bits 1).toNat : Int) = 1) := by simp only [keepB, List.getElem?_eq_getElem hm, Option.any_some]; rfl
      have hlen : (W.take i).length = i := by rw [List.length_take]; omega
      refine If.dec (fun hb => ?_) (fun hb => ?_)
      · obtain ⟨n, hn⟩ := Int.eq_ofNat_of_zero_le hp.1
        have hn2 : n < (crashS L S (W.take i)).length := by omega
        simp (maxSteps := 1000000) (disch := first | assumption | ((try simp only [LEN, LEN2]); omega)) only [push_cast, Int.reduceToNat, Int.reduceEq, Int.reduceNe, Int.reduceLT, Int.reduceLE, Int.reduceAdd, Int.reduceSub, Int.reduceMul, Int.reduceNeg, Nat.reduceEqDiff, Nat.reduceBEq, Nat.reduceBNe, Nat.reduceAdd, Nat.reduceLeDiff, Nat.reduceLT, Nat.reduceMul, ↓reduceIte, reduceCtorEq, g67, pf67, b67, eP, oP, oS, hn]
        refine ⟨i + 1, ?_, by omega, by omega⟩
        rw [List.take_succ_eq_append_getElem h, crashS_snoc, hlen, hk, decide_eq_true hb, if_pos rfl]
        simp only [put1, oT, List.map_set, hn, Int.toNat_natCast, oS, Int.natCast_add, Int.cast_ofNat_Int]
      · simp (maxSteps := 1000000) (disch := first | assumption | ((try simp only [LEN, LEN2]); omega)) only [push_cast, Int.reduceToNat, Int.reduceEq, Int.reduceNe, Int.reduceLT, Int.reduceLE, Int.reduceAdd, Int.reduceSub, Int.reduceMul, Int.reduceNeg, Nat.reduceEqDiff, Nat.reduceBEq, Nat.reduceBNe, Nat.reduceAdd, Nat.reduceLeDiff, Nat.reduceLT, Nat.reduceMul, ↓reduceIte, reduceCtorEq, g67, pf67, b67]
        refine ⟨i + 1, ?_, by omega, by omega⟩
        rw [List.take_succ_eq_append_getElem h, crashS_snoc, hlen, hk, decide_eq_false hb, if_neg (by simp)]
        simp
    · have hL1 : L = [] := List.length_eq_zero_iff.1 (by omega)
      simp (maxSteps := 1000000) (disch := first | assumption | ((try simp only [LEN, LEN2]); omega)) only [push_cast, Int.reduceToNat, Int.reduceEq, Int.reduceNe, Int.reduceLT, Int.reduceLE, Int.reduceAdd, Int.reduceSub, Int.reduceMul, Int.reduceNeg, Nat.reduceEqDiff, Nat.reduceBEq, Nat.reduceBNe, Nat.reduceAdd, Nat.reduceLeDiff, Nat.reduceLT, Nat.reduceMul, ↓reduceIte, reduceCtorEq, g67, pf67, b67, hL0]
      refine ⟨i + 1, ?_, by omega, by omega⟩
      rw [List.take_succ_eq_append_getElem h, crashS_snoc, if_neg (by simp [hL1, keepB])]
      simp
  · obtain rfl : i = W.length := by omega
    simp (maxSteps := 1000000) (disch := first | assumption | ((try simp only [LEN, LEN2]); omega)) only [push_cast, Int.reduceToNat, Int.reduceEq, Int.reduceNe, Int.reduceLT, Int.reduceLE, Int.reduceAdd, Int.reduceSub, Int.reduceMul, Int.reduceNeg, Nat.reduceEqDiff, Nat.reduceBEq, Nat.reduceBNe, Nat.reduceAdd, Nat.reduceLeDiff, Nat.reduceLT, Nat.reduceMul, ↓reduceIte, reduceCtorEq, g67, pf67, b67]
    simp
theorem f67c {S : List (List UInt8)} {W : List Put} {L : List Int} (hS : S.length ≤ 1000000000) (hW : W.length ≤ 1000000000) (hL : L.length ≤ 1000000000) (hok : ∀ p ∈ W, 0 ≤ p.At ∧ p.At < S.length) {g : VG} {F : Fn} {lk : Bool} {e : Env} {dst : Option Nat} {ops : List Ins} {keep : Option (List Nat)} {K : List Fr} : CallC G g F 67 [.vs true (cT S W), .one (.d (.sl (L.map eN)))] lk e dst ops keep K = ThenL G g F (if lk && !(T.noSl (.vs true (oT (crashS L S W) []))) then none else e.put g.un dst (.vs true (oT (crashS L S W) []))) ops keep K := callC_eq (f67 hS hW hL hok)
attribute [push_cast] f67c
end Go.Mir.Try

/- Walks: the page's tape: steps played. -/
set_option linter.unusedVariables false
set_option linter.unusedSimpArgs false
set_option maxRecDepth 100000
namespace Go.Mir.Try
open Go.Proofs Go.Mir.Q

abbrev tErr (e : Int) (t : Q.Tape) : T := .tup [(true, oT t.Sectors t.Waits), (false, [.d (.sc (.int .i64 e))])]

set_option maxHeartbeats 2000000 in
theorem f72 {S : List (List UInt8)} {W : List Put} {n : Int} {l : List Do} (hok : okT S W = true) (hl : smDo l) : Fun G 72 [.vs true (cT S W), .int .i64 n, .one (.d (.sl (l.map eDo)))] (tErr (playT ⟨S, W⟩ (upto n l)).1 (playT ⟨S, W⟩ (upto n l)).2, []) := by
  refine Fun.of_run (g := g72) (pf := pf72) rfl rfl rfl rfl ?_
  have hok0 := okT_iff.1 hok
  obtain ⟨hl, hl2⟩ := hl
  simp (maxSteps := 1000000) (disch := first | assumption | ((try simp only [LEN, LEN2]); omega)) only [push_cast, Int.reduceToNat, Int.reduceEq, Int.reduceNe, Int.reduceLT, Int.reduceLE, Int.reduceAdd, Int.reduceSub, Int.reduceMul, Int.reduceNeg, Nat.reduceEqDiff, Nat.reduceBEq, Nat.reduceBNe, Nat.reduceAdd, Nat.reduceLeDiff, Nat.reduceLT, Nat.reduceMul, ↓reduceIte, reduceCtorEq, g72, pf72, b72]
  refine run_loop' (fun i : Nat => [(1, T.int .i64 n), (2, T.one (.d (.sl (l.map eDo)))), (3, T.one (.box (oT (playT ⟨S, W⟩ (l.take i)).2.Sectors (playT ⟨S, W⟩ (l.take i)).2.Waits))), (6, T.one (.box [.own 9 [], .own 64 []])), (8, T.int .i64 i)]) (fun i => i ≤ (upto n l).length ∧ (playT ⟨S, W⟩ (l.take i)).1 = 0) (fun i => l.length - i) 0 rfl ⟨Nat.zero_le _, rfl⟩ (fun i hi => ?_)
  obtain ⟨hi, h0⟩ := hi
  have hoki := okT_play hok h0
  obtain ⟨S', W', hT⟩ : ∃ S' W', (playT ⟨S, W⟩ (l.take i)).2 = ⟨S', W'⟩ := ⟨_, _, rfl⟩
  simp only [hT] at hoki
  have hok1 := okT_iff.1 hoki
  have hle := upto_le n l
  by_cases hin : i < (upto n l).length
  · obtain ⟨hin1, hin2⟩ := (upto_len n l i).1 hin
    have hd := hl2 l[i] (List.getElem_mem hin1)
    obtain ⟨d, hd0⟩ : ∃ d, d = l[i] := ⟨_, rfl⟩
    have hsn := playT_snoc (d := l[i]) h0
    rw [← List.take_succ_eq_append_getElem hin1, hT, ← hd0] at hsn
    have hui : (upto n l).take (i + 1) = l.take (i + 1) := upto_take n l hin
    have hend : (playT ⟨S, W⟩ (l.take (i + 1))).1 ≠ 0 → playT ⟨S, W⟩ (upto n l) = playT ⟨S, W⟩ (l.take (i + 1)) := fun hne => by
      conv => lhs; rw [← List.take_append_drop (i + 1) (upto n l), hui]
      exact playT_err hne
    have hc1 : (i : Int) < l.length := by omega
    rw [← hd0] at hd
    have hq0 : ((n < 0) = True ∧ ((1 : Nat) = 1) = True) ∨ ((n < 0) = False ∧ ((i : Int) < n) = True) := by
      by_cases hn : n < 0
      · exact .inl ⟨by simp [hn], by simp⟩
      · exact .inr ⟨by simp [hn], by simp; omega⟩
    have hsy : Fun G 67 [.vs true (cT S' W'), .one (.d (.sl [[.sc (.int .i64 1)]]))] (.vs true (oT (flush S' W') []), []) := by
      have := f67 (S := S') (W := W') (L := [1]) (by omega) (by omega) (by simp) (fun p hp => ⟨(hok1.2.2 p hp).1, (hok1.2.2 p hp).2.1⟩)
      rwa [crashS_one] at this
    have hgo : (playT ⟨S, W⟩ (l.take (i + 1))).1 = 0 → ∀ S2 W2, (playT ⟨S, W⟩ (l.take (i + 1))).2 = ⟨S2, W2⟩ → ∃ a : Nat, ([(1, T.int .i64 n), (2, T.one (.d (.sl (l.map eDo)))), (3, T.one (.box (oT S2 W2))), (6, T.one (.box [.own 9 [], .own 64 []])), (8, T.int .i64 ((i : Int) + 1))] : Env) =
        [(1, T.int .i64 n), (2, T.one (.d (.sl (l.map eDo)))), (3, T.one (.box (oT (playT ⟨S, W⟩ (l.take a)).2.Sectors (playT ⟨S, W⟩ (l.take a)).2.Waits))), (6, T.one (.box [.own 9 [], .own 64 []])), (8, T.int .i64 a)] ∧ (a ≤ (upto n l).length ∧ (playT ⟨S, W⟩ (l.take a)).1 = 0) ∧ l.length - a < l.length - i := fun h S2 W2 h2 =>
      ⟨i + 1, by rw [h2]; simp, ⟨by omega, h⟩, by omega⟩
    rcases hq0 with ⟨hq, hr⟩ | ⟨hq, hr⟩
    all_goals
      cases hsync : d.Sync with
      | true =>
        rw [step_sync hsync] at hsn
        simp only [if_true] at hsn
        simp (maxSteps := 1000000) (disch := first | assumption | ((try simp only [LEN, LEN2]); omega)) only [push_cast, Int.reduceToNat, Int.reduceEq, Int.reduceNe, Int.reduceLT, Int.reduceLE, Int.reduceAdd, Int.reduceSub, Int.reduceMul, Int.reduceNeg, Nat.reduceEqDiff, Nat.reduceBEq, Nat.reduceBNe, Nat.reduceAdd, Nat.reduceLeDiff, Nat.reduceLT, Nat.reduceMul, ↓reduceIte, reduceCtorEq, g72, pf72, b72, hT, hc1, hq, hr, eDo, ← hd0, hsync, callC_eq hsy]
        have := hgo (by rw [hsn]) (flush S' W') [] (by rw [hsn])
        simpa only [oT, List.map_nil] using this
      | false =>
        by_cases hat : 0 ≤ d.Put.At ∧ d.Put.At ≤ (S'.length : Int) - 1
        · have hat' : 0 ≤ d.Put.At ∧ d.Put.At < S'.length := by omega
          by_cases hlen : (d.Put.Text.length : Int) = 32
          · by_cases hlim : 2048 ≤ (W'.length : Int)
            · rw [step_limit hsync hat' (by omega) (by simp only; omega)] at hsn
              have := hend (by rw [hsn]; simp)
              simp (maxSteps := 1000000) (disch := first | assumption | ((try simp only [LEN, LEN2]); omega)) only [push_cast, Int.reduceToNat, Int.reduceEq, Int.reduceNe, Int.reduceLT, Int.reduceLE, Int.reduceAdd, Int.reduceSub, Int.reduceMul, Int.reduceNeg, Nat.reduceEqDiff, Nat.reduceBEq, Nat.reduceBNe, Nat.reduceAdd, Nat.reduceLeDiff, Nat.reduceLT, Nat.reduceMul, ↓reduceIte, reduceCtorEq, g72, pf72, b72, hT, hc1, hq, hr, eDo, ← hd0, hsync, hat, hlen, hlim]
              rw [this, hsn]; simp
            · rw [step_ok hsync hat' (by omega) (by simp only; omega)] at hsn
              simp only [if_true] at hsn
              simp (maxSteps := 1000000) (disch := first | assumption | ((try simp only [LEN, LEN2]); omega)) only [push_cast, Int.reduceToNat, Int.reduceEq, Int.reduceNe, Int.reduceLT, Int.reduceLE, Int.reduceAdd, Int.reduceSub, Int.reduceMul, Int.reduceNeg, Nat.reduceEqDiff, Nat.reduceBEq, Nat.reduceBNe, Nat.reduceAdd, Nat.reduceLeDiff, Nat.reduceLT, Nat.reduceMul, ↓reduceIte, reduceCtorEq, g72, pf72, b72, hT, hc1, hq, hr, eDo, oP, ← hd0, hsync, hat, hlen, hlim]
              have := hgo (by rw [hsn]) S' (W' ++ [d.Put]) (by rw [hsn])
              simpa only [oT, List.map_append, List.map_cons, List.map_nil, oP] using this
          · rw [step_form hsync hat' (by omega)] at hsn
            have := hend (by rw [hsn]; simp)
            simp (maxSteps := 1000000) (disch := first | assumption | ((try simp only [LEN, LEN2]); omega)) only [push_cast, Int.reduceToNat, Int.reduceEq, Int.reduceNe, Int.reduceLT, Int.reduceLE, Int.reduceAdd, Int.reduceSub, Int.reduceMul, Int.reduceNeg, Nat.reduceEqDiff, Nat.reduceBEq, Nat.reduceBNe, Nat.reduceAdd, Nat.reduceLeDiff, Nat.reduceLT, Nat.reduceMul, ↓reduceIte, reduceCtorEq, g72, pf72, b72, hT, hc1, hq, hr, eDo, ← hd0, hsync, hat, hlen]
            rw [this, hsn]; simp
        · rw [step_none hsync (by simp only; omega)] at hsn
          have := hend (by rw [hsn]; simp)
          simp (maxSteps := 1000000) (disch := first | assumption | ((try simp only [LEN, LEN2]); omega)) only [push_cast, Int.reduceToNat, Int.reduceEq, Int.reduceNe, Int.reduceLT, Int.reduceLE, Int.reduceAdd, Int.reduceSub, Int.reduceMul, Int.reduceNeg, Nat.reduceEqDiff, Nat.reduceBEq, Nat.reduceBNe, Nat.reduceAdd, Nat.reduceLeDiff, Nat.reduceLT, Nat.reduceMul, ↓reduceIte, reduceCtorEq, g72, pf72, b72, hT, hc1, hq, hr, eDo, ← hd0, hsync, hat]
          rw [this, hsn]; simp
  · have hii : i = (upto n l).length := by omega
    have hfin : playT ⟨S, W⟩ (upto n l) = (0, ⟨S', W'⟩) := by
      have h1 := upto_take n l (Nat.le_of_eq hii)
      rw [hii, List.take_length, ← hii] at h1
      rw [h1]
      exact Prod.ext h0 hT
    have hnot := mt (upto_len n l i).2 hin
    by_cases hc1 : (i : Int) < l.length
    · have hq : (n < 0) = False := by simp; omega
      have hr : ((i : Int) < n) = False := by simp; omega
      simp (maxSteps := 1000000) (disch := first | assumption | ((try simp only [LEN, LEN2]); omega)) only [push_cast, Int.reduceToNat, Int.reduceEq, Int.reduceNe, Int.reduceLT, Int.reduceLE, Int.reduceAdd, Int.reduceSub, Int.reduceMul, Int.reduceNeg, Nat.reduceEqDiff, Nat.reduceBEq, Nat.reduceBNe, Nat.reduceAdd, Nat.reduceLeDiff, Nat.reduceLT, Nat.reduceMul, ↓reduceIte, reduceCtorEq, g72, pf72, b72, hT, hc1, hq, hr]
      rw [hfin]
    · simp (maxSteps := 1000000) (disch := first | assumption | ((try simp only [LEN, LEN2]); omega)) only [push_cast, Int.reduceToNat, Int.reduceEq, Int.reduceNe, Int.reduceLT, Int.reduceLE, Int.reduceAdd, Int.reduceSub, Int.reduceMul, Int.reduceNeg, Nat.reduceEqDiff, Nat.reduceBEq, Nat.reduceBNe, Nat.reduceAdd, Nat.reduceLeDiff, Nat.reduceLT, Nat.reduceMul, ↓reduceIte, reduceCtorEq, g72, pf72, b72, hT, hc1]
      rw [hfin]
theorem f72c {S : List (List UInt8)} {W : List Put} {n : Int} {l : List Do} (hok : okT S W = true) (hl : smDo l) {g : VG} {F : Fn} {lk : Bool} {e : Env} {dst : Option Nat} {ops : List Ins} {keep : Option (List Nat)} {K : List Fr} : CallC G g F 72 [.vs true (cT S W), .int .i64 n, .one (.d (.sl (l.map eDo)))] lk e dst ops keep K = ThenL G g F (if lk && !(T.noSl (tErr (playT ⟨S, W⟩ (upto n l)).1 (playT ⟨S, W⟩ (upto n l)).2)) then none else e.put g.un dst (tErr (playT ⟨S, W⟩ (upto n l)).1 (playT ⟨S, W⟩ (upto n l)).2)) ops keep K := callC_eq (f72 hok hl)
attribute [push_cast] f72c
end Go.Mir.Try

/- Walks: the program's tape. -/
set_option linter.unusedVariables false
set_option linter.unusedSimpArgs false
set_option maxRecDepth 100000
namespace Go.Mir.Try
open Go.Proofs Go.Mir.Q

theorem Fun.given {f : FuncId} {pm : List PM} {h : List T → Option Res} {args : List T} {r : Res} (hg : G.given f = some (pm, h)) (hr : h args = some r) : Fun G f args r := ⟨1, by simp [callK, hg, hr]⟩
theorem map_d_eS (l : List (List UInt8)) : (l.map eS).map (fun x => x.map V.d) = l.map oS := by simp [eS, oS]

theorem f93 {S : List (List UInt8)} (h : S.length ≤ 1000000) : Fun G 93 [.one (.d (.sl (S.map eS)))] (.one (.own 9 (S.map oS)), []) := by
  refine Fun.given rfl ?_
  simp only [cloneGiven]
  rw [if_pos ⟨by rw [show Try.prog.cellsOf 9 = 1 by decide +kernel]; simp [eS], by rw [show Try.prog.bytesOf 9 = 16 by decide +kernel]; simp; omega, by simp; omega⟩, dV_eS]
theorem f94 {S : List Put} (h : S.length ≤ 1000000) : Fun G 94 [.one (.d (.sl (S.map eP)))] (.one (.own 64 (S.map oP)), []) := by
  refine Fun.given rfl ?_
  simp only [cloneGiven]
  rw [if_pos ⟨by rw [show Try.prog.cellsOf 64 = 2 by decide +kernel]; simp [eP], by rw [show Try.prog.bytesOf 64 = 24 by decide +kernel]; simp; omega, by simp; omega⟩, dV_eP]

set_option maxHeartbeats 2000000 in
theorem f57 {S : List (List UInt8)} {W : List Put} (h1 : S.length ≤ 1000000) (h2 : W.length ≤ 1000000) : Fun G 57 [.vs true (cT S W)] (.vs true (oT S W), []) := by
  refine Fun.of_run (g := g57) (pf := pf57) rfl rfl rfl rfl ?_
  simp (maxSteps := 1000000) (disch := first | assumption | ((try simp only [LEN, LEN2]); omega)) only [push_cast, Int.reduceToNat, Int.reduceEq, Int.reduceNe, Int.reduceLT, Int.reduceLE, Int.reduceAdd, Int.reduceSub, Int.reduceMul, Int.reduceNeg, Nat.reduceEqDiff, Nat.reduceBEq, Nat.reduceBNe, Nat.reduceAdd, Nat.reduceLeDiff, Nat.reduceLT, Nat.reduceMul, ↓reduceIte, reduceCtorEq, g57, pf57, b57, callC_eq (f93 h1), callC_eq (f94 h2)]
theorem f57c {S : List (List UInt8)} {W : List Put} (h1 : S.length ≤ 1000000) (h2 : W.length ≤ 1000000) {g : VG} {F : Fn} {lk : Bool} {e : Env} {dst : Option Nat} {ops : List Ins} {keep : Option (List Nat)} {K : List Fr} : CallC G g F 57 [.vs true (cT S W)] lk e dst ops keep K = ThenL G g F (if lk && !(T.noSl (.vs true (oT S W))) then none else e.put g.un dst (.vs true (oT S W))) ops keep K := callC_eq (f57 h1 h2)
attribute [push_cast] f57c

set_option maxHeartbeats 2000000 in
theorem f74 {S : List (List UInt8)} {W : List Put} (h1 : S.length ≤ 1000000000) (h2 : W.length ≤ 1000000000) : Fun G 74 [.vs true (cT S W)] (.int .i64 (if okT S W then 0 else 1), []) := by
  refine Fun.of_run (g := g74) (pf := pf74) rfl rfl rfl rfl ?_
  cases h : okT S W <;> simp (maxSteps := 1000000) (disch := first | assumption | ((try simp only [LEN, LEN2]); omega)) only [push_cast, Int.reduceToNat, Int.reduceEq, Int.reduceNe, Int.reduceLT, Int.reduceLE, Int.reduceAdd, Int.reduceSub, Int.reduceMul, Int.reduceNeg, Nat.reduceEqDiff, Nat.reduceBEq, Nat.reduceBNe, Nat.reduceAdd, Nat.reduceLeDiff, Nat.reduceLT, Nat.reduceMul, ↓reduceIte, reduceCtorEq, g74, pf74, b74, h]
theorem f74c {S : List (List UInt8)} {W : List Put} (h1 : S.length ≤ 1000000000) (h2 : W.length ≤ 1000000000) {g : VG} {F : Fn} {lk : Bool} {e : Env} {dst : Option Nat} {ops : List Ins} {keep : Option (List Nat)} {K : List Fr} : CallC G g F 74 [.vs true (cT S W)] lk e dst ops keep K = ThenL G g F (if lk && !(T.noSl (.int .i64 (if okT S W then 0 else 1))) then none else e.put g.un dst (.int .i64 (if okT S W then 0 else 1))) ops keep K := callC_eq (f74 h1 h2)
attribute [push_cast] f74c

set_option maxHeartbeats 2000000 in
theorem f69 {S : List (List UInt8)} {W : List Put} (h1 : S.length ≤ 1000000000) (h2 : W.length ≤ 1000000000) : Fun G 69 [.vs true (cT S W)] (.tup [(false, [.d (.sc (.int .i64 (if okT S W then W.length else 0)))]), (false, [.d (.sc (.int .i64 (if okT S W then 0 else 1)))])], []) := by
  refine Fun.of_run (g := g69) (pf := pf69) rfl rfl rfl rfl ?_
  cases h : okT S W <;> simp (maxSteps := 1000000) (disch := first | assumption | ((try simp only [LEN, LEN2]); omega)) only [push_cast, Int.reduceToNat, Int.reduceEq, Int.reduceNe, Int.reduceLT, Int.reduceLE, Int.reduceAdd, Int.reduceSub, Int.reduceMul, Int.reduceNeg, Nat.reduceEqDiff, Nat.reduceBEq, Nat.reduceBNe, Nat.reduceAdd, Nat.reduceLeDiff, Nat.reduceLT, Nat.reduceMul, ↓reduceIte, reduceCtorEq, g69, pf69, b69, h]
theorem f69c {S : List (List UInt8)} {W : List Put} (h1 : S.length ≤ 1000000000) (h2 : W.length ≤ 1000000000) {g : VG} {F : Fn} {lk : Bool} {e : Env} {dst : Option Nat} {ops : List Ins} {keep : Option (List Nat)} {K : List Fr} : CallC G g F 69 [.vs true (cT S W)] lk e dst ops keep K = ThenL G g F (if lk && !(T.noSl (.tup [(false, [.d (.sc (.int .i64 (if okT S W then W.length else 0)))]), (false, [.d (.sc (.int .i64 (if okT S W then 0 else 1)))])])) then none else e.put g.un dst (.tup [(false, [.d (.sc (.int .i64 (if okT S W then W.length else 0)))]), (false, [.d (.sc (.int .i64 (if okT S W then 0 else 1)))])])) ops keep K := callC_eq (f69 h1 h2)
attribute [push_cast] f69c

theorem f64 : Fun G 64 [.str (bs [0]), .int .i64 32] (.str (bs zeros), []) := by
  refine Fun.given rfl ?_
  simp only [repGiven]
  rw [if_pos ⟨by decide, by decide, by decide⟩]
  rfl
theorem f63 {s : List UInt8} {n : Int} (h1 : 1 ≤ n) (h2 : n ≤ 512) : Fun G 63 [.one (.d (.sl [[.sc (.string (bs s))]])), .int .i64 n] (.one (.own 9 ((List.replicate n.toNat s).map oS)), []) := by
  refine Fun.given rfl ?_
  simp only [sreGiven]
  rw [if_pos ⟨h1, by omega⟩, List.map_replicate]; rfl

set_option maxHeartbeats 2000000 in
theorem f35 {n : Int}  : Fun G 35 [.int .i64 n] ((if 1 ≤ n ∧ n ≤ 512 then .tup [(true, oT (List.replicate n.toNat zeros) []), (false, [.d (.sc (.int .i64 0))])] else .tup [(true, oT [] []), (false, [.d (.sc (.int .i64 1))])]), []) := by
  refine Fun.of_run (g := g35) (pf := pf35) rfl rfl rfl rfl ?_
  by_cases h : n < 1
  · rw [if_neg (by omega)]
    simp (maxSteps := 1000000) (disch := first | assumption | ((try simp only [LEN, LEN2]); omega)) only [push_cast, Int.reduceToNat, Int.reduceEq, Int.reduceNe, Int.reduceLT, Int.reduceLE, Int.reduceAdd, Int.reduceSub, Int.reduceMul, Int.reduceNeg, Nat.reduceEqDiff, Nat.reduceBEq, Nat.reduceBNe, Nat.reduceAdd, Nat.reduceLeDiff, Nat.reduceLT, Nat.reduceMul, ↓reduceIte, reduceCtorEq, g35, pf35, b35, h]
    simp
  · by_cases h2 : 512 < n
    · rw [if_neg (by omega)]
      simp (maxSteps := 1000000) (disch := first | assumption | ((try simp only [LEN, LEN2]); omega)) only [push_cast, Int.reduceToNat, Int.reduceEq, Int.reduceNe, Int.reduceLT, Int.reduceLE, Int.reduceAdd, Int.reduceSub, Int.reduceMul, Int.reduceNeg, Nat.reduceEqDiff, Nat.reduceBEq, Nat.reduceBNe, Nat.reduceAdd, Nat.reduceLeDiff, Nat.reduceLT, Nat.reduceMul, ↓reduceIte, reduceCtorEq, g35, pf35, b35, h, h2]
      simp
    · rw [if_pos (by omega)]
      have h3 := f63 (s := zeros) (n := n) (by omega) (by omega)
      simp (maxSteps := 1000000) (disch := first | assumption | ((try simp only [LEN, LEN2]); omega)) only [push_cast, Int.reduceToNat, Int.reduceEq, Int.reduceNe, Int.reduceLT, Int.reduceLE, Int.reduceAdd, Int.reduceSub, Int.reduceMul, Int.reduceNeg, Nat.reduceEqDiff, Nat.reduceBEq, Nat.reduceBNe, Nat.reduceAdd, Nat.reduceLeDiff, Nat.reduceLT, Nat.reduceMul, ↓reduceIte, reduceCtorEq, g35, pf35, b35, h, h2, callC_eq f64, callC_eq h3]
      simp
theorem f35c {n : Int}  {g : VG} {F : Fn} {lk : Bool} {e : Env} {dst : Option Nat} {ops : List Ins} {keep : Option (List Nat)} {K : List Fr} : CallC G g F 35 [.int .i64 n] lk e dst ops keep K = ThenL G g F (if lk && !(T.noSl ((if 1 ≤ n ∧ n ≤ 512 then .tup [(true, oT (List.replicate n.toNat zeros) []), (false, [.d (.sc (.int .i64 0))])] else .tup [(true, oT [] []), (false, [.d (.sc (.int .i64 1))])]))) then none else e.put g.un dst ((if 1 ≤ n ∧ n ≤ 512 then .tup [(true, oT (List.replicate n.toNat zeros) []), (false, [.d (.sc (.int .i64 0))])] else .tup [(true, oT [] []), (false, [.d (.sc (.int .i64 1))])]))) ops keep K := callC_eq (f35 )
attribute [push_cast] f35c

abbrev cDo (d : Do) : List V := [.d (.sc (.bool d.Sync)), .d (.sc (.int .i64 d.Put.At)), .d (.sc (.string (bs d.Put.Text)))]

set_option maxHeartbeats 2000000 in
theorem f58 {S : List (List UInt8)} {W : List Put} {d : Do} (hok : okT S W = true) (hd : d.Put.Text.length ≤ 1000000000) : Fun G 58 [.one (.box (oT S W)), .vs true (cDo d)] (.int .i64 (Q.stepT ⟨S, W⟩ d).1, [.box (oT (Q.stepT ⟨S, W⟩ d).2.Sectors (Q.stepT ⟨S, W⟩ d).2.Waits)]) := by
  refine Fun.of_run (g := g58) (pf := pf58) rfl rfl rfl rfl ?_
  have hok1 := okT_iff.1 hok
  cases hsync : d.Sync with
  | true =>
    rw [step_sync hsync]
    simp (maxSteps := 1000000) (disch := first | assumption | ((try simp only [LEN, LEN2]); omega)) only [push_cast, Int.reduceToNat, Int.reduceEq, Int.reduceNe, Int.reduceLT, Int.reduceLE, Int.reduceAdd, Int.reduceSub, Int.reduceMul, Int.reduceNeg, Nat.reduceEqDiff, Nat.reduceBEq, Nat.reduceBNe, Nat.reduceAdd, Nat.reduceLeDiff, Nat.reduceLT, Nat.reduceMul, ↓reduceIte, reduceCtorEq, g58, pf58, b58, hsync]
    refine run_loop' (fun i : Nat => [(0, T.one (.box (oT (flush S (W.take i)) W))), (24, T.ref 0 0 [(0, 1)]), (25, T.int .i64 W.length), (26, T.int .i64 i)]) (fun i => i ≤ W.length) (fun i => W.length - i) 0 rfl (Nat.zero_le _) (fun i hi => ?_)
    simp (maxSteps := 1000000) (disch := first | assumption | ((try simp only [LEN, LEN2]); omega)) only [push_cast, Int.reduceToNat, Int.reduceEq, Int.reduceNe, Int.reduceLT, Int.reduceLE, Int.reduceAdd, Int.reduceSub, Int.reduceMul, Int.reduceNeg, Nat.reduceEqDiff, Nat.reduceBEq, Nat.reduceBNe, Nat.reduceAdd, Nat.reduceLeDiff, Nat.reduceLT, Nat.reduceMul, ↓reduceIte, reduceCtorEq, g58, pf58, b58]
    refine If.dec (fun h => ?_) (fun h => ?_)
    · replace h : i < W.length := by omega
      have hp := hok1.2.2 W[i] (List.getElem_mem h)
      have hcl := flush_length (W.take i) S
      obtain ⟨n, hn⟩ := Int.eq_ofNat_of_zero_le hp.1
      have hn2 : n < (flush S (W.take i)).length := by omega
      simp (maxSteps := 1000000) (disch := first | assumption | ((try simp only [LEN, LEN2]); omega)) only [push_cast, Int.reduceToNat, Int.reduceEq, Int.reduceNe, Int.reduceLT, Int.reduceLE, Int.reduceAdd, Int.reduceSub, Int.reduceMul, Int.reduceNeg, Nat.reduceEqDiff, Nat.reduceBEq, Nat.reduceBNe, Nat.reduceAdd, Nat.reduceLeDiff, Nat.reduceLT, Nat.reduceMul, ↓reduceIte, reduceCtorEq, g58, pf58, b58, oP, oS, hn]
      refine ⟨i + 1, ?_, by omega, by omega⟩
      rw [List.take_succ_eq_append_getElem h, flush_snoc]
      simp only [put1, oT, List.map_set, hn, Int.toNat_natCast, oS, Int.natCast_add, Int.cast_ofNat_Int]
    · obtain rfl : i = W.length := by omega
      simp (maxSteps := 1000000) (disch := first | assumption | ((try simp only [LEN, LEN2]); omega)) only [push_cast, Int.reduceToNat, Int.reduceEq, Int.reduceNe, Int.reduceLT, Int.reduceLE, Int.reduceAdd, Int.reduceSub, Int.reduceMul, Int.reduceNeg, Nat.reduceEqDiff, Nat.reduceBEq, Nat.reduceBNe, Nat.reduceAdd, Nat.reduceLeDiff, Nat.reduceLT, Nat.reduceMul, ↓reduceIte, reduceCtorEq, g58, pf58, b58]
      simp
  | false =>
    by_cases hat : 0 ≤ d.Put.At ∧ d.Put.At < S.length
    · by_cases hlen : d.Put.Text.length = 32
      · by_cases hlim : 2048 ≤ W.length
        · have hlim' : (2048 : Int) ≤ W.length := by omega
          rw [step_limit (T := ⟨S, W⟩) hsync hat hlen hlim]
          simp (maxSteps := 1000000) (disch := first | assumption | ((try simp only [LEN, LEN2]); omega)) only [push_cast, Int.reduceToNat, Int.reduceEq, Int.reduceNe, Int.reduceLT, Int.reduceLE, Int.reduceAdd, Int.reduceSub, Int.reduceMul, Int.reduceNeg, Nat.reduceEqDiff, Nat.reduceBEq, Nat.reduceBNe, Nat.reduceAdd, Nat.reduceLeDiff, Nat.reduceLT, Nat.reduceMul, ↓reduceIte, reduceCtorEq, g58, pf58, b58, hsync, hat, hlen, hlim']
        · have hlim' : ¬ (2048 : Int) ≤ W.length := by omega
          rw [step_ok (T := ⟨S, W⟩) hsync hat hlen hlim]
          simp (maxSteps := 1000000) (disch := first | assumption | ((try simp only [LEN, LEN2]); omega)) only [push_cast, Int.reduceToNat, Int.reduceEq, Int.reduceNe, Int.reduceLT, Int.reduceLE, Int.reduceAdd, Int.reduceSub, Int.reduceMul, Int.reduceNeg, Nat.reduceEqDiff, Nat.reduceBEq, Nat.reduceBNe, Nat.reduceAdd, Nat.reduceLeDiff, Nat.reduceLT, Nat.reduceMul, ↓reduceIte, reduceCtorEq, g58, pf58, b58, hsync, hat, hlen, hlim', oP]
          simp [oP]
      · rw [step_form (T := ⟨S, W⟩) hsync hat hlen]
        simp (maxSteps := 1000000) (disch := first | assumption | ((try simp only [LEN, LEN2]); omega)) only [push_cast, Int.reduceToNat, Int.reduceEq, Int.reduceNe, Int.reduceLT, Int.reduceLE, Int.reduceAdd, Int.reduceSub, Int.reduceMul, Int.reduceNeg, Nat.reduceEqDiff, Nat.reduceBEq, Nat.reduceBNe, Nat.reduceAdd, Nat.reduceLeDiff, Nat.reduceLT, Nat.reduceMul, ↓reduceIte, reduceCtorEq, g58, pf58, b58, hsync, hat, hlen]
    · rw [step_none (T := ⟨S, W⟩) hsync hat]
      simp (maxSteps := 1000000) (disch := first | assumption | ((try simp only [LEN, LEN2]); omega)) only [push_cast, Int.reduceToNat, Int.reduceEq, Int.reduceNe, Int.reduceLT, Int.reduceLE, Int.reduceAdd, Int.reduceSub, Int.reduceMul, Int.reduceNeg, Nat.reduceEqDiff, Nat.reduceBEq, Nat.reduceBNe, Nat.reduceAdd, Nat.reduceLeDiff, Nat.reduceLT, Nat.reduceMul, ↓reduceIte, reduceCtorEq, g58, pf58, b58, hsync, hat]
theorem f58t {S : List (List UInt8)} {W : List Put} {d : Do} (hok : okT S W = true) (hd : d.Put.Text.length ≤ 1000000000) {g : VG} {F : Fn} {lk : Bool} {ags : List Arg} {e0 e1 : Env} {dst : Option Nat} {ops : List Ins} {keep : Option (List Nat)} {K : List Fr} : CallT G g F 58 [.one (.box (oT S W)), .vs true (cDo d)] lk ags e0 e1 dst ops keep K = RetT G g F (.int .i64 (Q.stepT ⟨S, W⟩ d).1) [.box (oT (Q.stepT ⟨S, W⟩ d).2.Sectors (Q.stepT ⟨S, W⟩ d).2.Waits)] lk ags e0 e1 dst ops keep K := callT_eq (f58 hok hd)
attribute [push_cast] f58t
end Go.Mir.Try

/- Walks: the program's tape: steps, and the power. -/
set_option linter.unusedVariables false
set_option linter.unusedSimpArgs false
set_option maxRecDepth 100000
namespace Go.Mir.Try
open Go.Proofs Go.Mir.Q

abbrev tErr' (e : Int) (t : Q.Tape) : T := .tup [(true, oT t.Sectors t.Waits), (false, [.d (.sc (.int .i64 e))])]

/-- What tape.Play tells. -/
def playP (S : List (List UInt8)) (W : List Put) (n : Int) (l : List Do) : Int × Q.Tape :=
  if okT S W = true ∧ -1 ≤ n then playT ⟨S, W⟩ (upto n l) else (1, ⟨[], []⟩)

set_option maxHeartbeats 2000000 in
theorem f27 {S : List (List UInt8)} {W : List Put} {n : Int} {l : List Do} (hS : S.length ≤ 1000000000) (hW : W.length ≤ 1000000000) (hl : smDo l) : Fun G 27 [.vs true (cT S W), .int .i64 n, .one (.d (.sl (l.map eDo)))] (tErr' (playP S W n l).1 (playP S W n l).2, []) := by
  refine Fun.of_run (g := g27) (pf := pf27) rfl rfl rfl rfl ?_
  obtain ⟨hl, hl2⟩ := hl
  cases hok : okT S W with
  | false =>
    have : playP S W n l = (1, ⟨[], []⟩) := by simp [playP, hok]
    simp (maxSteps := 1000000) (disch := first | assumption | ((try simp only [LEN, LEN2]); omega)) only [push_cast, Int.reduceToNat, Int.reduceEq, Int.reduceNe, Int.reduceLT, Int.reduceLE, Int.reduceAdd, Int.reduceSub, Int.reduceMul, Int.reduceNeg, Nat.reduceEqDiff, Nat.reduceBEq, Nat.reduceBNe, Nat.reduceAdd, Nat.reduceLeDiff, Nat.reduceLT, Nat.reduceMul, ↓reduceIte, reduceCtorEq, g27, pf27, b27, hok]
    rw [this]; simp
  | true =>
  by_cases hn : n < -1
  · have : playP S W n l = (1, ⟨[], []⟩) := by unfold playP; rw [if_neg (by omega)]
    simp (maxSteps := 1000000) (disch := first | assumption | ((try simp only [LEN, LEN2]); omega)) only [push_cast, Int.reduceToNat, Int.reduceEq, Int.reduceNe, Int.reduceLT, Int.reduceLE, Int.reduceAdd, Int.reduceSub, Int.reduceMul, Int.reduceNeg, Nat.reduceEqDiff, Nat.reduceBEq, Nat.reduceBNe, Nat.reduceAdd, Nat.reduceLeDiff, Nat.reduceLT, Nat.reduceMul, ↓reduceIte, reduceCtorEq, g27, pf27, b27, hok, hn]
    rw [this]; simp
  have hpl : playP S W n l = playT ⟨S, W⟩ (upto n l) := by unfold playP; rw [if_pos ⟨hok, by omega⟩]
  rw [hpl]
  have hok0 := okT_iff.1 hok
  simp (maxSteps := 1000000) (disch := first | assumption | ((try simp only [LEN, LEN2]); omega)) only [push_cast, Int.reduceToNat, Int.reduceEq, Int.reduceNe, Int.reduceLT, Int.reduceLE, Int.reduceAdd, Int.reduceSub, Int.reduceMul, Int.reduceNeg, Nat.reduceEqDiff, Nat.reduceBEq, Nat.reduceBNe, Nat.reduceAdd, Nat.reduceLeDiff, Nat.reduceLT, Nat.reduceMul, ↓reduceIte, reduceCtorEq, g27, pf27, b27, hok, hn]
  refine run_loop' (fun i : Nat => [(1, T.int .i64 n), (3, T.one (.box (oT (playT ⟨S, W⟩ (l.take i)).2.Sectors (playT ⟨S, W⟩ (l.take i)).2.Waits))), (6, T.one (.box [.own 9 [], .own 64 []])), (21, T.one (.d (.sl (l.map eDo)))), (22, T.int .i64 l.length), (23, T.int .i64 i)]) (fun i => i ≤ (upto n l).length ∧ (playT ⟨S, W⟩ (l.take i)).1 = 0) (fun i => l.length - i) 0 rfl ⟨Nat.zero_le _, rfl⟩ (fun i hi => ?_)
  obtain ⟨hi, h0⟩ := hi
  have hoki := okT_play hok h0
  obtain ⟨S', W', hT⟩ : ∃ S' W', (playT ⟨S, W⟩ (l.take i)).2 = ⟨S', W'⟩ := ⟨_, _, rfl⟩
  simp only [hT] at hoki
  have hok1 := okT_iff.1 hoki
  have hle := upto_le n l
  by_cases hin : i < (upto n l).length
  · obtain ⟨hin1, hin2⟩ := (upto_len n l i).1 hin
    have hd := hl2 l[i] (List.getElem_mem hin1)
    obtain ⟨d, hd0⟩ : ∃ d, d = l[i] := ⟨_, rfl⟩
    have hsn := playT_snoc (d := l[i]) h0
    rw [← List.take_succ_eq_append_getElem hin1, hT, ← hd0] at hsn
    have hui : (upto n l).take (i + 1) = l.take (i + 1) := upto_take n l hin
    have hend : (playT ⟨S, W⟩ (l.take (i + 1))).1 ≠ 0 → playT ⟨S, W⟩ (upto n l) = playT ⟨S, W⟩ (l.take (i + 1)) := fun hne => by
      conv => lhs; rw [← List.take_append_drop (i + 1) (upto n l), hui]
      exact playT_err hne
    have hc1 : (i : Int) < l.length := by omega
    rw [← hd0] at hd
    obtain ⟨e, t, het⟩ : ∃ e t, Q.stepT ⟨S', W'⟩ d = (e, t) := ⟨_, _, rfl⟩
    have hst := f58 (d := d) hoki (by omega)
    rw [het] at hsn hst
    have hni : ¬ (i : Int) = n := by omega
    by_cases he : e = 0
    · subst he
      simp only [if_true] at hsn
      simp (maxSteps := 1000000) (disch := first | assumption | ((try simp only [LEN, LEN2]); omega)) only [push_cast, Int.reduceToNat, Int.reduceEq, Int.reduceNe, Int.reduceLT, Int.reduceLE, Int.reduceAdd, Int.reduceSub, Int.reduceMul, Int.reduceNeg, Nat.reduceEqDiff, Nat.reduceBEq, Nat.reduceBNe, Nat.reduceAdd, Nat.reduceLeDiff, Nat.reduceLT, Nat.reduceMul, ↓reduceIte, reduceCtorEq, g27, pf27, b27, hT, hc1, hni, eDo, ← hd0, callT_eq hst]
      refine ⟨i + 1, ?_, ⟨by omega, by rw [hsn]⟩, by omega⟩
      rw [hsn]; simp
    · simp only [he, if_false] at hsn
      have := hend (by rw [hsn]; exact he)
      simp (maxSteps := 1000000) (disch := first | assumption | ((try simp only [LEN, LEN2]); omega)) only [push_cast, Int.reduceToNat, Int.reduceEq, Int.reduceNe, Int.reduceLT, Int.reduceLE, Int.reduceAdd, Int.reduceSub, Int.reduceMul, Int.reduceNeg, Nat.reduceEqDiff, Nat.reduceBEq, Nat.reduceBNe, Nat.reduceAdd, Nat.reduceLeDiff, Nat.reduceLT, Nat.reduceMul, ↓reduceIte, reduceCtorEq, g27, pf27, b27, hT, hc1, hni, eDo, ← hd0, callT_eq hst, he]
      rw [this, hsn]; simp
  · have hii : i = (upto n l).length := by omega
    have hfin : playT ⟨S, W⟩ (upto n l) = (0, ⟨S', W'⟩) := by
      have h1 := upto_take n l (Nat.le_of_eq hii)
      rw [hii, List.take_length, ← hii] at h1
      rw [h1]
      exact Prod.ext h0 hT
    have hnot := mt (upto_len n l i).2 hin
    by_cases hc1 : (i : Int) < l.length
    · have hni : n = (i : Int) := by
        have : i ≤ n.toNat := by
          rw [hii]; unfold upto; split
          · omega
          · rw [List.length_take]; omega
        omega
      subst hni
      simp (maxSteps := 1000000) (disch := first | assumption | ((try simp only [LEN, LEN2]); omega)) only [push_cast, Int.reduceToNat, Int.reduceEq, Int.reduceNe, Int.reduceLT, Int.reduceLE, Int.reduceAdd, Int.reduceSub, Int.reduceMul, Int.reduceNeg, Nat.reduceEqDiff, Nat.reduceBEq, Nat.reduceBNe, Nat.reduceAdd, Nat.reduceLeDiff, Nat.reduceLT, Nat.reduceMul, ↓reduceIte, reduceCtorEq, g27, pf27, b27, hT, hc1, eDo, eq_self]
      rw [hfin]
    · simp (maxSteps := 1000000) (disch := first | assumption | ((try simp only [LEN, LEN2]); omega)) only [push_cast, Int.reduceToNat, Int.reduceEq, Int.reduceNe, Int.reduceLT, Int.reduceLE, Int.reduceAdd, Int.reduceSub, Int.reduceMul, Int.reduceNeg, Nat.reduceEqDiff, Nat.reduceBEq, Nat.reduceBNe, Nat.reduceAdd, Nat.reduceLeDiff, Nat.reduceLT, Nat.reduceMul, ↓reduceIte, reduceCtorEq, g27, pf27, b27, hT, hc1]
      rw [hfin]
theorem f27c {S : List (List UInt8)} {W : List Put} {n : Int} {l : List Do} (hS : S.length ≤ 1000000000) (hW : W.length ≤ 1000000000) (hl : smDo l) {g : VG} {F : Fn} {lk : Bool} {e : Env} {dst : Option Nat} {ops : List Ins} {keep : Option (List Nat)} {K : List Fr} : CallC G g F 27 [.vs true (cT S W), .int .i64 n, .one (.d (.sl (l.map eDo)))] lk e dst ops keep K = ThenL G g F (if lk && !(T.noSl (tErr' (playP S W n l).1 (playP S W n l).2)) then none else e.put g.un dst (tErr' (playP S W n l).1 (playP S W n l).2)) ops keep K := callC_eq (f27 hS hW hl)
attribute [push_cast] f27c
end Go.Mir.Try

/- Walks: the power goes; a tape is spoilt. -/
set_option linter.unusedVariables false
set_option linter.unusedSimpArgs false
set_option maxRecDepth 100000
namespace Go.Mir.Try
open Go.Proofs Go.Mir.Q

set_option maxHeartbeats 2000000 in
theorem f30 {S : List (List UInt8)} {W : List Put} {L : List Int} (hS : S.length ≤ 1000000000) (hW : W.length ≤ 1000000000) (hL : L.length ≤ 1000000000) : Fun G 30 [.vs true (cT S W), .one (.d (.sl (L.map eN)))] ((if okT S W then tErr' 0 ⟨crashS L S W, []⟩ else tErr' 1 ⟨[], []⟩), []) := by
  refine Fun.of_run (g := g30) (pf := pf30) rfl rfl rfl rfl ?_
  cases hok : okT S W with
  | false =>
    simp (maxSteps := 1000000) (disch := first | assumption | ((try simp only [LEN, LEN2]); omega)) only [push_cast, Int.reduceToNat, Int.reduceEq, Int.reduceNe, Int.reduceLT, Int.reduceLE, Int.reduceAdd, Int.reduceSub, Int.reduceMul, Int.reduceNeg, Nat.reduceEqDiff, Nat.reduceBEq, Nat.reduceBNe, Nat.reduceAdd, Nat.reduceLeDiff, Nat.reduceLT, Nat.reduceMul, ↓reduceIte, reduceCtorEq, g30, pf30, b30, hok]
    simp
  | true =>
  have hok0 := okT_iff.1 hok
  simp (maxSteps := 1000000) (disch := first | assumption | ((try simp only [LEN, LEN2]); omega)) only [push_cast, Int.reduceToNat, Int.reduceEq, Int.reduceNe, Int.reduceLT, Int.reduceLE, Int.reduceAdd, Int.reduceSub, Int.reduceMul, Int.reduceNeg, Nat.reduceEqDiff, Nat.reduceBEq, Nat.reduceBNe, Nat.reduceAdd, Nat.reduceLeDiff, Nat.reduceLT, Nat.reduceMul, ↓reduceIte, reduceCtorEq, g30, pf30, b30, hok]
  refine run_loop' (fun i : Nat => [(1, T.one (.d (.sl (L.map eN)))), (2, T.one (.box (oT (crashS L S (W.take i)) W))), (4, T.one (.box [.own 9 [], .own 64 []])), (15, T.ref 2 0 [(0, 1)]), (16, T.int .i64 W.length), (17, T.int .i64 i)]) (fun i => i ≤ W.length) (fun i => W.length - i) 0 rfl (Nat.zero_le _) (fun i hi => ?_)
  simp (maxSteps := 1000000) (disch := first | assumption | ((try simp only [LEN, LEN2]); omega)) only [push_cast, Int.reduceToNat, Int.reduceEq, Int.reduceNe, Int.reduceLT, Int.reduceLE, Int.reduceAdd, Int.reduceSub, Int.reduceMul, Int.reduceNeg, Nat.reduceEqDiff, Nat.reduceBEq, Nat.reduceBNe, Nat.reduceAdd, Nat.reduceLeDiff, Nat.reduceLT, Nat.reduceMul, ↓reduceIte, reduceCtorEq, g30, pf30, b30]
  refine If.dec (fun h => ?_) (fun h => ?_)
  · replace h : i < W.length := by omega
    have hp := hok0.2.2 W[i] (List.getElem_mem h)
    have hcl := crashS_length L S (W.take i)
    by_cases hL0 : 0 < (L.length : Int)
    · have hm : i % L.length < L.length := Nat.mod_lt _ (by omega)
      have hmod : ((i : Int) % (L.length : Int)).toNat = i % L.length := by omega
      simp (maxSteps := 1000000) (disch := first | assumption | ((try simp only [LEN, LEN2]); omega)) only [push_cast, Int.reduceToNat, Int.reduceEq, Int.reduceNe, Int.reduceLT, Int.reduceLE, Int.reduceAdd, Int.reduceSub, Int.reduceMul, Int.reduceNeg, Nat.reduceEqDiff, Nat.reduceBEq, Nat.reduceBNe, Nat.reduceAdd, Nat.reduceLeDiff, Nat.reduceLT, Nat.reduceMul, ↓reduceIte, reduceCtorEq, g30, pf30, b30, hL0, hmod, eN, oP]
      have hk : keepB L i = decide (IntKind.i64.wrap ((BitVec.ofInt IntKind.i64.bits L[i % L.length] &&& BitVec.ofInt IntKind.i64.bits 1).toNat : Int) = 1) := by simp only [keepB, List.getElem?_eq_getElem hm, Option.any_some]; rfl
      have hlen : (W.take i).length = i := by rw [List.length_take]; omega
      refine If.dec (fun hb => ?_) (fun hb => ?_)
      · obtain ⟨n, hn⟩ := Int.eq_ofNat_of_zero_le hp.1
        have hn2 : n < (crashS L S (W.take i)).length := by omega
        simp (maxSteps := 1000000) (disch := first | assumption | ((try simp only [LEN, LEN2]); omega)) only [push_cast, Int.reduceToNat, Int.reduceEq, Int.reduceNe, Int.reduceLT, Int.reduceLE, Int.reduceAdd, Int.reduceSub, Int.reduceMul, Int.reduceNeg, Nat.reduceEqDiff, Nat.reduceBEq, Nat.reduceBNe, Nat.reduceAdd, Nat.reduceLeDiff, Nat.reduceLT, Nat.reduceMul, ↓reduceIte, reduceCtorEq, g30, pf30, b30, eP, oP, oS, hn]
        refine ⟨i + 1, ?_, by omega, by omega⟩
        rw [List.take_succ_eq_append_getElem h, crashS_snoc, hlen, hk, decide_eq_true hb, if_pos rfl]
        simp only [put1, oT, List.map_set, hn, Int.toNat_natCast, oS, Int.natCast_add, Int.cast_ofNat_Int]
      · simp (maxSteps := 1000000) (disch := first | assumption | ((try simp only [LEN, LEN2]); omega)) only [push_cast, Int.reduceToNat, Int.reduceEq, Int.reduceNe, Int.reduceLT, Int.reduceLE, Int.reduceAdd, Int.reduceSub, Int.reduceMul, Int.reduceNeg, Nat.reduceEqDiff, Nat.reduceBEq, Nat.reduceBNe, Nat.reduceAdd, Nat.reduceLeDiff, Nat.reduceLT, Nat.reduceMul, ↓reduceIte, reduceCtorEq, g30, pf30, b30]
        refine ⟨i + 1, ?_, by omega, by omega⟩
        rw [List.take_succ_eq_append_getElem h, crashS_snoc, hlen, hk, decide_eq_false hb, if_neg (by simp)]
        simp
    · have hL1 : L = [] := List.length_eq_zero_iff.1 (by omega)
      simp (maxSteps := 1000000) (disch := first | assumption | ((try simp only [LEN, LEN2]); omega)) only [push_cast, Int.reduceToNat, Int.reduceEq, Int.reduceNe, Int.reduceLT, Int.reduceLE, Int.reduceAdd, Int.reduceSub, Int.reduceMul, Int.reduceNeg, Nat.reduceEqDiff, Nat.reduceBEq, Nat.reduceBNe, Nat.reduceAdd, Nat.reduceLeDiff, Nat.reduceLT, Nat.reduceMul, ↓reduceIte, reduceCtorEq, g30, pf30, b30, hL0, oP]
      refine ⟨i + 1, ?_, by omega, by omega⟩
      rw [List.take_succ_eq_append_getElem h, crashS_snoc, if_neg (by simp [hL1, keepB])]
      simp
  · obtain rfl : i = W.length := by omega
    simp (maxSteps := 1000000) (disch := first | assumption | ((try simp only [LEN, LEN2]); omega)) only [push_cast, Int.reduceToNat, Int.reduceEq, Int.reduceNe, Int.reduceLT, Int.reduceLE, Int.reduceAdd, Int.reduceSub, Int.reduceMul, Int.reduceNeg, Nat.reduceEqDiff, Nat.reduceBEq, Nat.reduceBNe, Nat.reduceAdd, Nat.reduceLeDiff, Nat.reduceLT, Nat.reduceMul, ↓reduceIte, reduceCtorEq, g30, pf30, b30]
    simp
theorem f30c {S : List (List UInt8)} {W : List Put} {L : List Int} (hS : S.length ≤ 1000000000) (hW : W.length ≤ 1000000000) (hL : L.length ≤ 1000000000) {g : VG} {F : Fn} {lk : Bool} {e : Env} {dst : Option Nat} {ops : List Ins} {keep : Option (List Nat)} {K : List Fr} : CallC G g F 30 [.vs true (cT S W), .one (.d (.sl (L.map eN)))] lk e dst ops keep K = ThenL G g F (if lk && !(T.noSl ((if okT S W then tErr' 0 ⟨crashS L S W, []⟩ else tErr' 1 ⟨[], []⟩))) then none else e.put g.un dst ((if okT S W then tErr' 0 ⟨crashS L S W, []⟩ else tErr' 1 ⟨[], []⟩))) ops keep K := callC_eq (f30 hS hW hL)
attribute [push_cast] f30c

set_option maxHeartbeats 2000000 in
theorem f75 {S : List (List UInt8)} {W : List Put} (hS : S.length ≤ 1000000000) (hW : W.length ≤ 1000000000) : Fun G 75 [.vs true (oT S W)] (.tup [], []) := by
  refine Fun.of_run (g := g75) (pf := pf75) rfl rfl rfl rfl ?_
  simp (maxSteps := 1000000) (disch := first | assumption | ((try simp only [LEN, LEN2]); omega)) only [push_cast, Int.reduceToNat, Int.reduceEq, Int.reduceNe, Int.reduceLT, Int.reduceLE, Int.reduceAdd, Int.reduceSub, Int.reduceMul, Int.reduceNeg, Nat.reduceEqDiff, Nat.reduceBEq, Nat.reduceBNe, Nat.reduceAdd, Nat.reduceLeDiff, Nat.reduceLT, Nat.reduceMul, ↓reduceIte, reduceCtorEq, g75, pf75, b75]
  refine run_loop' (fun x : Nat × List (List UInt8) => [(1, T.one (.box (oT x.2 W))), (2, T.int .i64 x.1)]) (fun x => x.2.length = S.length ∧ x.1 ≤ S.length) (fun x => S.length - x.1) (0, S) rfl ⟨rfl, Nat.zero_le _⟩ (fun ⟨i, S'⟩ hi => ?_)
  obtain ⟨hl, hi⟩ := hi
  simp only at hl hi
  by_cases h : (i : Int) < S'.length
  · have hi' : i < S'.length := by omega
    simp (maxSteps := 1000000) (disch := first | assumption | ((try simp only [LEN, LEN2]); omega)) only [push_cast, Int.reduceToNat, Int.reduceEq, Int.reduceNe, Int.reduceLT, Int.reduceLE, Int.reduceAdd, Int.reduceSub, Int.reduceMul, Int.reduceNeg, Nat.reduceEqDiff, Nat.reduceBEq, Nat.reduceBNe, Nat.reduceAdd, Nat.reduceLeDiff, Nat.reduceLT, Nat.reduceMul, ↓reduceIte, reduceCtorEq, g75, pf75, b75, h, oS]
    refine ⟨(i + 1, S'.set i [115, 112, 111, 105, 108, 116]), ?_, ⟨by simp [hl], by simp only; omega⟩, by simp only; omega⟩
    simp [oS, List.map_set]
  · simp (maxSteps := 1000000) (disch := first | assumption | ((try simp only [LEN, LEN2]); omega)) only [push_cast, Int.reduceToNat, Int.reduceEq, Int.reduceNe, Int.reduceLT, Int.reduceLE, Int.reduceAdd, Int.reduceSub, Int.reduceMul, Int.reduceNeg, Nat.reduceEqDiff, Nat.reduceBEq, Nat.reduceBNe, Nat.reduceAdd, Nat.reduceLeDiff, Nat.reduceLT, Nat.reduceMul, ↓reduceIte, reduceCtorEq, g75, pf75, b75, h]
    refine run_loop' (fun x : Nat × List Put => [(1, T.one (.box (oT S' x.2))), (3, T.int .i64 x.1)]) (fun x => x.2.length = W.length ∧ x.1 ≤ W.length) (fun x => W.length - x.1) (0, W) rfl ⟨rfl, Nat.zero_le _⟩ (fun ⟨j, W'⟩ hj => ?_)
    obtain ⟨hl2, hj⟩ := hj
    simp only at hl2 hj
    by_cases h2 : (j : Int) < W'.length
    · have hj' : j < W'.length := by omega
      simp (maxSteps := 1000000) (disch := first | assumption | ((try simp only [LEN, LEN2]); omega)) only [push_cast, Int.reduceToNat, Int.reduceEq, Int.reduceNe, Int.reduceLT, Int.reduceLE, Int.reduceAdd, Int.reduceSub, Int.reduceMul, Int.reduceNeg, Nat.reduceEqDiff, Nat.reduceBEq, Nat.reduceBNe, Nat.reduceAdd, Nat.reduceLeDiff, Nat.reduceLT, Nat.reduceMul, ↓reduceIte, reduceCtorEq, g75, pf75, b75, h2, oP]
      refine ⟨(j + 1, W'.set j ⟨-9, []⟩), ?_, ⟨by simp [hl2], by simp only; omega⟩, by simp only; omega⟩
      simp [oP, List.map_set]
    · simp (maxSteps := 1000000) (disch := first | assumption | ((try simp only [LEN, LEN2]); omega)) only [push_cast, Int.reduceToNat, Int.reduceEq, Int.reduceNe, Int.reduceLT, Int.reduceLE, Int.reduceAdd, Int.reduceSub, Int.reduceMul, Int.reduceNeg, Nat.reduceEqDiff, Nat.reduceBEq, Nat.reduceBNe, Nat.reduceAdd, Nat.reduceLeDiff, Nat.reduceLT, Nat.reduceMul, ↓reduceIte, reduceCtorEq, g75, pf75, b75, h2]
theorem f75t {S : List (List UInt8)} {W : List Put} (hS : S.length ≤ 1000000000) (hW : W.length ≤ 1000000000) {g : VG} {F : Fn} {lk : Bool} {ags : List Arg} {e0 e1 : Env} {dst : Option Nat} {ops : List Ins} {keep : Option (List Nat)} {K : List Fr} : CallT G g F 75 [.vs true (oT S W)] lk ags e0 e1 dst ops keep K = RetT G g F (.tup []) [] lk ags e0 e1 dst ops keep K := callT_eq (f75 hS hW)
attribute [push_cast] f75t
end Go.Mir.Try

/- Walks: an act on both. -/
set_option linter.unusedVariables false
set_option linter.unusedSimpArgs false
set_option maxRecDepth 100000
namespace Go.Mir.Try
open Go.Proofs Go.Mir.Q

theorem fRead {S : List (List UInt8)} {W : List Put} {i : Int} (hS : S.length ≤ 1000000000) (hW : W.length ≤ 1000000000) : Fun G 33 [.vs true (cT S W), .int .i64 i] (readR S W i) := Fun.given rfl (rdGiven_eq hS hW)

theorem sm_ok {S : List (List UInt8)} {W : List Put} (h : okT S W = true) : smS S ∧ smP W := by
  rw [okT_iff] at h
  obtain ⟨⟨h1, h2, h3⟩, h4, h5⟩ := h
  exact ⟨⟨by omega, fun s hs => by rw [h4 s hs]; omega⟩, ⟨by omega, fun p hp => by rw [(h5 p hp).2.2]; omega⟩⟩

abbrev okRes (C : List V) : Res := (.tup [(true, C), (false, [.d (.sc (.bool true))])], [])

theorem eqT0 : Fun G 32 [.vs true [.d (.sl []), .d (.sl [])], .vs true [.d (.sl []), .d (.sl [])]] (.bool true, []) := by
  have := f32 (S := []) (S' := []) (W := []) (W' := []) (by simp) (by simp) (by simp) (by simp)
  rw [show decide (([] : List (List UInt8)) = [] ∧ ([] : List Put) = []) = true by simp] at this
  exact this
theorem eqT1 {S : List (List UInt8)} (h : S.length ≤ 1000000000) : Fun G 32 [.vs true [.d (.sl (S.map eS)), .d (.sl [])], .vs true [.d (.sl (S.map eS)), .d (.sl [])]] (.bool true, []) := by
  have := f32 (S := S) (S' := S) (W := []) (W' := []) h h (by simp) (by simp)
  rw [show decide (S = S ∧ ([] : List Put) = []) = true by simp] at this
  exact this
theorem spoil0 : Fun G 75 [.vs true [.own 9 [], .own 64 []]] (.tup [], []) := f75 (S := []) (W := []) (by simp) (by simp)
theorem spoil1 {S : List (List UInt8)} (h : S.length ≤ 1000000000) : Fun G 75 [.vs true [.own 9 (S.map oS), .own 64 []]] (.tup [], []) := f75 (S := S) (W := []) h (by simp)
theorem copy1 {S : List (List UInt8)} (h : S.length ≤ 1000000000) : Fun G 37 [.vs true [.d (.sl (S.map eS)), .d (.sl [])]] (.vs true (oT S []), []) := f37 (S := S) (W := []) h (by simp)

theorem playT_nz : ∀ {l : List Do} {T : Q.Tape}, (playT T l).1 ≠ 0 → (playT T l).2 = ⟨[], []⟩
  | [], T, h => by simp [playT] at h
  | d :: l, T, h => by
    simp only [playT] at h ⊢
    split
    · rename_i h0
      rw [if_pos h0] at h
      exact playT_nz h
    · rfl

set_option maxHeartbeats 4000000 in
theorem f38 {S : List (List UInt8)} {W : List Put} {d n : Int} {L : List Do} {K : List Int} (hS : smS S) (hW : smP W) (hL : smDo L) (hK : K.length ≤ 1048576) (hd : okN d) (hn : okN n) :
    ∃ C S' W', Fun G 38 [.vs true (cT S W), .vs true (cA d n L K)] (okRes C) ∧ (C = oT S' W' ∨ C = cT S' W') ∧ smS S' ∧ smP W' := by
  have hS1 := hS.1
  have hW1 := hW.1
  have hL1 := hL.1
  obtain ⟨q, hq⟩ : ∃ q, q = (d % 18446744073709551616) % 7 := ⟨_, rfl⟩
  by_cases h4 : q = 4 ∨ q = 5
  · cases hok : okT S W with
    | false =>
      refine ⟨cT S W, S, W, ?_, .inr rfl, hS, hW⟩
      refine Fun.of_run (g := g38) (pf := pf38) rfl rfl rfl rfl ?_
      rcases h4 with h4 | h4 <;> subst h4 <;> simp (maxSteps := 1000000) (disch := first | assumption | ((try simp only [LEN, LEN2]); omega)) only [push_cast, Int.reduceToNat, Int.reduceEq, Int.reduceNe, Int.reduceLT, Int.reduceLE, Int.reduceAdd, Int.reduceSub, Int.reduceMul, Int.reduceNeg, Nat.reduceEqDiff, Nat.reduceBEq, Nat.reduceBNe, Nat.reduceAdd, Nat.reduceLeDiff, Nat.reduceLT, Nat.reduceMul, ↓reduceIte, reduceCtorEq, g38, pf38, b38, ← hq, hok, eq_self, callC_eq eqT0, callT_eq spoil0]
    | true =>
      have hc := crashS_length K S W
      have hokc := okT_crash (L := K) hok
      have hok1 := okT_iff.1 hok
      have hcr := f67 (L := K) (S := S) (W := W) (by omega) (by omega) (by omega) (fun p hp => ⟨(hok1.2.2 p hp).1, (hok1.2.2 p hp).2.1⟩)
      refine ⟨oT (crashS K S W) [], crashS K S W, [], ?_, .inl rfl, (sm_ok hokc).1, (sm_ok hokc).2⟩
      refine Fun.of_run (g := g38) (pf := pf38) rfl rfl rfl rfl ?_
      have e1 := eqT1 (S := crashS K S W) (by omega)
      have e2 := spoil1 (S := crashS K S W) (by omega)
      have e3 := copy1 (S := crashS K S W) (by omega)
      rcases h4 with h4 | h4 <;> subst h4 <;> simp (maxSteps := 1000000) (disch := first | assumption | ((try simp only [LEN, LEN2]); omega)) only [push_cast, Int.reduceToNat, Int.reduceEq, Int.reduceNe, Int.reduceLT, Int.reduceLE, Int.reduceAdd, Int.reduceSub, Int.reduceMul, Int.reduceNeg, Nat.reduceEqDiff, Nat.reduceBEq, Nat.reduceBNe, Nat.reduceAdd, Nat.reduceLeDiff, Nat.reduceLT, Nat.reduceMul, ↓reduceIte, reduceCtorEq, g38, pf38, b38, ← hq, hok, eq_self, callC_eq hcr, callC_eq e1, callT_eq e2, callC_eq e3] <;> rfl
  by_cases h6 : q = 6
  · subst h6
    have hq4 : ¬ (6 : Int) = 4 := by omega
    have hq5 : ¬ (6 : Int) = 5 := by omega
    have hr := fRead (S := S) (W := W) (i := n) (by omega) (by omega)
    refine ⟨cT S W, S, W, ?_, .inr rfl, hS, hW⟩
    refine Fun.of_run (g := g38) (pf := pf38) rfl rfl rfl rfl ?_
    cases hok : okT S W with
    | false =>
      have hr2 : readR S W n = res2 [] 1 := by simp [readR, hok]
      rw [hr2] at hr
      simp (maxSteps := 1000000) (disch := first | assumption | ((try simp only [LEN, LEN2]); omega)) only [push_cast, Int.reduceToNat, Int.reduceEq, Int.reduceNe, Int.reduceLT, Int.reduceLE, Int.reduceAdd, Int.reduceSub, Int.reduceMul, Int.reduceNeg, Nat.reduceEqDiff, Nat.reduceBEq, Nat.reduceBNe, Nat.reduceAdd, Nat.reduceLeDiff, Nat.reduceLT, Nat.reduceMul, ↓reduceIte, reduceCtorEq, g38, pf38, b38, ← hq, hok, eq_self, callC_eq hr]
    | true =>
      by_cases hin : 0 ≤ n ∧ n ≤ (S.length : Int) - 1
      · obtain ⟨k, rfl⟩ := Int.eq_ofNat_of_zero_le hin.1
        have hk : k < S.length := by omega
        have hr2 : readR S W k = res2 (see S[k] k W) 0 := by simp [readR, hok, hk]
        rw [hr2] at hr
        simp (maxSteps := 1000000) (disch := first | assumption | ((try simp only [LEN, LEN2]); omega)) only [push_cast, Int.reduceToNat, Int.reduceEq, Int.reduceNe, Int.reduceLT, Int.reduceLE, Int.reduceAdd, Int.reduceSub, Int.reduceMul, Int.reduceNeg, Nat.reduceEqDiff, Nat.reduceBEq, Nat.reduceBNe, Nat.reduceAdd, Nat.reduceLeDiff, Nat.reduceLT, Nat.reduceMul, ↓reduceIte, reduceCtorEq, g38, pf38, b38, ← hq, hok, hin, eq_self, callC_eq hr]
      · have hr2 : readR S W n = res2 [] 3 := by
          unfold readR
          rw [if_pos hok]
          split
          · split
            · rename_i s hs
              have := (List.getElem?_eq_some_iff.1 hs).1
              omega
            · rfl
          · rfl
        rw [hr2] at hr
        simp (maxSteps := 1000000) (disch := first | assumption | ((try simp only [LEN, LEN2]); omega)) only [push_cast, Int.reduceToNat, Int.reduceEq, Int.reduceNe, Int.reduceLT, Int.reduceLE, Int.reduceAdd, Int.reduceSub, Int.reduceMul, Int.reduceNeg, Nat.reduceEqDiff, Nat.reduceBEq, Nat.reduceBNe, Nat.reduceAdd, Nat.reduceLeDiff, Nat.reduceLT, Nat.reduceMul, ↓reduceIte, reduceCtorEq, g38, pf38, b38, ← hq, hok, hin, eq_self, callC_eq hr]
  · have hq4 : ¬ q = 4 := fun h => h4 (.inl h)
    have hq5 : ¬ q = 5 := fun h => h4 (.inr h)
    cases hok : okT S W with
    | false =>
      have hpl : playP S W n L = (1, ⟨[], []⟩) := by simp [playP, hok]
      refine ⟨cT S W, S, W, ?_, .inr rfl, hS, hW⟩
      refine Fun.of_run (g := g38) (pf := pf38) rfl rfl rfl rfl ?_
      simp (maxSteps := 1000000) (disch := first | assumption | ((try simp only [LEN, LEN2]); omega)) only [push_cast, Int.reduceToNat, Int.reduceEq, Int.reduceNe, Int.reduceLT, Int.reduceLE, Int.reduceAdd, Int.reduceSub, Int.reduceMul, Int.reduceNeg, Nat.reduceEqDiff, Nat.reduceBEq, Nat.reduceBNe, Nat.reduceAdd, Nat.reduceLeDiff, Nat.reduceLT, Nat.reduceMul, ↓reduceIte, reduceCtorEq, g38, pf38, b38, ← hq, hq4, hq5, h6, hok, hpl, eq_self, callC_eq eqT0, callT_eq spoil0]
    | true =>
      by_cases hn1 : -1 ≤ n
      · have hpl : playP S W n L = playT ⟨S, W⟩ (upto n L) := by unfold playP; rw [if_pos ⟨hok, hn1⟩]
        have hpr := f72 (S := S) (W := W) (n := n) (l := L) hok hL
        have hpg := f27 (S := S) (W := W) (n := n) (l := L) (by omega) (by omega) hL
        rw [hpl] at hpg
        have hsm := okT_play (T := ⟨S, W⟩) (l := upto n L) hok
        obtain ⟨e, t, het⟩ : ∃ e t, playT ⟨S, W⟩ (upto n L) = (e, t) := ⟨_, _, rfl⟩
        rw [het] at hpr hpg hsm
        obtain ⟨S', W'⟩ := t
        by_cases he : e = 0
        · subst he
          have hok' := hsm rfl
          simp only at hok'
          obtain ⟨g1, g2⟩ := sm_ok hok'
          have g3 := g1.1
          have g4 := g2.1
          refine ⟨oT S' W', S', W', ?_, .inl rfl, g1, g2⟩
          refine Fun.of_run (g := g38) (pf := pf38) rfl rfl rfl rfl ?_
          simp (maxSteps := 1000000) (disch := first | assumption | ((try simp only [LEN, LEN2]); omega)) only [push_cast, Int.reduceToNat, Int.reduceEq, Int.reduceNe, Int.reduceLT, Int.reduceLE, Int.reduceAdd, Int.reduceSub, Int.reduceMul, Int.reduceNeg, Nat.reduceEqDiff, Nat.reduceBEq, Nat.reduceBNe, Nat.reduceAdd, Nat.reduceLeDiff, Nat.reduceLT, Nat.reduceMul, ↓reduceIte, reduceCtorEq, g38, pf38, b38, ← hq, hq4, hq5, h6, hok, hn1, eq_self, callC_eq hpr, callC_eq hpg]
        · have hnz := playT_nz (T := ⟨S, W⟩) (l := upto n L) (by rw [het]; exact he)
          rw [het] at hnz
          simp only [Q.Tape.mk.injEq] at hnz
          obtain ⟨rfl, rfl⟩ := hnz
          refine ⟨cT S W, S, W, ?_, .inr rfl, hS, hW⟩
          refine Fun.of_run (g := g38) (pf := pf38) rfl rfl rfl rfl ?_
          simp (maxSteps := 1000000) (disch := first | assumption | ((try simp only [LEN, LEN2]); omega)) only [push_cast, Int.reduceToNat, Int.reduceEq, Int.reduceNe, Int.reduceLT, Int.reduceLE, Int.reduceAdd, Int.reduceSub, Int.reduceMul, Int.reduceNeg, Nat.reduceEqDiff, Nat.reduceBEq, Nat.reduceBNe, Nat.reduceAdd, Nat.reduceLeDiff, Nat.reduceLT, Nat.reduceMul, ↓reduceIte, reduceCtorEq, g38, pf38, b38, ← hq, hq4, hq5, h6, hok, hn1, he, eq_self, callC_eq hpr, callC_eq hpg, callC_eq eqT0, callT_eq spoil0]
      · have hpl : playP S W n L = (1, ⟨[], []⟩) := by unfold playP; rw [if_neg (fun h => hn1 h.2)]
        refine ⟨cT S W, S, W, ?_, .inr rfl, hS, hW⟩
        refine Fun.of_run (g := g38) (pf := pf38) rfl rfl rfl rfl ?_
        simp (maxSteps := 1000000) (disch := first | assumption | ((try simp only [LEN, LEN2]); omega)) only [push_cast, Int.reduceToNat, Int.reduceEq, Int.reduceNe, Int.reduceLT, Int.reduceLE, Int.reduceAdd, Int.reduceSub, Int.reduceMul, Int.reduceNeg, Nat.reduceEqDiff, Nat.reduceBEq, Nat.reduceBNe, Nat.reduceAdd, Nat.reduceLeDiff, Nat.reduceLT, Nat.reduceMul, ↓reduceIte, reduceCtorEq, g38, pf38, b38, ← hq, hq4, hq5, h6, hok, hpl, hn1, eq_self, callC_eq eqT0, callT_eq spoil0]
end Go.Mir.Try

/- Walks: is it more than is played? does it wake? -/
set_option linter.unusedVariables false
set_option linter.unusedSimpArgs false
set_option maxRecDepth 100000
namespace Go.Mir.Try
open Go.Proofs Go.Mir.Q

abbrev cSc (S : List (List UInt8)) (W : List Put) (N : Int) (A : List Q.Act) : List V := [.d (.sl (S.map eS)), .d (.sl (W.map eP)), .d (.sc (.int .i64 N)), .d (.sl (A.map eA))]
def smA (A : List Q.Act) : Prop := A.length ≤ 1048576 ∧ ∀ a ∈ A, okN a.What ∧ okN a.N ∧ smDo a.L ∧ a.K.length ≤ 1048576

set_option maxHeartbeats 2000000 in
theorem f25 {S : List (List UInt8)} {W : List Put} {N : Int} {A : List Q.Act} (hS : smS S) (hW : smP W) (hA : smA A) : ∃ b : Bool, Fun G 25 [.vs true (cSc S W N A)] (.bool b, []) := by
  obtain ⟨hA, hA2⟩ := hA
  obtain ⟨n0, hw, hw1, hw2⟩ := f54 hS hW
  obtain ⟨r, h1, b, rfl⟩ := Fun.ex_of_run (G := G) (f := 25) (args := [.vs true (cSc S W N A)]) (Q := fun r => ∃ b : Bool, r = (.bool b, [])) (g := g25) (pf := pf25) rfl rfl rfl rfl (by
    simp (maxSteps := 1000000) (disch := first | assumption | ((try simp only [LEN, LEN2]); omega)) only [push_cast, Int.reduceToNat, Int.reduceEq, Int.reduceNe, Int.reduceLT, Int.reduceLE, Int.reduceAdd, Int.reduceSub, Int.reduceMul, Int.reduceNeg, Nat.reduceEqDiff, Nat.reduceBEq, Nat.reduceBNe, Nat.reduceAdd, Nat.reduceLeDiff, Nat.reduceLT, Nat.reduceMul, ↓reduceIte, reduceCtorEq, g25, pf25, b25, callC_eq hw]
    refine run_loop' (fun x : Nat × Int => [(1, T.one (.box (cSc S W N A))), (3, T.int .i64 x.2), (4, T.int .i64 x.1)]) (fun x => x.1 ≤ A.length ∧ 0 ≤ x.2 ∧ x.2 ≤ 8000000) (fun x => A.length - x.1) (0, n0 + A.length) rfl (by simp only; omega) (fun ⟨i, n⟩ hi => ?_)
    simp only at hi
    by_cases h1 : (i : Int) < A.length
    · have hi' : i < A.length := by omega
      obtain ⟨_, _, hL, hK⟩ := hA2 A[i] (List.getElem_mem hi')
      obtain ⟨a, ha⟩ : ∃ a, a = A[i] := ⟨_, rfl⟩
      rw [← ha] at hL hK
      obtain ⟨hL, hL2⟩ := hL
      by_cases h2 : n < 1048576
      · simp (maxSteps := 1000000) (disch := first | assumption | ((try simp only [LEN, LEN2]); omega)) only [push_cast, Int.reduceToNat, Int.reduceEq, Int.reduceNe, Int.reduceLT, Int.reduceLE, Int.reduceAdd, Int.reduceSub, Int.reduceMul, Int.reduceNeg, Nat.reduceEqDiff, Nat.reduceBEq, Nat.reduceBNe, Nat.reduceAdd, Nat.reduceLeDiff, Nat.reduceLT, Nat.reduceMul, ↓reduceIte, reduceCtorEq, g25, pf25, b25, h1, h2, eA, ← ha]
        refine run_loop' (fun x : Nat × Int => [(1, T.one (.box (cSc S W N A))), (3, T.int .i64 x.2), (4, T.int .i64 i), (5, T.int .i64 x.1)]) (fun x => x.1 ≤ a.L.length ∧ 0 ≤ x.2 ∧ x.2 ≤ 8000000) (fun x => a.L.length - x.1) (0, n + a.K.length + a.L.length) rfl (by simp only; omega) (fun ⟨j, m⟩ hj => ?_)
        simp only at hj
        by_cases h3 : (j : Int) < a.L.length
        · have hj' : j < a.L.length := by omega
          have hs := hL2 a.L[j] (List.getElem_mem hj')
          by_cases h4 : m < 1048576
          · simp (maxSteps := 1000000) (disch := first | assumption | ((try simp only [LEN, LEN2]); omega)) only [push_cast, Int.reduceToNat, Int.reduceEq, Int.reduceNe, Int.reduceLT, Int.reduceLE, Int.reduceAdd, Int.reduceSub, Int.reduceMul, Int.reduceNeg, Nat.reduceEqDiff, Nat.reduceBEq, Nat.reduceBNe, Nat.reduceAdd, Nat.reduceLeDiff, Nat.reduceLT, Nat.reduceMul, ↓reduceIte, reduceCtorEq, g25, pf25, b25, h1, h3, h4, eA, ← ha, eDo]
            refine ⟨(j + 1, m + (a.L[j].Put.Text.length : Int) / 32), ?_, ?_, ?_⟩
            · simp
            · simp only; omega
            · simp only; omega
          · simp (maxSteps := 1000000) (disch := first | assumption | ((try simp only [LEN, LEN2]); omega)) only [push_cast, Int.reduceToNat, Int.reduceEq, Int.reduceNe, Int.reduceLT, Int.reduceLE, Int.reduceAdd, Int.reduceSub, Int.reduceMul, Int.reduceNeg, Nat.reduceEqDiff, Nat.reduceBEq, Nat.reduceBNe, Nat.reduceAdd, Nat.reduceLeDiff, Nat.reduceLT, Nat.reduceMul, ↓reduceIte, reduceCtorEq, g25, pf25, b25, h1, h3, h4, eA, ← ha]
            refine ⟨(i + 1, m), ?_, ?_, ?_⟩
            · simp
            · simp only; omega
            · simp only; omega
        · simp (maxSteps := 1000000) (disch := first | assumption | ((try simp only [LEN, LEN2]); omega)) only [push_cast, Int.reduceToNat, Int.reduceEq, Int.reduceNe, Int.reduceLT, Int.reduceLE, Int.reduceAdd, Int.reduceSub, Int.reduceMul, Int.reduceNeg, Nat.reduceEqDiff, Nat.reduceBEq, Nat.reduceBNe, Nat.reduceAdd, Nat.reduceLeDiff, Nat.reduceLT, Nat.reduceMul, ↓reduceIte, reduceCtorEq, g25, pf25, b25, h1, h3, eA, ← ha]
          refine ⟨(i + 1, m), ?_, ?_, ?_⟩
          · simp
          · simp only; omega
          · simp only; omega
      · simp (maxSteps := 1000000) (disch := first | assumption | ((try simp only [LEN, LEN2]); omega)) only [push_cast, Int.reduceToNat, Int.reduceEq, Int.reduceNe, Int.reduceLT, Int.reduceLE, Int.reduceAdd, Int.reduceSub, Int.reduceMul, Int.reduceNeg, Nat.reduceEqDiff, Nat.reduceBEq, Nat.reduceBNe, Nat.reduceAdd, Nat.reduceLeDiff, Nat.reduceLT, Nat.reduceMul, ↓reduceIte, reduceCtorEq, g25, pf25, b25, h1, h2]
        exact ⟨_, rfl⟩
    · simp (maxSteps := 1000000) (disch := first | assumption | ((try simp only [LEN, LEN2]); omega)) only [push_cast, Int.reduceToNat, Int.reduceEq, Int.reduceNe, Int.reduceLT, Int.reduceLE, Int.reduceAdd, Int.reduceSub, Int.reduceMul, Int.reduceNeg, Nat.reduceEqDiff, Nat.reduceBEq, Nat.reduceBNe, Nat.reduceAdd, Nat.reduceLeDiff, Nat.reduceLT, Nat.reduceMul, ↓reduceIte, reduceCtorEq, g25, pf25, b25, h1]
      exact ⟨_, rfl⟩)
  exact ⟨b, h1⟩
end Go.Mir.Try

/- Walks: does it wake? -/
set_option linter.unusedVariables false
set_option linter.unusedSimpArgs false
set_option maxRecDepth 100000
namespace Go.Mir.Try
open Go.Proofs Go.Mir.Q

def xs0 : List UInt8 := [120] ++ List.replicate 31 0
def xS0 : List (List UInt8) := [zeros, xs0, zeros]
theorem xs0_len : xs0.length = 32 := by decide
theorem wNew : Fun G 35 [.int .i64 3] (tErr' 0 ⟨List.replicate 3 zeros, []⟩, []) := f35 (n := 3)
theorem wZ : Fun G 55 [.int .i64 31] (.str (bs (List.replicate 31 0)), []) := f55 (n := 31) (by omega)
theorem wPlay : Fun G 27 [.vs true (cT (List.replicate 3 zeros) []), .int .i64 (-1), .one (.d (.sl ([⟨false, ⟨1, xs0⟩⟩, ⟨true, ⟨0, []⟩⟩].map eDo)))] (tErr' 0 ⟨xS0, []⟩, []) := by
  have h := f27 (S := List.replicate 3 zeros) (W := []) (n := -1) (l := [⟨false, ⟨1, xs0⟩⟩, ⟨true, ⟨0, []⟩⟩]) (by simp) (by simp) ⟨by simp, by simp [xs0_len]⟩
  rw [show playP (List.replicate 3 zeros) [] (-1) [⟨false, ⟨1, xs0⟩⟩, ⟨true, ⟨0, []⟩⟩] = (0, ⟨xS0, []⟩) by decide] at h
  exact h
theorem wRead : Fun G 33 [.vs true (cT xS0 []), .int .i64 1] (res2 xs0 0) := by
  have h := fRead (S := xS0) (W := []) (i := 1) (by decide) (by simp)
  rw [show readR xS0 [] 1 = res2 xs0 0 by
    have : okT xS0 [] = true := by decide
    simp only [readR, this, if_true]; rfl] at h
  exact h
set_option maxHeartbeats 2000000 in
theorem f34   : Fun G 34 [] (.bool true, []) := by
  refine Fun.of_run (g := g34) (pf := pf34) rfl rfl rfl rfl ?_
  have h1 := wNew
  have h2 := wZ
  have h3 := wPlay
  have h4 := wRead
  simp only [push_cast, Int.reduceToNat, Int.reduceEq, Int.reduceNe, Int.reduceLT, Int.reduceLE, Int.reduceAdd, Int.reduceSub, Int.reduceMul, Int.reduceNeg, Nat.reduceEqDiff, Nat.reduceBEq, Nat.reduceBNe, Nat.reduceAdd, Nat.reduceLeDiff, Nat.reduceLT, Nat.reduceMul, ↓reduceIte, reduceCtorEq, cT, oT, tErr', res2, eS, oS, eDo, xs0, xS0] at h1 h2 h3 h4
  simp (maxSteps := 1000000) (disch := first | assumption | ((try simp only [LEN, LEN2]); omega)) only [push_cast, Int.reduceToNat, Int.reduceEq, Int.reduceNe, Int.reduceLT, Int.reduceLE, Int.reduceAdd, Int.reduceSub, Int.reduceMul, Int.reduceNeg, Nat.reduceEqDiff, Nat.reduceBEq, Nat.reduceBNe, Nat.reduceAdd, Nat.reduceLeDiff, Nat.reduceLT, Nat.reduceMul, ↓reduceIte, reduceCtorEq, g34, pf34, b34, eS, oS, callC_eq h1, callC_eq h2, callC_eq h3, callC_eq h4]
theorem f34c   {g : VG} {F : Fn} {lk : Bool} {e : Env} {dst : Option Nat} {ops : List Ins} {keep : Option (List Nat)} {K : List Fr} : CallC G g F 34 [] lk e dst ops keep K = ThenL G g F (if lk && !(T.noSl (.bool true)) then none else e.put g.un dst (.bool true)) ops keep K := callC_eq (f34 )
attribute [push_cast] f34c
end Go.Mir.Try

/- Walks: the law TapeExact. -/
set_option linter.unusedVariables false
set_option linter.unusedSimpArgs false
set_option maxRecDepth 100000
namespace Go.Mir.Try
open Go.Proofs Go.Mir.Q

set_option maxHeartbeats 2000000 in
theorem f5 {S : List (List UInt8)} {W : List Put} {N : Int} {A : List Q.Act} (hS : smS S) (hW : smP W) (hN : okN N) (hA : smA A) : Fun G 5 [.vs true (cSc S W N A)] (.bool true, []) := by
  refine Fun.of_run (g := g5) (pf := pf5) rfl rfl rfl rfl ?_
  have hS1 := hS.1
  have hW1 := hW.1
  have hA2 := hA.2
  obtain ⟨b, hh⟩ := f25 (N := N) hS hW hA
  cases b with
  | true => simp (maxSteps := 1000000) (disch := first | assumption | ((try simp only [LEN, LEN2]); omega)) only [push_cast, Int.reduceToNat, Int.reduceEq, Int.reduceNe, Int.reduceLT, Int.reduceLE, Int.reduceAdd, Int.reduceSub, Int.reduceMul, Int.reduceNeg, Nat.reduceEqDiff, Nat.reduceBEq, Nat.reduceBNe, Nat.reduceAdd, Nat.reduceLeDiff, Nat.reduceLT, Nat.reduceMul, ↓reduceIte, reduceCtorEq, g5, pf5, b5, callC_eq hh]
  | false =>
  have hn := f35 (n := N)
  have hwi := f17 (i := N) (n := 9) hN (by omega) (by omega)
  obtain ⟨w, hw⟩ : ∃ w : Nat, (N % 18446744073709551616) % 9 = w := Int.eq_ofNat_of_zero_le (by omega)
  rw [hw] at hwi
  have hw9 : w < 9 := by omega
  have hz : smS (List.replicate (1 + w) zeros) := ⟨by simp; omega, fun s hs => by rw [List.eq_of_mem_replicate hs]; decide⟩
  have hnw := f26 (n := 1 + w) (by omega)
  have hcz := copy1 (S := List.replicate (1 + w) zeros) (by simp; omega)
  rw [show ((1 + w : Nat) : Int) = 1 + (w : Int) by omega] at hnw
  by_cases hr : 1 ≤ N ∧ N ≤ 512
  case' pos =>
    rw [if_pos hr] at hn
    have hn2 := f26 (n := N.toNat) (by omega)
    rw [show ((N.toNat : Nat) : Int) = N by omega] at hn2
    have he := eqT1 (S := List.replicate N.toNat zeros) (by simp; omega)
    simp (maxSteps := 1000000) (disch := first | assumption | ((try simp only [LEN, LEN2]); omega)) only [push_cast, Int.reduceToNat, Int.reduceEq, Int.reduceNe, Int.reduceLT, Int.reduceLE, Int.reduceAdd, Int.reduceSub, Int.reduceMul, Int.reduceNeg, Nat.reduceEqDiff, Nat.reduceBEq, Nat.reduceBNe, Nat.reduceAdd, Nat.reduceLeDiff, Nat.reduceLT, Nat.reduceMul, ↓reduceIte, reduceCtorEq, g5, pf5, b5, callC_eq hh, callC_eq hn, callC_eq hn2, hr, callC_eq he, callC_eq hwi, callC_eq hnw]
  case' neg =>
    rw [if_neg hr] at hn
    have he := eqT0
    simp (maxSteps := 1000000) (disch := first | assumption | ((try simp only [LEN, LEN2]); omega)) only [push_cast, Int.reduceToNat, Int.reduceEq, Int.reduceNe, Int.reduceLT, Int.reduceLE, Int.reduceAdd, Int.reduceSub, Int.reduceMul, Int.reduceNeg, Nat.reduceEqDiff, Nat.reduceBEq, Nat.reduceBNe, Nat.reduceAdd, Nat.reduceLeDiff, Nat.reduceLT, Nat.reduceMul, ↓reduceIte, reduceCtorEq, g5, pf5, b5, callC_eq hh, callC_eq hn, hr, callC_eq he, callC_eq hwi, callC_eq hnw]
  all_goals
    refine run_loop' (fun k : Nat => [(1, T.one (.box (cSc S W N A))), (7, T.one (.own 52 [cT S W, oT (List.replicate (1 + w) zeros) []])), (8, T.int .i64 k)]) (fun k => k ≤ 2) (fun k => 2 - k) 0 rfl (by omega) (fun k hk => ?_)
    by_cases hk2 : (k : Int) < 2
    · have hk3 : k = 0 ∨ k = 1 := by omega
      clear hk hk2
      rcases hk3 with rfl | rfl
      · simp (maxSteps := 1000000) (disch := first | assumption | ((try simp only [LEN, LEN2]); omega)) only [push_cast, Int.reduceToNat, Int.reduceEq, Int.reduceNe, Int.reduceLT, Int.reduceLE, Int.reduceAdd, Int.reduceSub, Int.reduceMul, Int.reduceNeg, Nat.reduceEqDiff, Nat.reduceBEq, Nat.reduceBNe, Nat.reduceAdd, Nat.reduceLeDiff, Nat.reduceLT, Nat.reduceMul, ↓reduceIte, reduceCtorEq, g5, pf5, b5]
        refine run_loop' (fun x : Nat × List V => [(1, T.one (.box (cSc S W N A))), (7, T.one (.own 52 [cT S W, oT (List.replicate (1 + w) zeros) []])), (8, T.int .i64 0), (9, T.one (.box x.2)), (10, T.int .i64 x.1)]) (fun x => x.1 ≤ A.length ∧ ∃ S' W', (x.2 = oT S' W' ∨ x.2 = cT S' W') ∧ smS S' ∧ smP W') (fun x => A.length - x.1) (0, oT S W) rfl ⟨by simp, S, W, .inl rfl, hS, hW⟩ (fun ⟨i, C⟩ hi => ?_)
        obtain ⟨hi, S', W', hC, hS', hW'⟩ := hi
        simp only at hi hC
        have hS'1 := hS'.1
        have hW'1 := hW'.1
        by_cases h1 : (i : Int) < A.length
        · by_cases h2 : (i : Int) < 12
          · have hi' : i < A.length := by omega
            obtain ⟨hd, hm, hL, hK⟩ := hA2 A[i] (List.getElem_mem hi')
            obtain ⟨a, ha⟩ : ∃ a, a = A[i] := ⟨_, rfl⟩
            rw [← ha] at hL hK hd hm
            obtain ⟨C2, S2, W2, hst, hC2, hS2, hW2⟩ := f38 hS' hW' hL hK hd hm
            have fin : ∀ C3, (C3 = oT S2 W2 ∨ C3 = cT S2 W2) → i + 1 ≤ A.length ∧ ∃ S' W', (C3 = oT S' W' ∨ C3 = cT S' W') ∧ smS S' ∧ smP W' := fun C3 h => ⟨by omega, S2, W2, h, hS2, hW2⟩
            rcases hC with rfl | rfl <;> rcases hC2 with rfl | rfl <;> simp (maxSteps := 1000000) (disch := first | assumption | ((try simp only [LEN, LEN2]); omega)) only [push_cast, Int.reduceToNat, Int.reduceEq, Int.reduceNe, Int.reduceLT, Int.reduceLE, Int.reduceAdd, Int.reduceSub, Int.reduceMul, Int.reduceNeg, Nat.reduceEqDiff, Nat.reduceBEq, Nat.reduceBNe, Nat.reduceAdd, Nat.reduceLeDiff, Nat.reduceLT, Nat.reduceMul, ↓reduceIte, reduceCtorEq, g5, pf5, b5, h1, h2, eA, ← ha, callC_eq hst]
            · exact ⟨(i + 1, oT S2 W2), by simp, fin _ (.inl rfl), by simp only; omega⟩
            · exact ⟨(i + 1, cT S2 W2), by simp, fin _ (.inr rfl), by simp only; omega⟩
            · exact ⟨(i + 1, oT S2 W2), by simp, fin _ (.inl rfl), by simp only; omega⟩
            · exact ⟨(i + 1, cT S2 W2), by simp, fin _ (.inr rfl), by simp only; omega⟩
          · rcases hC with rfl | rfl <;> simp (maxSteps := 1000000) (disch := first | assumption | ((try simp only [LEN, LEN2]); omega)) only [push_cast, Int.reduceToNat, Int.reduceEq, Int.reduceNe, Int.reduceLT, Int.reduceLE, Int.reduceAdd, Int.reduceSub, Int.reduceMul, Int.reduceNeg, Nat.reduceEqDiff, Nat.reduceBEq, Nat.reduceBNe, Nat.reduceAdd, Nat.reduceLeDiff, Nat.reduceLT, Nat.reduceMul, ↓reduceIte, reduceCtorEq, g5, pf5, b5, h1, h2]
            · exact ⟨0 + 1, by simp, by omega, by omega⟩
            · exact ⟨0 + 1, by simp, by omega, by omega⟩
        · rcases hC with rfl | rfl <;> simp (maxSteps := 1000000) (disch := first | assumption | ((try simp only [LEN, LEN2]); omega)) only [push_cast, Int.reduceToNat, Int.reduceEq, Int.reduceNe, Int.reduceLT, Int.reduceLE, Int.reduceAdd, Int.reduceSub, Int.reduceMul, Int.reduceNeg, Nat.reduceEqDiff, Nat.reduceBEq, Nat.reduceBNe, Nat.reduceAdd, Nat.reduceLeDiff, Nat.reduceLT, Nat.reduceMul, ↓reduceIte, reduceCtorEq, g5, pf5, b5, h1]
          · exact ⟨0 + 1, by simp, by omega, by omega⟩
          · exact ⟨0 + 1, by simp, by omega, by omega⟩
      · simp (maxSteps := 1000000) (disch := first | assumption | ((try simp only [LEN, LEN2]); omega)) only [push_cast, Int.reduceToNat, Int.reduceEq, Int.reduceNe, Int.reduceLT, Int.reduceLE, Int.reduceAdd, Int.reduceSub, Int.reduceMul, Int.reduceNeg, Nat.reduceEqDiff, Nat.reduceBEq, Nat.reduceBNe, Nat.reduceAdd, Nat.reduceLeDiff, Nat.reduceLT, Nat.reduceMul, ↓reduceIte, reduceCtorEq, g5, pf5, b5, callC_eq hcz]
        refine run_loop' (fun x : Nat × List V => [(1, T.one (.box (cSc S W N A))), (7, T.one (.own 52 [cT S W, oT (List.replicate (1 + w) zeros) []])), (8, T.int .i64 1), (9, T.one (.box x.2)), (10, T.int .i64 x.1)]) (fun x => x.1 ≤ A.length ∧ ∃ S' W', (x.2 = oT S' W' ∨ x.2 = cT S' W') ∧ smS S' ∧ smP W') (fun x => A.length - x.1) (0, oT (List.replicate (1 + w) zeros) []) rfl ⟨by simp, _, [], .inl rfl, hz, ⟨by simp, by simp⟩⟩ (fun ⟨i, C⟩ hi => ?_)
        obtain ⟨hi, S', W', hC, hS', hW'⟩ := hi
        simp only at hi hC
        have hS'1 := hS'.1
        have hW'1 := hW'.1
        by_cases h1 : (i : Int) < A.length
        · by_cases h2 : (i : Int) < 12
          · have hi' : i < A.length := by omega
            obtain ⟨hd, hm, hL, hK⟩ := hA2 A[i] (List.getElem_mem hi')
            obtain ⟨a, ha⟩ : ∃ a, a = A[i] := ⟨_, rfl⟩
            rw [← ha] at hL hK hd hm
            obtain ⟨C2, S2, W2, hst, hC2, hS2, hW2⟩ := f38 hS' hW' hL hK hd hm
            have fin : ∀ C3, (C3 = oT S2 W2 ∨ C3 = cT S2 W2) → i + 1 ≤ A.length ∧ ∃ S' W', (C3 = oT S' W' ∨ C3 = cT S' W') ∧ smS S' ∧ smP W' := fun C3 h => ⟨by omega, S2, W2, h, hS2, hW2⟩
            rcases hC with rfl | rfl <;> rcases hC2 with rfl | rfl <;> simp (maxSteps := 1000000) (disch := first | assumption | ((try simp only [LEN, LEN2]); omega)) only [push_cast, Int.reduceToNat, Int.reduceEq, Int.reduceNe, Int.reduceLT, Int.reduceLE, Int.reduceAdd, Int.reduceSub, Int.reduceMul, Int.reduceNeg, Nat.reduceEqDiff, Nat.reduceBEq, Nat.reduceBNe, Nat.reduceAdd, Nat.reduceLeDiff, Nat.reduceLT, Nat.reduceMul, ↓reduceIte, reduceCtorEq, g5, pf5, b5, h1, h2, eA, ← ha, callC_eq hst]
            · exact ⟨(i + 1, oT S2 W2), by simp, fin _ (.inl rfl), by simp only; omega⟩
            · exact ⟨(i + 1, cT S2 W2), by simp, fin _ (.inr rfl), by simp only; omega⟩
            · exact ⟨(i + 1, oT S2 W2), by simp, fin _ (.inl rfl), by simp only; omega⟩
            · exact ⟨(i + 1, cT S2 W2), by simp, fin _ (.inr rfl), by simp only; omega⟩
          · rcases hC with rfl | rfl <;> simp (maxSteps := 1000000) (disch := first | assumption | ((try simp only [LEN, LEN2]); omega)) only [push_cast, Int.reduceToNat, Int.reduceEq, Int.reduceNe, Int.reduceLT, Int.reduceLE, Int.reduceAdd, Int.reduceSub, Int.reduceMul, Int.reduceNeg, Nat.reduceEqDiff, Nat.reduceBEq, Nat.reduceBNe, Nat.reduceAdd, Nat.reduceLeDiff, Nat.reduceLT, Nat.reduceMul, ↓reduceIte, reduceCtorEq, g5, pf5, b5, h1, h2]
            · exact ⟨1 + 1, by simp, by omega, by omega⟩
            · exact ⟨1 + 1, by simp, by omega, by omega⟩
        · rcases hC with rfl | rfl <;> simp (maxSteps := 1000000) (disch := first | assumption | ((try simp only [LEN, LEN2]); omega)) only [push_cast, Int.reduceToNat, Int.reduceEq, Int.reduceNe, Int.reduceLT, Int.reduceLE, Int.reduceAdd, Int.reduceSub, Int.reduceMul, Int.reduceNeg, Nat.reduceEqDiff, Nat.reduceBEq, Nat.reduceBNe, Nat.reduceAdd, Nat.reduceLeDiff, Nat.reduceLT, Nat.reduceMul, ↓reduceIte, reduceCtorEq, g5, pf5, b5, h1]
          · exact ⟨1 + 1, by simp, by omega, by omega⟩
          · exact ⟨1 + 1, by simp, by omega, by omega⟩
    · obtain rfl : k = 2 := by omega
      simp (maxSteps := 1000000) (disch := first | assumption | ((try simp only [LEN, LEN2]); omega)) only [push_cast, Int.reduceToNat, Int.reduceEq, Int.reduceNe, Int.reduceLT, Int.reduceLE, Int.reduceAdd, Int.reduceSub, Int.reduceMul, Int.reduceNeg, Nat.reduceEqDiff, Nat.reduceBEq, Nat.reduceBNe, Nat.reduceAdd, Nat.reduceLeDiff, Nat.reduceLT, Nat.reduceMul, ↓reduceIte, reduceCtorEq, g5, pf5, b5]
theorem f5c {S : List (List UInt8)} {W : List Put} {N : Int} {A : List Q.Act} (hS : smS S) (hW : smP W) (hN : okN N) (hA : smA A) {g : VG} {F : Fn} {lk : Bool} {e : Env} {dst : Option Nat} {ops : List Ins} {keep : Option (List Nat)} {K : List Fr} : CallC G g F 5 [.vs true (cSc S W N A)] lk e dst ops keep K = ThenL G g F (if lk && !(T.noSl (.bool true)) then none else e.put g.un dst (.bool true)) ops keep K := callC_eq (f5 hS hW hN hA)
attribute [push_cast] f5c
end Go.Mir.Try

/- Walks: the laws TapePlays, TapeCrashes. -/
set_option linter.unusedVariables false
set_option linter.unusedSimpArgs false
set_option maxRecDepth 100000
namespace Go.Mir.Try
open Go.Proofs Go.Mir.Q

def oA (a : Q.Act) : List V := cA a.What a.N a.L a.K
theorem toDss_oA (l : List Q.Act) : toDss (l.map oA) = some (l.map eA) := toDss_map (fun _ => rfl) l
theorem dV_eA (l : List Q.Act) : (l.map eA).map (fun x => x.map V.d) = l.map oA := by simp [eA, oA]
theorem all_oA (l : List Q.Act) : (l.map oA).all (fun c => c.length == 4) = true := by simp [oA]
theorem isD_oA (l : List Q.Act) : ((l.map oA).all fun x => x.all V.isD) = true := by simp [oA, V.isD]
theorem all_eA (l : List Q.Act) : (l.map eA).all (fun c => c.length == 4) = true := by simp [eA]
attribute [push_cast] toDss_oA dV_eA all_oA isD_oA all_eA

def onlyA (K : List Int) (i : Nat) : List Q.Act → List Q.Act
  | [] => []
  | a :: r => { a with What := K[i % K.length]?.getD 0 } :: onlyA K (i + 1) r
theorem onlyA_snoc (K : List Int) (a : Q.Act) : ∀ (l : List Q.Act) (i : Nat), onlyA K i (l ++ [a]) = onlyA K i l ++ [{ a with What := K[(i + l.length) % K.length]?.getD 0 }]
  | [], i => by simp [onlyA]
  | b :: l, i => by
    simp only [List.cons_append, onlyA, onlyA_snoc K a l (i + 1)]
    rw [show i + 1 + l.length = i + (b :: l).length by simp; omega]
theorem onlyA_length (K : List Int) : ∀ (l : List Q.Act) (i : Nat), (onlyA K i l).length = l.length
  | [], i => rfl
  | b :: l, i => by simp [onlyA, onlyA_length K l]
theorem onlyA_sm {K : List Int} (hK : ∀ k ∈ K, okN k) : ∀ {l : List Q.Act} {i : Nat}, (∀ a ∈ l, okN a.What ∧ okN a.N ∧ smDo a.L ∧ a.K.length ≤ 1048576) → ∀ a ∈ onlyA K i l, okN a.What ∧ okN a.N ∧ smDo a.L ∧ a.K.length ≤ 1048576
  | [], i, h, a, ha => by simp [onlyA] at ha
  | b :: l, i, h, a, ha => by
    simp only [onlyA, List.mem_cons] at ha
    rcases ha with rfl | ha
    · have := h b (by simp)
      refine ⟨?_, this.2⟩
      show okN (K[i % K.length]?.getD 0)
      cases hk : K[i % K.length]? with
      | none => exact ⟨by decide, by decide⟩
      | some k => exact hK k (List.mem_of_getElem? hk)
    · exact onlyA_sm hK (fun a ha => h a (by simp [ha])) a ha

set_option maxHeartbeats 2000000 in
theorem f39 {S : List (List UInt8)} {W : List Put} {N : Int} {A : List Q.Act} {L : List Int} (hS : smS S) (hW : smP W) (hN : okN N) (hA : smA A) (hL1 : 1 ≤ L.length) (hL2 : L.length ≤ 10) (hL : ∀ k ∈ L, okN k) : Fun G 39 [.vs true (cSc S W N A), .one (.d (.sl (L.map eN)))] (.bool true, []) := by
  refine Fun.of_run (g := g39) (pf := pf39) rfl rfl rfl rfl ?_
  have hA1 := hA.1
  have hA' : smA (onlyA L 0 A) := ⟨by rw [onlyA_length]; exact hA1, onlyA_sm hL hA.2⟩
  have hex := f5 hS hW hN hA'
  simp (maxSteps := 1000000) (disch := first | assumption | ((try simp only [LEN, LEN2]); omega)) only [push_cast, Int.reduceToNat, Int.reduceEq, Int.reduceNe, Int.reduceLT, Int.reduceLE, Int.reduceAdd, Int.reduceSub, Int.reduceMul, Int.reduceNeg, Nat.reduceEqDiff, Nat.reduceBEq, Nat.reduceBNe, Nat.reduceAdd, Nat.reduceLeDiff, Nat.reduceLT, Nat.reduceMul, ↓reduceIte, reduceCtorEq, g39, pf39, b39]
  refine run_loop' (fun i : Nat => [(1, T.one (.d (.sl (L.map eN)))), (2, T.one (.box (cSc S W N A))), (5, T.one (.box [.d (.sl (S.map eS)), .d (.sl (W.map eP)), .d (.sc (.int .i64 N)), .own 60 ((onlyA L 0 (A.take i)).map oA)])), (6, T.int .i64 i)]) (fun i => i ≤ A.length) (fun i => A.length - i) 0 rfl (Nat.zero_le _) (fun i hi => ?_)
  by_cases h1 : (i : Int) < A.length
  · have hi' : i < A.length := by omega
    have hm : i % L.length < L.length := Nat.mod_lt _ (by omega)
    have hmod : ((i : Int) % (L.length : Int)).toNat = i % L.length := by omega
    have hol := onlyA_length L (A.take i) 0
    rw [List.length_take] at hol
    simp (maxSteps := 1000000) (disch := first | assumption | ((try simp only [LEN, LEN2]); omega)) only [push_cast, Int.reduceToNat, Int.reduceEq, Int.reduceNe, Int.reduceLT, Int.reduceLE, Int.reduceAdd, Int.reduceSub, Int.reduceMul, Int.reduceNeg, Nat.reduceEqDiff, Nat.reduceBEq, Nat.reduceBNe, Nat.reduceAdd, Nat.reduceLeDiff, Nat.reduceLT, Nat.reduceMul, ↓reduceIte, reduceCtorEq, g39, pf39, b39, h1, eA, eN, hmod]
    refine ⟨i + 1, ?_, by omega, by omega⟩
    rw [List.take_succ_eq_append_getElem hi', onlyA_snoc]
    have : (0 + (A.take i).length) = i := by rw [List.length_take]; omega
    rw [this, List.getElem?_eq_getElem hm]
    simp [oA]
  · obtain rfl : i = A.length := by omega
    simp (maxSteps := 1000000) (disch := first | assumption | ((try simp only [LEN, LEN2]); omega)) only [push_cast, Int.reduceToNat, Int.reduceEq, Int.reduceNe, Int.reduceLT, Int.reduceLE, Int.reduceAdd, Int.reduceSub, Int.reduceMul, Int.reduceNeg, Nat.reduceEqDiff, Nat.reduceBEq, Nat.reduceBNe, Nat.reduceAdd, Nat.reduceLeDiff, Nat.reduceLT, Nat.reduceMul, ↓reduceIte, reduceCtorEq, g39, pf39, b39, h1, List.take_length, callC_eq hex]
theorem f39c {S : List (List UInt8)} {W : List Put} {N : Int} {A : List Q.Act} {L : List Int} (hS : smS S) (hW : smP W) (hN : okN N) (hA : smA A) (hL1 : 1 ≤ L.length) (hL2 : L.length ≤ 10) (hL : ∀ k ∈ L, okN k) {g : VG} {F : Fn} {lk : Bool} {e : Env} {dst : Option Nat} {ops : List Ins} {keep : Option (List Nat)} {K : List Fr} : CallC G g F 39 [.vs true (cSc S W N A), .one (.d (.sl (L.map eN)))] lk e dst ops keep K = ThenL G g F (if lk && !(T.noSl (.bool true)) then none else e.put g.un dst (.bool true)) ops keep K := callC_eq (f39 hS hW hN hA hL1 hL2 hL)
attribute [push_cast] f39c
set_option maxHeartbeats 2000000 in
theorem f6 {S : List (List UInt8)} {W : List Put} {N : Int} {A : List Q.Act} (hS : smS S) (hW : smP W) (hN : okN N) (hA : smA A) : Fun G 6 [.vs true (cSc S W N A)] (.bool true, []) := by
  refine Fun.of_run (g := g6) (pf := pf6) rfl rfl rfl rfl ?_
  have h := f39 hS hW hN hA (L := [0, 6, 1]) (by decide) (by decide) (by simp [okN])
  simp only [push_cast, Int.reduceToNat, Int.reduceEq, Int.reduceNe, Int.reduceLT, Int.reduceLE, Int.reduceAdd, Int.reduceSub, Int.reduceMul, Int.reduceNeg, Nat.reduceEqDiff, Nat.reduceBEq, Nat.reduceBNe, Nat.reduceAdd, Nat.reduceLeDiff, Nat.reduceLT, Nat.reduceMul, ↓reduceIte, reduceCtorEq, eN] at h
  simp (maxSteps := 1000000) (disch := first | assumption | ((try simp only [LEN, LEN2]); omega)) only [push_cast, Int.reduceToNat, Int.reduceEq, Int.reduceNe, Int.reduceLT, Int.reduceLE, Int.reduceAdd, Int.reduceSub, Int.reduceMul, Int.reduceNeg, Nat.reduceEqDiff, Nat.reduceBEq, Nat.reduceBNe, Nat.reduceAdd, Nat.reduceLeDiff, Nat.reduceLT, Nat.reduceMul, ↓reduceIte, reduceCtorEq, g6, pf6, b6, callC_eq h]
theorem f6c {S : List (List UInt8)} {W : List Put} {N : Int} {A : List Q.Act} (hS : smS S) (hW : smP W) (hN : okN N) (hA : smA A) {g : VG} {F : Fn} {lk : Bool} {e : Env} {dst : Option Nat} {ops : List Ins} {keep : Option (List Nat)} {K : List Fr} : CallC G g F 6 [.vs true (cSc S W N A)] lk e dst ops keep K = ThenL G g F (if lk && !(T.noSl (.bool true)) then none else e.put g.un dst (.bool true)) ops keep K := callC_eq (f6 hS hW hN hA)
attribute [push_cast] f6c
set_option maxHeartbeats 2000000 in
theorem f7 {S : List (List UInt8)} {W : List Put} {N : Int} {A : List Q.Act} (hS : smS S) (hW : smP W) (hN : okN N) (hA : smA A) : Fun G 7 [.vs true (cSc S W N A)] (.bool true, []) := by
  refine Fun.of_run (g := g7) (pf := pf7) rfl rfl rfl rfl ?_
  have h := f39 hS hW hN hA (L := [0, 4, 6, 0, 5]) (by decide) (by decide) (by simp [okN])
  simp only [push_cast, Int.reduceToNat, Int.reduceEq, Int.reduceNe, Int.reduceLT, Int.reduceLE, Int.reduceAdd, Int.reduceSub, Int.reduceMul, Int.reduceNeg, Nat.reduceEqDiff, Nat.reduceBEq, Nat.reduceBNe, Nat.reduceAdd, Nat.reduceLeDiff, Nat.reduceLT, Nat.reduceMul, ↓reduceIte, reduceCtorEq, eN] at h
  simp (maxSteps := 1000000) (disch := first | assumption | ((try simp only [LEN, LEN2]); omega)) only [push_cast, Int.reduceToNat, Int.reduceEq, Int.reduceNe, Int.reduceLT, Int.reduceLE, Int.reduceAdd, Int.reduceSub, Int.reduceMul, Int.reduceNeg, Nat.reduceEqDiff, Nat.reduceBEq, Nat.reduceBNe, Nat.reduceAdd, Nat.reduceLeDiff, Nat.reduceLT, Nat.reduceMul, ↓reduceIte, reduceCtorEq, g7, pf7, b7, callC_eq h]
theorem f7c {S : List (List UInt8)} {W : List Put} {N : Int} {A : List Q.Act} (hS : smS S) (hW : smP W) (hN : okN N) (hA : smA A) {g : VG} {F : Fn} {lk : Bool} {e : Env} {dst : Option Nat} {ops : List Ins} {keep : Option (List Nat)} {K : List Fr} : CallC G g F 7 [.vs true (cSc S W N A)] lk e dst ops keep K = ThenL G g F (if lk && !(T.noSl (.bool true)) then none else e.put g.un dst (.bool true)) ops keep K := callC_eq (f7 hS hW hN hA)
attribute [push_cast] f7c
end Go.Mir.Try

/- The tape laws' script, told from its value. -/
set_option linter.unusedVariables false
set_option maxRecDepth 100000
namespace Go.Mir.Try
open Go.Proofs Go.Mir.Q

theorem decS {n : Nat} : Dec Try.prog (n + 1) 9 eS (fun _ => True) := dec_str Try.underlying9
theorem decN {n : Nat} : Dec Try.prog (n + 1) 3 eN okN := dec_int Try.underlying3
theorem decPut {n : Nat} : Dec Try.prog (n + 2) 64 eP (fun _ => True) :=
  dec_struct (fun x => (⟨x.1, x.2.1⟩ : Put)) Try.underlying64 (decFs_cons (dec_int Try.underlying3) (decFs_cons (dec_str Try.underlying9) decFs_nil)) (fun _ => by rfl) (fun _ _ => trivial)
theorem decDo {n : Nat} : Dec Try.prog (n + 3) 66 eDo (fun _ => True) :=
  dec_struct (fun x => (⟨x.1, x.2.1⟩ : Do)) Try.underlying66 (decFs_cons (dec_bool Try.underlying4) (decFs_cons decPut decFs_nil)) (fun _ => by rfl) (fun _ _ => trivial)
theorem decAct {n : Nat} : Dec Try.prog (n + 5) 60 eA (fun a => okN a.What ∧ okN a.N) :=
  dec_struct (fun x => (⟨x.1, x.2.1, x.2.2.1, x.2.2.2.1⟩ : Q.Act)) Try.underlying60 (decFs_cons (dec_int Try.underlying3) (decFs_cons (dec_int Try.underlying3) (decFs_cons (dec_slice Try.underlying58 decDo) (decFs_cons (dec_slice Try.underlying24 decN) decFs_nil)))) (fun _ => by rfl) (fun _ h => by exact ⟨h.1, h.2.1⟩)
def eTape (t : List (List UInt8) × List Put) : List D := [.sl (t.1.map eS), .sl (t.2.map eP)]
theorem decTape {n : Nat} : Dec Try.prog (n + 4) 52 eTape (fun _ => True) :=
  dec_struct (fun x => (x.1, x.2.1)) Try.underlying52 (decFs_cons (dec_slice Try.underlying23 decS) (decFs_cons (dec_slice Try.underlying50 decPut) decFs_nil)) (fun _ => by rfl) (fun _ _ => trivial)
abbrev Sc := (List (List UInt8) × List Put) × Int × List Q.Act
def eSc (s : Sc) : List D := [.sl (s.1.1.map eS), .sl (s.1.2.map eP), .sc (.int .i64 s.2.1), .sl (s.2.2.map eA)]
theorem decSc {n : Nat} : Dec Try.prog (n + 7) 55 eSc (fun s => okN s.2.1 ∧ ∀ a ∈ s.2.2, okN a.What ∧ okN a.N) :=
  dec_struct (fun x => (x.1, x.2.1, x.2.2.1)) Try.underlying55 (decFs_cons decTape (decFs_cons (dec_int Try.underlying3) (decFs_cons (dec_slice Try.underlying53 decAct) decFs_nil))) (fun _ => by rfl) (fun _ h => by exact ⟨h.2.1, h.2.2.1⟩)

theorem wt_S {l : List (List UInt8)} (h : wtss (l.map eS) ≤ 1048576) : smS l :=
  ⟨by have := len_wtss (en := eS) (fun x => by simp [eS, wts, D.wt]) l; omega, fun s hs => by have := wtss_map (en := eS) hs; simp only [eS, wts, D.wt, bs_size] at this; omega⟩
theorem wt_P {l : List Put} (h : wtss (l.map eP) ≤ 1048576) : smP l :=
  ⟨by have := len_wtss (en := eP) (fun x => by simp only [eP, wts, D.wt]; omega) l; omega, fun s hs => by have := wtss_map (en := eP) hs; simp only [eP, wts, D.wt, bs_size] at this; omega⟩
theorem wt_Do {l : List Do} (h : wtss (l.map eDo) ≤ 1048576) : smDo l :=
  ⟨by have := len_wtss (en := eDo) (fun x => by simp only [eDo, wts, D.wt]; omega) l; omega, fun s hs => by have := wtss_map (en := eDo) hs; simp only [eDo, wts, D.wt, bs_size] at this; omega⟩
theorem wt_A {l : List Q.Act} (h : wtss (l.map eA) ≤ 1048576) (hc : ∀ a ∈ l, okN a.What ∧ okN a.N) : smA l :=
  ⟨by have := len_wtss (en := eA) (fun x => by simp only [eA, wts, D.wt]; omega) l; omega, fun a ha => by
    have := wtss_map (en := eA) ha
    simp only [eA, wts, D.wt] at this
    have hK := len_wtss (en := eN) (fun x => by simp [eN, wts, D.wt]) a.K
    exact ⟨(hc a ha).1, (hc a ha).2, wt_Do (by omega), by omega⟩⟩
theorem lawSc {f : FuncId} (hf : ∀ {S : List (List UInt8)} {W : List Put} {N : Int} {A : List Q.Act}, smS S → smP W → okN N → smA A → Fun G f [.vs true (cSc S W N A)] (.bool true, [])) {ds : List D} (h : Fits Try.prog 8 55 ds) (hw : wts ds ≤ 1048576) : ∃ k, callK G k f [.vs true (dsV ds)] = some (.bool true, []) := by
  obtain ⟨⟨⟨S, W⟩, N, A⟩, rfl, hN, hA⟩ := decSc (n := 1) ds h
  simp only [eSc, wts, D.wt] at hw hN hA
  exact hf (S := S) (W := W) (N := N) (A := A) (wt_S (by omega)) (wt_P (by omega)) hN (wt_A (by omega) hA)
end Go.Mir.Try
