/- The law CodeBytes answers true, and its input reads behind the call as before, for every input of bulk at most 1048576. Part 3 of its proof. -/
import Derived.Test.YtnijfjppolamlaaMirCb2
import Derived.KernelRfl
/- Walks: copies, comparisons, weights. -/
set_option linter.unusedVariables false
set_option linter.unusedSimpArgs false
set_option maxRecDepth 100000
namespace Go.Mir.Try
open Go.Proofs Go.Mir.Q

theorem eqW_fold (a b : Write) : (decide (a.Table = b.Table) && (decide (a.Key = b.Key) && (decide (a.Value = b.Value) && decide (a.Gone = b.Gone)))) = decide (a = b) := by
  obtain ⟨a1, a2, a3, a4⟩ := a
  obtain ⟨b1, b2, b3, b4⟩ := b
  simp

set_option maxHeartbeats 2000000 in
theorem f12 {l : List (List UInt8)} (hl : l.length ≤ 1000000000) : Fun G 12 [.one (.d (.sl (l.map eS)))] (.one (.own 9 (l.map oS)), []) := by
  refine Fun.of_run (g := g12) (pf := pf12) rfl rfl rfl rfl ?_
  simp (disch := first | assumption | ((try simp only [LEN, LEN2]); omega)) only [push_cast, Int.reduceToNat, Int.reduceEq, Int.reduceNe, Int.reduceLT, Int.reduceLE, Int.reduceAdd, Int.reduceSub, Int.reduceMul, Int.reduceNeg, Nat.reduceEqDiff, Nat.reduceBEq, Nat.reduceBNe, Nat.reduceAdd, Nat.reduceLeDiff, Nat.reduceLT, Nat.reduceMul, ↓reduceIte, reduceCtorEq, g12, pf12, b12]
  refine run_loop' (fun i : Nat => [(0, T.one (.d (.sl (l.map eS)))), (3, T.one (.own 9 ((l.take i).map oS))), (4, T.int .i64 i)]) (fun i => i ≤ l.length) (fun i => l.length - i) 0 rfl (Nat.zero_le _) (fun i hi => ?_)
  simp (disch := first | assumption | ((try simp only [LEN, LEN2]); omega)) only [push_cast, Int.reduceToNat, Int.reduceEq, Int.reduceNe, Int.reduceLT, Int.reduceLE, Int.reduceAdd, Int.reduceSub, Int.reduceMul, Int.reduceNeg, Nat.reduceEqDiff, Nat.reduceBEq, Nat.reduceBNe, Nat.reduceAdd, Nat.reduceLeDiff, Nat.reduceLT, Nat.reduceMul, ↓reduceIte, reduceCtorEq, g12, pf12, b12]
  refine If.dec (fun h => ?_) (fun h => ?_)
  · replace h : i < l.length := by omega
    simp (disch := first | assumption | ((try simp only [LEN, LEN2]); omega)) only [push_cast, Int.reduceToNat, Int.reduceEq, Int.reduceNe, Int.reduceLT, Int.reduceLE, Int.reduceAdd, Int.reduceSub, Int.reduceMul, Int.reduceNeg, Nat.reduceEqDiff, Nat.reduceBEq, Nat.reduceBNe, Nat.reduceAdd, Nat.reduceLeDiff, Nat.reduceLT, Nat.reduceMul, ↓reduceIte, reduceCtorEq, g12, pf12, b12, eS]
    refine ⟨i + 1, ?_, by omega, by omega⟩
    simp only [List.take_succ_eq_append_getElem h, List.map_append, List.map_cons, List.map_nil, oS, Int.natCast_add, Int.cast_ofNat_Int]
  · obtain rfl : i = l.length := by omega
    simp (disch := first | assumption | ((try simp only [LEN, LEN2]); omega)) only [push_cast, Int.reduceToNat, Int.reduceEq, Int.reduceNe, Int.reduceLT, Int.reduceLE, Int.reduceAdd, Int.reduceSub, Int.reduceMul, Int.reduceNeg, Nat.reduceEqDiff, Nat.reduceBEq, Nat.reduceBNe, Nat.reduceAdd, Nat.reduceLeDiff, Nat.reduceLT, Nat.reduceMul, ↓reduceIte, reduceCtorEq, g12, pf12, b12, eS]
    simp
theorem f12c {l : List (List UInt8)} (hl : l.length ≤ 1000000000) {g : VG} {F : Fn} {lk : Bool} {e : Env} {dst : Option Nat} {ops : List Ins} {keep : Option (List Nat)} {K : List Fr} : CallC G g F 12 [.one (.d (.sl (l.map eS)))] lk e dst ops keep K = ThenL G g F (if lk && !(T.noSl (.one (.own 9 (l.map oS)))) then none else e.put g.un dst (.one (.own 9 (l.map oS)))) ops keep K := callC_eq (f12 hl)
attribute [push_cast] f12c

set_option maxHeartbeats 2000000 in
theorem f45 {l : List Write} (hl : l.length ≤ 1000000000) : Fun G 45 [.one (.d (.sl (l.map eW)))] (.one (.own 84 (l.map oW)), []) := by
  refine Fun.of_run (g := g45) (pf := pf45) rfl rfl rfl rfl ?_
  simp (disch := first | assumption | ((try simp only [LEN, LEN2]); omega)) only [push_cast, Int.reduceToNat, Int.reduceEq, Int.reduceNe, Int.reduceLT, Int.reduceLE, Int.reduceAdd, Int.reduceSub, Int.reduceMul, Int.reduceNeg, Nat.reduceEqDiff, Nat.reduceBEq, Nat.reduceBNe, Nat.reduceAdd, Nat.reduceLeDiff, Nat.reduceLT, Nat.reduceMul, ↓reduceIte, reduceCtorEq, g45, pf45, b45]
  refine run_loop' (fun i : Nat => [(0, T.one (.d (.sl (l.map eW)))), (3, T.one (.own 84 ((l.take i).map oW))), (4, T.int .i64 i)]) (fun i => i ≤ l.length) (fun i => l.length - i) 0 rfl (Nat.zero_le _) (fun i hi => ?_)
  simp (disch := first | assumption | ((try simp only [LEN, LEN2]); omega)) only [push_cast, Int.reduceToNat, Int.reduceEq, Int.reduceNe, Int.reduceLT, Int.reduceLE, Int.reduceAdd, Int.reduceSub, Int.reduceMul, Int.reduceNeg, Nat.reduceEqDiff, Nat.reduceBEq, Nat.reduceBNe, Nat.reduceAdd, Nat.reduceLeDiff, Nat.reduceLT, Nat.reduceMul, ↓reduceIte, reduceCtorEq, g45, pf45, b45]
  refine If.dec (fun h => ?_) (fun h => ?_)
  · replace h : i < l.length := by omega
    simp (disch := first | assumption | ((try simp only [LEN, LEN2]); omega)) only [push_cast, Int.reduceToNat, Int.reduceEq, Int.reduceNe, Int.reduceLT, Int.reduceLE, Int.reduceAdd, Int.reduceSub, Int.reduceMul, Int.reduceNeg, Nat.reduceEqDiff, Nat.reduceBEq, Nat.reduceBNe, Nat.reduceAdd, Nat.reduceLeDiff, Nat.reduceLT, Nat.reduceMul, ↓reduceIte, reduceCtorEq, g45, pf45, b45, eW]
    refine ⟨i + 1, ?_, by omega, by omega⟩
    simp only [List.take_succ_eq_append_getElem h, List.map_append, List.map_cons, List.map_nil, oW, Int.natCast_add, Int.cast_ofNat_Int]
  · obtain rfl : i = l.length := by omega
    simp (disch := first | assumption | ((try simp only [LEN, LEN2]); omega)) only [push_cast, Int.reduceToNat, Int.reduceEq, Int.reduceNe, Int.reduceLT, Int.reduceLE, Int.reduceAdd, Int.reduceSub, Int.reduceMul, Int.reduceNeg, Nat.reduceEqDiff, Nat.reduceBEq, Nat.reduceBNe, Nat.reduceAdd, Nat.reduceLeDiff, Nat.reduceLT, Nat.reduceMul, ↓reduceIte, reduceCtorEq, g45, pf45, b45, eW]
    simp
theorem f45c {l : List Write} (hl : l.length ≤ 1000000000) {g : VG} {F : Fn} {lk : Bool} {e : Env} {dst : Option Nat} {ops : List Ins} {keep : Option (List Nat)} {K : List Fr} : CallC G g F 45 [.one (.d (.sl (l.map eW)))] lk e dst ops keep K = ThenL G g F (if lk && !(T.noSl (.one (.own 84 (l.map oW)))) then none else e.put g.un dst (.one (.own 84 (l.map oW)))) ops keep K := callC_eq (f45 hl)
attribute [push_cast] f45c

set_option maxHeartbeats 2000000 in
theorem f50 {a b : List Write} (ha : a.length ≤ 1000000000) (hb : b.length ≤ 1000000000) : Fun G 50 [.one (.d (.sl (a.map eW))), .one (.d (.sl (b.map eW)))] (.bool (decide (a = b)), []) := by
  refine Fun.of_run (g := g50) (pf := pf50) rfl rfl rfl rfl ?_
  simp (disch := first | assumption | ((try simp only [LEN, LEN2]); omega)) only [push_cast, Int.reduceToNat, Int.reduceEq, Int.reduceNe, Int.reduceLT, Int.reduceLE, Int.reduceAdd, Int.reduceSub, Int.reduceMul, Int.reduceNeg, Nat.reduceEqDiff, Nat.reduceBEq, Nat.reduceBNe, Nat.reduceAdd, Nat.reduceLeDiff, Nat.reduceLT, Nat.reduceMul, ↓reduceIte, reduceCtorEq, g50, pf50, b50]
  refine If.dec (fun h => ?_) (fun h => ?_)
  · have : a ≠ b := fun e => h (by rw [e])
    simp (disch := first | assumption | ((try simp only [LEN, LEN2]); omega)) only [push_cast, Int.reduceToNat, Int.reduceEq, Int.reduceNe, Int.reduceLT, Int.reduceLE, Int.reduceAdd, Int.reduceSub, Int.reduceMul, Int.reduceNeg, Nat.reduceEqDiff, Nat.reduceBEq, Nat.reduceBNe, Nat.reduceAdd, Nat.reduceLeDiff, Nat.reduceLT, Nat.reduceMul, ↓reduceIte, reduceCtorEq, g50, pf50, b50]
    simp [this]
  simp (disch := first | assumption | ((try simp only [LEN, LEN2]); omega)) only [push_cast, Int.reduceToNat, Int.reduceEq, Int.reduceNe, Int.reduceLT, Int.reduceLE, Int.reduceAdd, Int.reduceSub, Int.reduceMul, Int.reduceNeg, Nat.reduceEqDiff, Nat.reduceBEq, Nat.reduceBNe, Nat.reduceAdd, Nat.reduceLeDiff, Nat.reduceLT, Nat.reduceMul, ↓reduceIte, reduceCtorEq, g50, pf50, b50]
  have hl : a.length = b.length := by omega
  refine run_loop' (fun i : Nat => [(0, T.one (.d (.sl (a.map eW)))), (1, T.one (.d (.sl (b.map eW)))), (5, T.int .i64 i)]) (fun i => i ≤ a.length ∧ a.take i = b.take i) (fun i => a.length - i) 0 rfl ⟨Nat.zero_le _, by simp⟩ (fun i hi => ?_)
  obtain ⟨hi, ht⟩ := hi
  simp (disch := first | assumption | ((try simp only [LEN, LEN2]); omega)) only [push_cast, Int.reduceToNat, Int.reduceEq, Int.reduceNe, Int.reduceLT, Int.reduceLE, Int.reduceAdd, Int.reduceSub, Int.reduceMul, Int.reduceNeg, Nat.reduceEqDiff, Nat.reduceBEq, Nat.reduceBNe, Nat.reduceAdd, Nat.reduceLeDiff, Nat.reduceLT, Nat.reduceMul, ↓reduceIte, reduceCtorEq, g50, pf50, b50]
  refine If.dec (fun h => ?_) (fun h => ?_)
  · replace h : i < a.length := by omega
    have h' : i < b.length := by omega
    simp (disch := first | assumption | ((try simp only [LEN, LEN2]); omega)) only [push_cast, Int.reduceToNat, Int.reduceEq, Int.reduceNe, Int.reduceLT, Int.reduceLE, Int.reduceAdd, Int.reduceSub, Int.reduceMul, Int.reduceNeg, Nat.reduceEqDiff, Nat.reduceBEq, Nat.reduceBNe, Nat.reduceAdd, Nat.reduceLeDiff, Nat.reduceLT, Nat.reduceMul, ↓reduceIte, reduceCtorEq, g50, pf50, b50, eW, eqW_fold]
    by_cases he : a[i] = b[i]
    · simp (disch := first | assumption | ((try simp only [LEN, LEN2]); omega)) only [push_cast, Int.reduceToNat, Int.reduceEq, Int.reduceNe, Int.reduceLT, Int.reduceLE, Int.reduceAdd, Int.reduceSub, Int.reduceMul, Int.reduceNeg, Nat.reduceEqDiff, Nat.reduceBEq, Nat.reduceBNe, Nat.reduceAdd, Nat.reduceLeDiff, Nat.reduceLT, Nat.reduceMul, ↓reduceIte, reduceCtorEq, g50, pf50, b50, he]
      refine ⟨i + 1, rfl, ⟨by omega, ?_⟩, by omega⟩
      rw [List.take_succ_eq_append_getElem h, List.take_succ_eq_append_getElem h', ht, he]
    · have hne : a ≠ b := fun e => he (by subst e; rfl)
      simp (disch := first | assumption | ((try simp only [LEN, LEN2]); omega)) only [push_cast, Int.reduceToNat, Int.reduceEq, Int.reduceNe, Int.reduceLT, Int.reduceLE, Int.reduceAdd, Int.reduceSub, Int.reduceMul, Int.reduceNeg, Nat.reduceEqDiff, Nat.reduceBEq, Nat.reduceBNe, Nat.reduceAdd, Nat.reduceLeDiff, Nat.reduceLT, Nat.reduceMul, ↓reduceIte, reduceCtorEq, g50, pf50, b50, he]
      simp [hne]
  · obtain rfl : i = a.length := by omega
    have : a = b := by rw [List.take_length] at ht; rw [ht, hl, List.take_length]
    simp (disch := first | assumption | ((try simp only [LEN, LEN2]); omega)) only [push_cast, Int.reduceToNat, Int.reduceEq, Int.reduceNe, Int.reduceLT, Int.reduceLE, Int.reduceAdd, Int.reduceSub, Int.reduceMul, Int.reduceNeg, Nat.reduceEqDiff, Nat.reduceBEq, Nat.reduceBNe, Nat.reduceAdd, Nat.reduceLeDiff, Nat.reduceLT, Nat.reduceMul, ↓reduceIte, reduceCtorEq, g50, pf50, b50]
    simp [this]
theorem f50c {a b : List Write} (ha : a.length ≤ 1000000000) (hb : b.length ≤ 1000000000) {g : VG} {F : Fn} {lk : Bool} {e : Env} {dst : Option Nat} {ops : List Ins} {keep : Option (List Nat)} {K : List Fr} : CallC G g F 50 [.one (.d (.sl (a.map eW))), .one (.d (.sl (b.map eW)))] lk e dst ops keep K = ThenL G g F (if lk && !(T.noSl (.bool (decide (a = b)))) then none else e.put g.un dst (.bool (decide (a = b)))) ops keep K := callC_eq (f50 ha hb)
attribute [push_cast] f50c

set_option maxHeartbeats 2000000 in
theorem f20 {n m : Int} {a b : List Write} (ha : a.length ≤ 1000000000) (hb : b.length ≤ 1000000000) : Fun G 20 [.vs true [.d (.sc (.int .i64 n)), .d (.sl (a.map eW))], .vs true [.d (.sc (.int .i64 m)), .d (.sl (b.map eW))]] (.bool (decide (n = m ∧ a = b)), []) := by
  refine Fun.of_run (g := g20) (pf := pf20) rfl rfl rfl rfl ?_
  by_cases h : n = m <;> simp (disch := first | assumption | ((try simp only [LEN, LEN2]); omega)) only [push_cast, Int.reduceToNat, Int.reduceEq, Int.reduceNe, Int.reduceLT, Int.reduceLE, Int.reduceAdd, Int.reduceSub, Int.reduceMul, Int.reduceNeg, Nat.reduceEqDiff, Nat.reduceBEq, Nat.reduceBNe, Nat.reduceAdd, Nat.reduceLeDiff, Nat.reduceLT, Nat.reduceMul, ↓reduceIte, reduceCtorEq, g20, pf20, b20, h] <;> simp
theorem f20c {n m : Int} {a b : List Write} (ha : a.length ≤ 1000000000) (hb : b.length ≤ 1000000000) {g : VG} {F : Fn} {lk : Bool} {e : Env} {dst : Option Nat} {ops : List Ins} {keep : Option (List Nat)} {K : List Fr} : CallC G g F 20 [.vs true [.d (.sc (.int .i64 n)), .d (.sl (a.map eW))], .vs true [.d (.sc (.int .i64 m)), .d (.sl (b.map eW))]] lk e dst ops keep K = ThenL G g F (if lk && !(T.noSl (.bool (decide (n = m ∧ a = b)))) then none else e.put g.un dst (.bool (decide (n = m ∧ a = b)))) ops keep K := callC_eq (f20 ha hb)
attribute [push_cast] f20c

set_option maxHeartbeats 2000000 in
theorem f13 {n : Int} {a : List Write} (ha : a.length ≤ 1000000000) : Fun G 13 [.vs true [.d (.sc (.int .i64 n)), .d (.sl (a.map eW))]] (.vs true [.d (.sc (.int .i64 n)), .own 84 (a.map oW)], []) := by
  refine Fun.of_run (g := g13) (pf := pf13) rfl rfl rfl rfl ?_
  simp (disch := first | assumption | ((try simp only [LEN, LEN2]); omega)) only [push_cast, Int.reduceToNat, Int.reduceEq, Int.reduceNe, Int.reduceLT, Int.reduceLE, Int.reduceAdd, Int.reduceSub, Int.reduceMul, Int.reduceNeg, Nat.reduceEqDiff, Nat.reduceBEq, Nat.reduceBNe, Nat.reduceAdd, Nat.reduceLeDiff, Nat.reduceLT, Nat.reduceMul, ↓reduceIte, reduceCtorEq, g13, pf13, b13]
theorem f13c {n : Int} {a : List Write} (ha : a.length ≤ 1000000000) {g : VG} {F : Fn} {lk : Bool} {e : Env} {dst : Option Nat} {ops : List Ins} {keep : Option (List Nat)} {K : List Fr} : CallC G g F 13 [.vs true [.d (.sc (.int .i64 n)), .d (.sl (a.map eW))]] lk e dst ops keep K = ThenL G g F (if lk && !(T.noSl (.vs true [.d (.sc (.int .i64 n)), .own 84 (a.map oW)])) then none else e.put g.un dst (.vs true [.d (.sc (.int .i64 n)), .own 84 (a.map oW)])) ops keep K := callC_eq (f13 ha)
attribute [push_cast] f13c

/-- A weight. -/
def isW (r : Res) : Prop := ∃ n : Int, r = (.int .i64 n, []) ∧ 0 ≤ n ∧ n ≤ 4398046511104

theorem f44 {l : List (List UInt8)} (hl : l.length ≤ 1048576) (h : ∀ s ∈ l, s.length ≤ 1048576) : ∃ n : Int, Fun G 44 [.one (.d (.sl (l.map eS)))] (.int .i64 n, []) ∧ 0 ≤ n ∧ n ≤ 2097152 := by
  obtain ⟨r, h1, n, rfl, h2⟩ := Fun.ex_of_run (G := G) (f := 44) (args := [.one (.d (.sl (l.map eS)))]) (Q := fun r => ∃ n : Int, r = (.int .i64 n, []) ∧ 0 ≤ n ∧ n ≤ 2097152) (g := g44) (pf := pf44) rfl rfl rfl rfl (by
    simp (disch := first | assumption | ((try simp only [LEN, LEN2]); omega)) only [push_cast, Int.reduceToNat, Int.reduceEq, Int.reduceNe, Int.reduceLT, Int.reduceLE, Int.reduceAdd, Int.reduceSub, Int.reduceMul, Int.reduceNeg, Nat.reduceEqDiff, Nat.reduceBEq, Nat.reduceBNe, Nat.reduceAdd, Nat.reduceLeDiff, Nat.reduceLT, Nat.reduceMul, ↓reduceIte, reduceCtorEq, g44, pf44, b44]
    refine run_loop' (fun x : Nat × Int => [(0, T.one (.d (.sl (l.map eS)))), (3, T.int .i64 x.2), (4, T.int .i64 x.1)]) (fun x => x.1 ≤ l.length ∧ 0 ≤ x.2 ∧ x.2 ≤ 2097152) (fun x => l.length - x.1) (0, l.length) rfl (by simp only; omega) (fun ⟨i, n⟩ hi => ?_)
    simp only at hi
    by_cases h1 : (i : Int) < l.length
    · have hi' : i < l.length := by omega
      have hs := h l[i] (List.getElem_mem hi')
      simp (disch := first | assumption | ((try simp only [LEN, LEN2]); omega)) only [push_cast, Int.reduceToNat, Int.reduceEq, Int.reduceNe, Int.reduceLT, Int.reduceLE, Int.reduceAdd, Int.reduceSub, Int.reduceMul, Int.reduceNeg, Nat.reduceEqDiff, Nat.reduceBEq, Nat.reduceBNe, Nat.reduceAdd, Nat.reduceLeDiff, Nat.reduceLT, Nat.reduceMul, ↓reduceIte, reduceCtorEq, g44, pf44, b44, h1]
      refine If.dec (fun h2 => ?_) (fun h2 => ?_)
      · simp (disch := first | assumption | ((try simp only [LEN, LEN2]); omega)) only [push_cast, Int.reduceToNat, Int.reduceEq, Int.reduceNe, Int.reduceLT, Int.reduceLE, Int.reduceAdd, Int.reduceSub, Int.reduceMul, Int.reduceNeg, Nat.reduceEqDiff, Nat.reduceBEq, Nat.reduceBNe, Nat.reduceAdd, Nat.reduceLeDiff, Nat.reduceLT, Nat.reduceMul, ↓reduceIte, reduceCtorEq, g44, pf44, b44, eS]
        exact ⟨(i + 1, n + l[i].length), rfl, by simp only; omega, by simp only; omega⟩
      · simp (disch := first | assumption | ((try simp only [LEN, LEN2]); omega)) only [push_cast, Int.reduceToNat, Int.reduceEq, Int.reduceNe, Int.reduceLT, Int.reduceLE, Int.reduceAdd, Int.reduceSub, Int.reduceMul, Int.reduceNeg, Nat.reduceEqDiff, Nat.reduceBEq, Nat.reduceBNe, Nat.reduceAdd, Nat.reduceLeDiff, Nat.reduceLT, Nat.reduceMul, ↓reduceIte, reduceCtorEq, g44, pf44, b44]
        exact ⟨n, rfl, hi.2⟩
    · simp (disch := first | assumption | ((try simp only [LEN, LEN2]); omega)) only [push_cast, Int.reduceToNat, Int.reduceEq, Int.reduceNe, Int.reduceLT, Int.reduceLE, Int.reduceAdd, Int.reduceSub, Int.reduceMul, Int.reduceNeg, Nat.reduceEqDiff, Nat.reduceBEq, Nat.reduceBNe, Nat.reduceAdd, Nat.reduceLeDiff, Nat.reduceLT, Nat.reduceMul, ↓reduceIte, reduceCtorEq, g44, pf44, b44, h1]
      exact ⟨n, rfl, hi.2⟩)
  exact ⟨n, h1, h2⟩

def smS (l : List (List UInt8)) : Prop := l.length ≤ 1048576 ∧ ∀ s ∈ l, s.length ≤ 1048576
def smW (l : List Write) : Prop := l.length ≤ 1048576 ∧ ∀ w ∈ l, w.Key.length ≤ 1048576 ∧ w.Value.length ≤ 1048576
def smR (l : List Record) : Prop := l.length ≤ 1048576 ∧ ∀ r ∈ l, smW r.Writes ∧ okN r.Commit

theorem f79 {l : List Write} (hl : smW l) : ∃ n : Int, Fun G 79 [.one (.d (.sl (l.map eW)))] (.int .i64 n, []) ∧ 0 ≤ n ∧ n ≤ 2097152 := by
  obtain ⟨hl, h⟩ := hl
  obtain ⟨r, h1, n, rfl, h2⟩ := Fun.ex_of_run (G := G) (f := 79) (args := [.one (.d (.sl (l.map eW)))]) (Q := fun r => ∃ n : Int, r = (.int .i64 n, []) ∧ 0 ≤ n ∧ n ≤ 2097152) (g := g79) (pf := pf79) rfl rfl rfl rfl (by
    simp (disch := first | assumption | ((try simp only [LEN, LEN2]); omega)) only [push_cast, Int.reduceToNat, Int.reduceEq, Int.reduceNe, Int.reduceLT, Int.reduceLE, Int.reduceAdd, Int.reduceSub, Int.reduceMul, Int.reduceNeg, Nat.reduceEqDiff, Nat.reduceBEq, Nat.reduceBNe, Nat.reduceAdd, Nat.reduceLeDiff, Nat.reduceLT, Nat.reduceMul, ↓reduceIte, reduceCtorEq, g79, pf79, b79]
    refine run_loop' (fun x : Nat × Int => [(0, T.one (.d (.sl (l.map eW)))), (3, T.int .i64 x.2), (4, T.int .i64 x.1)]) (fun x => x.1 ≤ l.length ∧ 0 ≤ x.2 ∧ x.2 ≤ 2097152) (fun x => l.length - x.1) (0, l.length) rfl (by simp only; omega) (fun ⟨i, n⟩ hi => ?_)
    simp only at hi
    by_cases h1 : (i : Int) < l.length
    · have hi' : i < l.length := by omega
      have hs := h l[i] (List.getElem_mem hi')
      simp (disch := first | assumption | ((try simp only [LEN, LEN2]); omega)) only [push_cast, Int.reduceToNat, Int.reduceEq, Int.reduceNe, Int.reduceLT, Int.reduceLE, Int.reduceAdd, Int.reduceSub, Int.reduceMul, Int.reduceNeg, Nat.reduceEqDiff, Nat.reduceBEq, Nat.reduceBNe, Nat.reduceAdd, Nat.reduceLeDiff, Nat.reduceLT, Nat.reduceMul, ↓reduceIte, reduceCtorEq, g79, pf79, b79, h1]
      refine If.dec (fun h2 => ?_) (fun h2 => ?_)
      · simp (disch := first | assumption | ((try simp only [LEN, LEN2]); omega)) only [push_cast, Int.reduceToNat, Int.reduceEq, Int.reduceNe, Int.reduceLT, Int.reduceLE, Int.reduceAdd, Int.reduceSub, Int.reduceMul, Int.reduceNeg, Nat.reduceEqDiff, Nat.reduceBEq, Nat.reduceBNe, Nat.reduceAdd, Nat.reduceLeDiff, Nat.reduceLT, Nat.reduceMul, ↓reduceIte, reduceCtorEq, g79, pf79, b79, eW]
        exact ⟨(i + 1, n + ((l[i].Key.length : Int) + l[i].Value.length) / 8), rfl, by simp only; omega, by simp only; omega⟩
      · simp (disch := first | assumption | ((try simp only [LEN, LEN2]); omega)) only [push_cast, Int.reduceToNat, Int.reduceEq, Int.reduceNe, Int.reduceLT, Int.reduceLE, Int.reduceAdd, Int.reduceSub, Int.reduceMul, Int.reduceNeg, Nat.reduceEqDiff, Nat.reduceBEq, Nat.reduceBNe, Nat.reduceAdd, Nat.reduceLeDiff, Nat.reduceLT, Nat.reduceMul, ↓reduceIte, reduceCtorEq, g79, pf79, b79]
        exact ⟨n, rfl, hi.2⟩
    · simp (disch := first | assumption | ((try simp only [LEN, LEN2]); omega)) only [push_cast, Int.reduceToNat, Int.reduceEq, Int.reduceNe, Int.reduceLT, Int.reduceLE, Int.reduceAdd, Int.reduceSub, Int.reduceMul, Int.reduceNeg, Nat.reduceEqDiff, Nat.reduceBEq, Nat.reduceBNe, Nat.reduceAdd, Nat.reduceLeDiff, Nat.reduceLT, Nat.reduceMul, ↓reduceIte, reduceCtorEq, g79, pf79, b79, h1]
      exact ⟨n, rfl, hi.2⟩)
  exact ⟨n, h1, h2⟩

theorem f43 {l : List Record} (hl : smR l) : ∃ n : Int, Fun G 43 [.one (.d (.sl (l.map eR)))] (.int .i64 n, []) ∧ 0 ≤ n ∧ n ≤ 4194304 := by
  obtain ⟨hl, h⟩ := hl
  obtain ⟨r, h1, n, rfl, h2⟩ := Fun.ex_of_run (G := G) (f := 43) (args := [.one (.d (.sl (l.map eR)))]) (Q := fun r => ∃ n : Int, r = (.int .i64 n, []) ∧ 0 ≤ n ∧ n ≤ 4194304) (g := g43) (pf := pf43) rfl rfl rfl rfl (by
    simp (disch := first | assumption | ((try simp only [LEN, LEN2]); omega)) only [push_cast, Int.reduceToNat, Int.reduceEq, Int.reduceNe, Int.reduceLT, Int.reduceLE, Int.reduceAdd, Int.reduceSub, Int.reduceMul, Int.reduceNeg, Nat.reduceEqDiff, Nat.reduceBEq, Nat.reduceBNe, Nat.reduceAdd, Nat.reduceLeDiff, Nat.reduceLT, Nat.reduceMul, ↓reduceIte, reduceCtorEq, g43, pf43, b43]
    refine run_loop' (fun x : Nat × Int => [(0, T.one (.d (.sl (l.map eR)))), (3, T.int .i64 x.2), (4, T.int .i64 x.1)]) (fun x => x.1 ≤ l.length ∧ 0 ≤ x.2 ∧ x.2 ≤ 4194304) (fun x => l.length - x.1) (0, l.length) rfl (by simp only; omega) (fun ⟨i, n⟩ hi => ?_)
    simp only at hi
    by_cases h1 : (i : Int) < l.length
    · have hi' : i < l.length := by omega
      obtain ⟨m, hm, hm1, hm2⟩ := f79 (h l[i] (List.getElem_mem hi')).1
      simp (disch := first | assumption | ((try simp only [LEN, LEN2]); omega)) only [push_cast, Int.reduceToNat, Int.reduceEq, Int.reduceNe, Int.reduceLT, Int.reduceLE, Int.reduceAdd, Int.reduceSub, Int.reduceMul, Int.reduceNeg, Nat.reduceEqDiff, Nat.reduceBEq, Nat.reduceBNe, Nat.reduceAdd, Nat.reduceLeDiff, Nat.reduceLT, Nat.reduceMul, ↓reduceIte, reduceCtorEq, g43, pf43, b43, h1]
      refine If.dec (fun h2 => ?_) (fun h2 => ?_)
      · simp (disch := first | assumption | ((try simp only [LEN, LEN2]); omega)) only [push_cast, Int.reduceToNat, Int.reduceEq, Int.reduceNe, Int.reduceLT, Int.reduceLE, Int.reduceAdd, Int.reduceSub, Int.reduceMul, Int.reduceNeg, Nat.reduceEqDiff, Nat.reduceBEq, Nat.reduceBNe, Nat.reduceAdd, Nat.reduceLeDiff, Nat.reduceLT, Nat.reduceMul, ↓reduceIte, reduceCtorEq, g43, pf43, b43, eR, callC_eq hm]
        exact ⟨(i + 1, n + m), rfl, by simp only; omega, by simp only; omega⟩
      · simp (disch := first | assumption | ((try simp only [LEN, LEN2]); omega)) only [push_cast, Int.reduceToNat, Int.reduceEq, Int.reduceNe, Int.reduceLT, Int.reduceLE, Int.reduceAdd, Int.reduceSub, Int.reduceMul, Int.reduceNeg, Nat.reduceEqDiff, Nat.reduceBEq, Nat.reduceBNe, Nat.reduceAdd, Nat.reduceLeDiff, Nat.reduceLT, Nat.reduceMul, ↓reduceIte, reduceCtorEq, g43, pf43, b43]
        exact ⟨n, rfl, hi.2⟩
    · simp (disch := first | assumption | ((try simp only [LEN, LEN2]); omega)) only [push_cast, Int.reduceToNat, Int.reduceEq, Int.reduceNe, Int.reduceLT, Int.reduceLE, Int.reduceAdd, Int.reduceSub, Int.reduceMul, Int.reduceNeg, Nat.reduceEqDiff, Nat.reduceBEq, Nat.reduceBNe, Nat.reduceAdd, Nat.reduceLeDiff, Nat.reduceLT, Nat.reduceMul, ↓reduceIte, reduceCtorEq, g43, pf43, b43, h1]
      exact ⟨n, rfl, hi.2⟩)
  exact ⟨n, h1, h2⟩

theorem f11 {R : List Record} {S : List (List UInt8)} {N : List Int} {L : List (List (List UInt8))} (hR : smR R) (hS : smS S) (hN : N.length ≤ 1048576) (hL : L.length ≤ 1048576 ∧ ∀ l ∈ L, smS l) :
    ∃ b : Bool, Fun G 11 [.vs true [.d (.sl (R.map eR)), .d (.sl (S.map eS)), .d (.sl (N.map eN)), .d (.sl (L.map fun l => [.sl (l.map eS)]))]] (.bool b, []) := by
  obtain ⟨a, ha, ha1, ha2⟩ := f43 hR
  obtain ⟨c, hc, hc1, hc2⟩ := f44 hS.1 hS.2
  obtain ⟨r, h1, b, rfl⟩ := Fun.ex_of_run (G := G) (f := 11) (args := [.vs true [.d (.sl (R.map eR)), .d (.sl (S.map eS)), .d (.sl (N.map eN)), .d (.sl (L.map fun l => [.sl (l.map eS)]))]]) (Q := fun r => ∃ b : Bool, r = (.bool b, [])) (g := g11) (pf := pf11) rfl rfl rfl rfl (by
    simp (disch := first | assumption | ((try simp only [LEN, LEN2]); omega)) only [push_cast, Int.reduceToNat, Int.reduceEq, Int.reduceNe, Int.reduceLT, Int.reduceLE, Int.reduceAdd, Int.reduceSub, Int.reduceMul, Int.reduceNeg, Nat.reduceEqDiff, Nat.reduceBEq, Nat.reduceBNe, Nat.reduceAdd, Nat.reduceLeDiff, Nat.reduceLT, Nat.reduceMul, ↓reduceIte, reduceCtorEq, g11, pf11, b11, callC_eq ha, callC_eq hc]
    refine run_loop' (fun x : Nat × Int => [(1, T.one (.box [.d (.sl (R.map eR)), .d (.sl (S.map eS)), .d (.sl (N.map eN)), .d (.sl (L.map fun l => [.sl (l.map eS)]))])), (3, T.int .i64 x.2), (4, T.int .i64 x.1)]) (fun x => x.1 ≤ L.length ∧ 0 ≤ x.2 ∧ x.2 ≤ 1099511627776) (fun x => L.length - x.1) (0, a * 8 + c + N.length + L.length) rfl (by simp only; omega) (fun ⟨i, n⟩ hi => ?_)
    simp only at hi
    by_cases h1 : (i : Int) < L.length
    · have hi' : i < L.length := by omega
      have hs := hL.2 L[i] (List.getElem_mem hi')
      obtain ⟨m, hm, hm1, hm2⟩ := f44 hs.1 hs.2
      simp (disch := first | assumption | ((try simp only [LEN, LEN2]); omega)) only [push_cast, Int.reduceToNat, Int.reduceEq, Int.reduceNe, Int.reduceLT, Int.reduceLE, Int.reduceAdd, Int.reduceSub, Int.reduceMul, Int.reduceNeg, Nat.reduceEqDiff, Nat.reduceBEq, Nat.reduceBNe, Nat.reduceAdd, Nat.reduceLeDiff, Nat.reduceLT, Nat.reduceMul, ↓reduceIte, reduceCtorEq, g11, pf11, b11, h1]
      refine If.dec (fun h2 => ?_) (fun h2 => ?_)
      · simp (disch := first | assumption | ((try simp only [LEN, LEN2]); omega)) only [push_cast, Int.reduceToNat, Int.reduceEq, Int.reduceNe, Int.reduceLT, Int.reduceLE, Int.reduceAdd, Int.reduceSub, Int.reduceMul, Int.reduceNeg, Nat.reduceEqDiff, Nat.reduceBEq, Nat.reduceBNe, Nat.reduceAdd, Nat.reduceLeDiff, Nat.reduceLT, Nat.reduceMul, ↓reduceIte, reduceCtorEq, g11, pf11, b11, callC_eq hm]
        exact ⟨(i + 1, n + m), rfl, by simp only; omega, by simp only; omega⟩
      · simp (disch := first | assumption | ((try simp only [LEN, LEN2]); omega)) only [push_cast, Int.reduceToNat, Int.reduceEq, Int.reduceNe, Int.reduceLT, Int.reduceLE, Int.reduceAdd, Int.reduceSub, Int.reduceMul, Int.reduceNeg, Nat.reduceEqDiff, Nat.reduceBEq, Nat.reduceBNe, Nat.reduceAdd, Nat.reduceLeDiff, Nat.reduceLT, Nat.reduceMul, ↓reduceIte, reduceCtorEq, g11, pf11, b11]
        exact ⟨_, rfl⟩
    · simp (disch := first | assumption | ((try simp only [LEN, LEN2]); omega)) only [push_cast, Int.reduceToNat, Int.reduceEq, Int.reduceNe, Int.reduceLT, Int.reduceLE, Int.reduceAdd, Int.reduceSub, Int.reduceMul, Int.reduceNeg, Nat.reduceEqDiff, Nat.reduceBEq, Nat.reduceBNe, Nat.reduceAdd, Nat.reduceLeDiff, Nat.reduceLT, Nat.reduceMul, ↓reduceIte, reduceCtorEq, g11, pf11, b11, h1]
      exact ⟨_, rfl⟩)
  exact ⟨b, h1⟩

end Go.Mir.Try

/- Walks: bytes. -/
set_option linter.unusedVariables false
set_option linter.unusedSimpArgs false
set_option maxRecDepth 100000
namespace Go.Mir.Try
open Go.Proofs Go.Mir.Q

theorem oB_byt (n : Int) : oB (byt n) = [.d (.sc (.int .u8 (n % 256)))] := by simp only [oB, byt_toNat]
theorem be4 (n : Int) : be 4 n = [byt (n / 16777216), byt (n / 65536), byt (n / 256), byt n] := by
  rw [be_cons, be_cons, be_cons, be_cons]; simp [be]

set_option maxHeartbeats 2000000 in
theorem f83 {b : List UInt8} {n : Int} (hb : b.length ≤ 1000000000) : Fun G 83 [.one (.own 5 (b.map oB)), .int .i64 n] (.one (.own 5 ((b ++ be 4 n).map oB)), []) := by
  refine Fun.of_run (g := g83) (pf := pf83) rfl rfl rfl rfl ?_
  simp (disch := first | assumption | ((try simp only [LEN, LEN2]); omega)) only [push_cast, Int.reduceToNat, Int.reduceEq, Int.reduceNe, Int.reduceLT, Int.reduceLE, Int.reduceAdd, Int.reduceSub, Int.reduceMul, Int.reduceNeg, Nat.reduceEqDiff, Nat.reduceBEq, Nat.reduceBNe, Nat.reduceAdd, Nat.reduceLeDiff, Nat.reduceLT, Nat.reduceMul, ↓reduceIte, reduceCtorEq, g83, pf83, b83]
  simp only [be4, List.map_append, List.map_cons, List.map_nil, oB_byt]
theorem f83t {b : List UInt8} {n : Int} (hb : b.length ≤ 1000000000) {g : VG} {F : Fn} {lk : Bool} {ags : List Arg} {e0 e1 : Env} {dst : Option Nat} {ops : List Ins} {keep : Option (List Nat)} {K : List Fr} : CallT G g F 83 [.one (.own 5 (b.map oB)), .int .i64 n] lk ags e0 e1 dst ops keep K = RetT G g F (.one (.own 5 ((b ++ be 4 n).map oB))) [] lk ags e0 e1 dst ops keep K := callT_eq (f83 hb)
attribute [push_cast] f83t

theorem set_oB (l : List UInt8) (i : Nat) (b : UInt8) : (l.map oB).set i [.d (.sc (.int .u8 b.toNat))] = (l.set i b).map oB := by
  rw [List.map_set]; rfl

set_option maxHeartbeats 2000000 in
theorem f49 {n m' : Int} (h0 : 0 ≤ m') (hm' : m' ≤ 8) : Fun G 49 [.int .i64 n, .int .i64 m'] (.str (bs (be m'.toNat n)), []) := by
  refine Fun.of_run (g := g49) (pf := pf49) rfl rfl rfl rfl ?_
  obtain ⟨m, rfl⟩ := Int.eq_ofNat_of_zero_le h0
  have hm : m ≤ 8 := by omega
  rw [Int.toNat_natCast]
  simp (disch := first | assumption | ((try simp only [LEN, LEN2]); omega)) only [push_cast, Int.reduceToNat, Int.reduceEq, Int.reduceNe, Int.reduceLT, Int.reduceLE, Int.reduceAdd, Int.reduceSub, Int.reduceMul, Int.reduceNeg, Nat.reduceEqDiff, Nat.reduceBEq, Nat.reduceBNe, Nat.reduceAdd, Nat.reduceLeDiff, Nat.reduceLT, Nat.reduceMul, ↓reduceIte, reduceCtorEq, g49, pf49, b49]
  refine run_loop' (fun i : Nat => [(0, T.int .i64 (n / 256 ^ (m - i))), (5, T.one (.own 5 ((List.replicate i 0 ++ be (m - i) n).map oB))), (6, T.int .i64 ((i : Int) - 1))]) (fun i => i ≤ m) (fun i => i) m ?_ (Nat.le_refl _) (fun i hi => ?_)
  · simp [be, oB]
  simp (disch := first | assumption | ((try simp only [LEN, LEN2]); omega)) only [push_cast, Int.reduceToNat, Int.reduceEq, Int.reduceNe, Int.reduceLT, Int.reduceLE, Int.reduceAdd, Int.reduceSub, Int.reduceMul, Int.reduceNeg, Nat.reduceEqDiff, Nat.reduceBEq, Nat.reduceBNe, Nat.reduceAdd, Nat.reduceLeDiff, Nat.reduceLT, Nat.reduceMul, ↓reduceIte, reduceCtorEq, g49, pf49, b49]
  refine If.dec (fun h => ?_) (fun h => ?_)
  · obtain ⟨j, rfl⟩ : ∃ j, i = j + 1 := ⟨i - 1, by omega⟩
    have e1 : (j : Int) + 1 - 1 = j := by omega
    obtain ⟨q, rfl⟩ : ∃ q, m = q + (j + 1) := ⟨m - (j + 1), by omega⟩
    have e2 : q + (j + 1) - (j + 1) = q := by omega
    have e3 : q + (j + 1) - j = q + 1 := by omega
    obtain ⟨l, hl⟩ : ∃ l, l = List.replicate (j + 1) 0 ++ be q n := ⟨_, rfl⟩
    have hll : j < l.length := by rw [hl]; simp; omega
    rw [e2, ← hl]
    simp (disch := first | assumption | ((try simp only [LEN, LEN2]); omega)) only [push_cast, Int.reduceToNat, Int.reduceEq, Int.reduceNe, Int.reduceLT, Int.reduceLE, Int.reduceAdd, Int.reduceSub, Int.reduceMul, Int.reduceNeg, Nat.reduceEqDiff, Nat.reduceBEq, Nat.reduceBNe, Nat.reduceAdd, Nat.reduceLeDiff, Nat.reduceLT, Nat.reduceMul, ↓reduceIte, reduceCtorEq, g49, pf49, b49, e1, oB]
    refine ⟨j, ?_, by omega, by omega⟩
    rw [← oB_byt, e3, be_cons, show List.replicate j 0 ++ byt (n / 256 ^ q) :: be q n = l.set j (byt (n / 256 ^ q)) by subst hl; simp [List.replicate_succ', List.set_append], List.map_set, Int.pow_succ, ← Int.ediv_ediv_of_nonneg (Int.pow_nonneg (by omega))]
  · obtain rfl : i = 0 := by omega
    simp (disch := first | assumption | ((try simp only [LEN, LEN2]); omega)) only [push_cast, Int.reduceToNat, Int.reduceEq, Int.reduceNe, Int.reduceLT, Int.reduceLE, Int.reduceAdd, Int.reduceSub, Int.reduceMul, Int.reduceNeg, Nat.reduceEqDiff, Nat.reduceBEq, Nat.reduceBNe, Nat.reduceAdd, Nat.reduceLeDiff, Nat.reduceLT, Nat.reduceMul, ↓reduceIte, reduceCtorEq, g49, pf49, b49]
    simp
theorem f49c {n m' : Int} (h0 : 0 ≤ m') (hm' : m' ≤ 8) {g : VG} {F : Fn} {lk : Bool} {e : Env} {dst : Option Nat} {ops : List Ins} {keep : Option (List Nat)} {K : List Fr} : CallC G g F 49 [.int .i64 n, .int .i64 m'] lk e dst ops keep K = ThenL G g F (if lk && !(T.noSl (.str (bs (be m'.toNat n)))) then none else e.put g.un dst (.str (bs (be m'.toNat n)))) ops keep K := callC_eq (f49 h0 hm')
attribute [push_cast] f49c

theorem or_byte {a b : Int} (h0 : 0 ≤ a) (h1 : a < 36028797018963968) (h2 : 0 ≤ b) (h3 : b < 256) : IntKind.i64.wrap ((BitVec.ofInt IntKind.i64.bits (a * 256) ||| BitVec.ofInt IntKind.i64.bits b).toNat) = a * 256 + b := by
  obtain ⟨m, rfl⟩ := Int.eq_ofNat_of_zero_le h0
  obtain ⟨k, rfl⟩ := Int.eq_ofNat_of_zero_le h2
  have e : (BitVec.ofInt IntKind.i64.bits ((m : Int) * 256) ||| BitVec.ofInt IntKind.i64.bits k).toNat = m * 256 + k := by
    have h4 : m * 256 % 18446744073709551616 = m * 256 := Nat.mod_eq_of_lt (by omega)
    have h5 : k % 18446744073709551616 = k := Nat.mod_eq_of_lt (by omega)
    have h6 : (m : Int) * 256 = ((m * 256 : Nat) : Int) := by push_cast; rfl
    rw [h6, BitVec.ofInt_natCast, BitVec.ofInt_natCast, BitVec.toNat_or, BitVec.toNat_ofNat, BitVec.toNat_ofNat]
    simp only [IntKind.bits]
    rw [show 2 ^ 64 = 18446744073709551616 from rfl, h4, h5]
    have := Nat.two_pow_add_eq_or_of_lt (i := 8) (b := k) (by omega) m
    rw [Nat.mul_comm m 256]
    exact this.symm
  rw [e, wrap_i64 (by omega) (by omega)]
  push_cast
  rfl

/-- A number, of bytes. -/
def num (l : List UInt8) : Int := l.foldl (fun a b => a * 256 + b.toNat) 0
theorem num_snoc (l : List UInt8) (b : UInt8) : num (l ++ [b]) = num l * 256 + b.toNat := by simp [num]
theorem num_bdk : ∀ (l : List UInt8) (k : Nat) (a : Int), 0 ≤ a → a < 256 ^ k → 0 ≤ l.foldl (fun a b => a * 256 + (b.toNat : Int)) a ∧ l.foldl (fun a b => a * 256 + (b.toNat : Int)) a < 256 ^ (k + l.length)
  | [], k, a, h0, h1 => ⟨h0, h1⟩
  | b :: l, k, a, h0, h1 => by
    have hb := b.toNat_lt
    have := num_bdk l (k + 1) (a * 256 + b.toNat) (by omega) (by rw [Int.pow_succ]; omega)
    rw [show k + (b :: l).length = k + 1 + l.length by simp; omega]
    exact this
theorem num_bd6 (l : List UInt8) (h : l.length ≤ 6) : 0 ≤ num l ∧ num l < 281474976710656 := by
  have h1 := num_bdk l 0 0 (by omega) (by simp)
  refine ⟨h1.1, Int.lt_of_lt_of_le h1.2 ?_⟩
  have : l.length = 0 ∨ l.length = 1 ∨ l.length = 2 ∨ l.length = 3 ∨ l.length = 4 ∨ l.length = 5 ∨ l.length = 6 := by omega
  rcases this with h | h | h | h | h | h | h <;> rw [h] <;> decide

set_option maxHeartbeats 2000000 in
theorem f53 {s : List UInt8} (hs : s.length ≤ 6) : Fun G 53 [.str (bs s)] (.int .i64 (num s), []) := by
  refine Fun.of_run (g := g53) (pf := pf53) rfl rfl rfl rfl ?_
  simp (disch := first | assumption | ((try simp only [LEN, LEN2]); omega)) only [push_cast, Int.reduceToNat, Int.reduceEq, Int.reduceNe, Int.reduceLT, Int.reduceLE, Int.reduceAdd, Int.reduceSub, Int.reduceMul, Int.reduceNeg, Nat.reduceEqDiff, Nat.reduceBEq, Nat.reduceBNe, Nat.reduceAdd, Nat.reduceLeDiff, Nat.reduceLT, Nat.reduceMul, ↓reduceIte, reduceCtorEq, g53, pf53, b53]
  refine run_loop' (fun i : Nat => [(0, T.str (bs s)), (3, T.int .i64 (num (s.take i))), (4, T.int .i64 i)]) (fun i => i ≤ s.length) (fun i => s.length - i) 0 rfl (Nat.zero_le _) (fun i hi => ?_)
  have hb := num_bd6 (s.take i) (by simp; omega)
  simp (disch := first | assumption | ((try simp only [LEN, LEN2]); omega)) only [push_cast, Int.reduceToNat, Int.reduceEq, Int.reduceNe, Int.reduceLT, Int.reduceLE, Int.reduceAdd, Int.reduceSub, Int.reduceMul, Int.reduceNeg, Nat.reduceEqDiff, Nat.reduceBEq, Nat.reduceBNe, Nat.reduceAdd, Nat.reduceLeDiff, Nat.reduceLT, Nat.reduceMul, ↓reduceIte, reduceCtorEq, g53, pf53, b53]
  refine If.dec (fun h => ?_) (fun h => ?_)
  · replace h : i < s.length := by omega
    have e := or_byte (a := num (s.take i)) (b := s[i].toNat) hb.1 (by omega) (by omega) (by have := s[i].toNat_lt; omega)
    simp (disch := first | assumption | ((try simp only [LEN, LEN2]); omega)) only [push_cast, Int.reduceToNat, Int.reduceEq, Int.reduceNe, Int.reduceLT, Int.reduceLE, Int.reduceAdd, Int.reduceSub, Int.reduceMul, Int.reduceNeg, Nat.reduceEqDiff, Nat.reduceBEq, Nat.reduceBNe, Nat.reduceAdd, Nat.reduceLeDiff, Nat.reduceLT, Nat.reduceMul, ↓reduceIte, reduceCtorEq, g53, pf53, b53, e]
    refine ⟨i + 1, ?_, by omega, by omega⟩
    rw [List.take_succ_eq_append_getElem h, num_snoc]; rfl
  · obtain rfl : i = s.length := by omega
    simp (disch := first | assumption | ((try simp only [LEN, LEN2]); omega)) only [push_cast, Int.reduceToNat, Int.reduceEq, Int.reduceNe, Int.reduceLT, Int.reduceLE, Int.reduceAdd, Int.reduceSub, Int.reduceMul, Int.reduceNeg, Nat.reduceEqDiff, Nat.reduceBEq, Nat.reduceBNe, Nat.reduceAdd, Nat.reduceLeDiff, Nat.reduceLT, Nat.reduceMul, ↓reduceIte, reduceCtorEq, g53, pf53, b53]
    simp
theorem f53c {s : List UInt8} (hs : s.length ≤ 6) {g : VG} {F : Fn} {lk : Bool} {e : Env} {dst : Option Nat} {ops : List Ins} {keep : Option (List Nat)} {K : List Fr} : CallC G g F 53 [.str (bs s)] lk e dst ops keep K = ThenL G g F (if lk && !(T.noSl (.int .i64 (num s))) then none else e.put g.un dst (.int .i64 (num s))) ops keep K := callC_eq (f53 hs)
attribute [push_cast] f53c

end Go.Mir.Try

/- Walks: records. -/
set_option linter.unusedVariables false
set_option linter.unusedSimpArgs false
set_option maxRecDepth 100000
namespace Go.Mir.Try
open Go.Proofs Go.Mir.Q

def idx {α : Type} (p : α → Bool) (l : List α) : Int := match l.findIdx? p with | some i => i | none => -1
theorem idx_none {α : Type} {p : α → Bool} {l : List α} (h : ∀ x ∈ l, p x = false) : idx p l = -1 := by
  have : l.findIdx? p = none := List.findIdx?_eq_none_iff.2 h
  simp [idx, this]
theorem idx_some {α : Type} {p : α → Bool} {l : List α} {i : Nat} (hi : i < l.length) (h : ∀ x ∈ l.take i, p x = false) (h2 : p l[i] = true) : idx p l = i := by
  have : l.findIdx? p = some i := by
    rw [List.findIdx?_eq_some_iff_getElem]
    refine ⟨hi, h2, fun j hj => ?_⟩
    have := h l[j] (by rw [List.mem_take_iff_getElem]; exact ⟨j, by omega, rfl⟩)
    simp [this]
  simp [idx, this]
theorem idx_nonneg {α : Type} (p : α → Bool) (l : List α) : decide (0 ≤ idx p l) = l.any p := by
  unfold idx
  cases h : l.findIdx? p with
  | none =>
    have := List.findIdx?_eq_none_iff.1 h
    have h2 : l.any p = false := by rw [List.any_eq_false]; intro x hx; simp [this x hx]
    simp [h2]
  | some i =>
    obtain ⟨hi, h2, _⟩ := List.findIdx?_eq_some_iff_getElem.1 h
    have h3 : l.any p = true := List.any_eq_true.2 ⟨l[i], List.getElem_mem hi, h2⟩
    simp [h3]

theorem f103 {l : List Write} {f : FuncId} {p : Write → Bool} (hl : l.length ≤ 1000000000) (hpm : G.pm f = [.ro]) (hf : ∀ w ∈ l, Fun G f [.vs true (oW w)] (.bool (p w), [])) :
    Fun G 103 [.one (.d (.sl (l.map eW))), .fn f []] (.int .i64 (idx p l), []) := by
  refine Fun.of_run (g := g103) (pf := pf103) rfl rfl rfl rfl ?_
  simp (disch := first | assumption | ((try simp only [LEN, LEN2]); omega)) only [push_cast, Int.reduceToNat, Int.reduceEq, Int.reduceNe, Int.reduceLT, Int.reduceLE, Int.reduceAdd, Int.reduceSub, Int.reduceMul, Int.reduceNeg, Nat.reduceEqDiff, Nat.reduceBEq, Nat.reduceBNe, Nat.reduceAdd, Nat.reduceLeDiff, Nat.reduceLT, Nat.reduceMul, ↓reduceIte, reduceCtorEq, g103, pf103, b103]
  refine run_loop' (fun i : Nat => [(0, T.one (.d (.sl (l.map eW)))), (1, T.fn f []), (7, T.int .i64 l.length), (8, T.int .i64 i)]) (fun i => i ≤ l.length ∧ ∀ x ∈ l.take i, p x = false) (fun i => l.length - i) 0 rfl ⟨Nat.zero_le _, by simp⟩ (fun i hi => ?_)
  obtain ⟨hi, ht⟩ := hi
  simp (disch := first | assumption | ((try simp only [LEN, LEN2]); omega)) only [push_cast, Int.reduceToNat, Int.reduceEq, Int.reduceNe, Int.reduceLT, Int.reduceLE, Int.reduceAdd, Int.reduceSub, Int.reduceMul, Int.reduceNeg, Nat.reduceEqDiff, Nat.reduceBEq, Nat.reduceBNe, Nat.reduceAdd, Nat.reduceLeDiff, Nat.reduceLT, Nat.reduceMul, ↓reduceIte, reduceCtorEq, g103, pf103, b103]
  refine If.dec (fun h => ?_) (fun h => ?_)
  · replace h : i < l.length := by omega
    have h2 := hf l[i] (List.getElem_mem h)
    simp only [oW] at h2
    simp (disch := first | assumption | ((try simp only [LEN, LEN2]); omega)) only [push_cast, Int.reduceToNat, Int.reduceEq, Int.reduceNe, Int.reduceLT, Int.reduceLE, Int.reduceAdd, Int.reduceSub, Int.reduceMul, Int.reduceNeg, Nat.reduceEqDiff, Nat.reduceBEq, Nat.reduceBNe, Nat.reduceAdd, Nat.reduceLeDiff, Nat.reduceLT, Nat.reduceMul, ↓reduceIte, reduceCtorEq, g103, pf103, b103, hpm, eW, callT_eq h2]
    by_cases hp : p l[i] = true
    · simp (disch := first | assumption | ((try simp only [LEN, LEN2]); omega)) only [push_cast, Int.reduceToNat, Int.reduceEq, Int.reduceNe, Int.reduceLT, Int.reduceLE, Int.reduceAdd, Int.reduceSub, Int.reduceMul, Int.reduceNeg, Nat.reduceEqDiff, Nat.reduceBEq, Nat.reduceBNe, Nat.reduceAdd, Nat.reduceLeDiff, Nat.reduceLT, Nat.reduceMul, ↓reduceIte, reduceCtorEq, g103, pf103, b103, hp]
      rw [idx_some h ht hp]
    · rw [Bool.not_eq_true] at hp
      simp (disch := first | assumption | ((try simp only [LEN, LEN2]); omega)) only [push_cast, Int.reduceToNat, Int.reduceEq, Int.reduceNe, Int.reduceLT, Int.reduceLE, Int.reduceAdd, Int.reduceSub, Int.reduceMul, Int.reduceNeg, Nat.reduceEqDiff, Nat.reduceBEq, Nat.reduceBNe, Nat.reduceAdd, Nat.reduceLeDiff, Nat.reduceLT, Nat.reduceMul, ↓reduceIte, reduceCtorEq, g103, pf103, b103, hp]
      refine ⟨i + 1, rfl, ⟨by omega, fun x hx => ?_⟩, by omega⟩
      rw [List.take_succ_eq_append_getElem h, List.mem_append, List.mem_singleton] at hx
      rcases hx with hx | rfl
      · exact ht x hx
      · exact hp
  · obtain rfl : i = l.length := by omega
    simp (disch := first | assumption | ((try simp only [LEN, LEN2]); omega)) only [push_cast, Int.reduceToNat, Int.reduceEq, Int.reduceNe, Int.reduceLT, Int.reduceLE, Int.reduceAdd, Int.reduceSub, Int.reduceMul, Int.reduceNeg, Nat.reduceEqDiff, Nat.reduceBEq, Nat.reduceBNe, Nat.reduceAdd, Nat.reduceLeDiff, Nat.reduceLT, Nat.reduceMul, ↓reduceIte, reduceCtorEq, g103, pf103, b103]
    rw [idx_none (fun x hx => ht x (by rw [List.take_length]; exact hx))]

theorem f80 {l : List Write} {f : FuncId} {p : Write → Bool} (hl : l.length ≤ 1000000000) (hpm : G.pm f = [.ro]) (hf : ∀ w ∈ l, Fun G f [.vs true (oW w)] (.bool (p w), [])) :
    Fun G 80 [.one (.d (.sl (l.map eW))), .fn f []] (.bool (l.any p), []) := by
  refine Fun.of_run (g := g80) (pf := pf80) rfl rfl rfl rfl ?_
  simp (disch := first | assumption | ((try simp only [LEN, LEN2]); omega)) only [push_cast, Int.reduceToNat, Int.reduceEq, Int.reduceNe, Int.reduceLT, Int.reduceLE, Int.reduceAdd, Int.reduceSub, Int.reduceMul, Int.reduceNeg, Nat.reduceEqDiff, Nat.reduceBEq, Nat.reduceBNe, Nat.reduceAdd, Nat.reduceLeDiff, Nat.reduceLT, Nat.reduceMul, ↓reduceIte, reduceCtorEq, g80, pf80, b80, callC_eq (f103 hl hpm hf)]
  rw [← idx_nonneg]

set_option maxHeartbeats 2000000 in
theorem f46 {n : Int} {l : List Write} (hl : l.length ≤ 1000000000) : Fun G 46 [.vs true [.d (.sc (.int .i64 n)), .d (.sl (l.map eW))]] (.bool (okR ⟨n, l⟩), []) := by
  refine Fun.of_run (g := g46) (pf := pf46) rfl rfl rfl rfl ?_
  have h := f80 (l := l) (f := 81) (p := fun w => !okW w) hl rfl (fun w _ => f81)
  by_cases h1 : 1 ≤ n
  · by_cases h2 : n ≤ 1073741824
    · by_cases h3 : (l.length : Int) ≤ 64
      · simp (disch := first | assumption | ((try simp only [LEN, LEN2]); omega)) only [push_cast, Int.reduceToNat, Int.reduceEq, Int.reduceNe, Int.reduceLT, Int.reduceLE, Int.reduceAdd, Int.reduceSub, Int.reduceMul, Int.reduceNeg, Nat.reduceEqDiff, Nat.reduceBEq, Nat.reduceBNe, Nat.reduceAdd, Nat.reduceLeDiff, Nat.reduceLT, Nat.reduceMul, ↓reduceIte, reduceCtorEq, g46, pf46, b46, h1, h2, h3, callC_eq h]
        simp only [okR]
        have : l.length ≤ 64 := by omega
        simp [h1, h2, this, List.not_any_eq_all_not]
      · simp (disch := first | assumption | ((try simp only [LEN, LEN2]); omega)) only [push_cast, Int.reduceToNat, Int.reduceEq, Int.reduceNe, Int.reduceLT, Int.reduceLE, Int.reduceAdd, Int.reduceSub, Int.reduceMul, Int.reduceNeg, Nat.reduceEqDiff, Nat.reduceBEq, Nat.reduceBNe, Nat.reduceAdd, Nat.reduceLeDiff, Nat.reduceLT, Nat.reduceMul, ↓reduceIte, reduceCtorEq, g46, pf46, b46, h1, h2, h3]
        simp [okR, show ¬ l.length ≤ 64 by omega]
    · simp (disch := first | assumption | ((try simp only [LEN, LEN2]); omega)) only [push_cast, Int.reduceToNat, Int.reduceEq, Int.reduceNe, Int.reduceLT, Int.reduceLE, Int.reduceAdd, Int.reduceSub, Int.reduceMul, Int.reduceNeg, Nat.reduceEqDiff, Nat.reduceBEq, Nat.reduceBNe, Nat.reduceAdd, Nat.reduceLeDiff, Nat.reduceLT, Nat.reduceMul, ↓reduceIte, reduceCtorEq, g46, pf46, b46, h1, h2]
      simp [okR, h2]
  · simp (disch := first | assumption | ((try simp only [LEN, LEN2]); omega)) only [push_cast, Int.reduceToNat, Int.reduceEq, Int.reduceNe, Int.reduceLT, Int.reduceLE, Int.reduceAdd, Int.reduceSub, Int.reduceMul, Int.reduceNeg, Nat.reduceEqDiff, Nat.reduceBEq, Nat.reduceBNe, Nat.reduceAdd, Nat.reduceLeDiff, Nat.reduceLT, Nat.reduceMul, ↓reduceIte, reduceCtorEq, g46, pf46, b46, h1]
    simp [okR, h1]
theorem f46c {n : Int} {l : List Write} (hl : l.length ≤ 1000000000) {g : VG} {F : Fn} {lk : Bool} {e : Env} {dst : Option Nat} {ops : List Ins} {keep : Option (List Nat)} {K : List Fr} : CallC G g F 46 [.vs true [.d (.sc (.int .i64 n)), .d (.sl (l.map eW))]] lk e dst ops keep K = ThenL G g F (if lk && !(T.noSl (.bool (okR ⟨n, l⟩))) then none else e.put g.un dst (.bool (okR ⟨n, l⟩))) ops keep K := callC_eq (f46 hl)
attribute [push_cast] f46c

set_option maxHeartbeats 2000000 in
theorem f15 {n : Int} {l : List Write} (hs : smW l) : Fun G 15 [.vs true [.d (.sc (.int .i64 n)), .d (.sl (l.map eW))]] (.bool (okR ⟨n, l⟩), []) := by
  refine Fun.of_run (g := g15) (pf := pf15) rfl rfl rfl rfl ?_
  obtain ⟨hl, hs⟩ := hs
  by_cases h1 : 1 ≤ n ∧ n ≤ 1073741824
  · by_cases h3 : 64 < (l.length : Int)
    · simp (disch := first | assumption | ((try simp only [LEN, LEN2]); omega)) only [push_cast, Int.reduceToNat, Int.reduceEq, Int.reduceNe, Int.reduceLT, Int.reduceLE, Int.reduceAdd, Int.reduceSub, Int.reduceMul, Int.reduceNeg, Nat.reduceEqDiff, Nat.reduceBEq, Nat.reduceBNe, Nat.reduceAdd, Nat.reduceLeDiff, Nat.reduceLT, Nat.reduceMul, ↓reduceIte, reduceCtorEq, g15, pf15, b15, h1, h3]
      simp [okR, show ¬ l.length ≤ 64 by omega]
    simp (disch := first | assumption | ((try simp only [LEN, LEN2]); omega)) only [push_cast, Int.reduceToNat, Int.reduceEq, Int.reduceNe, Int.reduceLT, Int.reduceLE, Int.reduceAdd, Int.reduceSub, Int.reduceMul, Int.reduceNeg, Nat.reduceEqDiff, Nat.reduceBEq, Nat.reduceBNe, Nat.reduceAdd, Nat.reduceLeDiff, Nat.reduceLT, Nat.reduceMul, ↓reduceIte, reduceCtorEq, g15, pf15, b15, h1, h3]
    refine run_loop' (fun i : Nat => [(1, T.one (.box [.d (.sc (.int .i64 n)), .d (.sl (l.map eW))])), (3, T.int .i64 i)]) (fun i => i ≤ l.length ∧ (l.take i).all okW = true) (fun i => l.length - i) 0 rfl ⟨Nat.zero_le _, by simp⟩ (fun i hi => ?_)
    obtain ⟨hi, ht⟩ := hi
    simp (disch := first | assumption | ((try simp only [LEN, LEN2]); omega)) only [push_cast, Int.reduceToNat, Int.reduceEq, Int.reduceNe, Int.reduceLT, Int.reduceLE, Int.reduceAdd, Int.reduceSub, Int.reduceMul, Int.reduceNeg, Nat.reduceEqDiff, Nat.reduceBEq, Nat.reduceBNe, Nat.reduceAdd, Nat.reduceLeDiff, Nat.reduceLT, Nat.reduceMul, ↓reduceIte, reduceCtorEq, g15, pf15, b15]
    refine If.dec (fun h => ?_) (fun h => ?_)
    · replace h : i < l.length := by omega
      have hk := (hs l[i] (List.getElem_mem h)).1
      simp (disch := first | assumption | ((try simp only [LEN, LEN2]); omega)) only [push_cast, Int.reduceToNat, Int.reduceEq, Int.reduceNe, Int.reduceLT, Int.reduceLE, Int.reduceAdd, Int.reduceSub, Int.reduceMul, Int.reduceNeg, Nat.reduceEqDiff, Nat.reduceBEq, Nat.reduceBNe, Nat.reduceAdd, Nat.reduceLeDiff, Nat.reduceLT, Nat.reduceMul, ↓reduceIte, reduceCtorEq, g15, pf15, b15, eW]
      by_cases hp : okW l[i] = true
      · simp (disch := first | assumption | ((try simp only [LEN, LEN2]); omega)) only [push_cast, Int.reduceToNat, Int.reduceEq, Int.reduceNe, Int.reduceLT, Int.reduceLE, Int.reduceAdd, Int.reduceSub, Int.reduceMul, Int.reduceNeg, Nat.reduceEqDiff, Nat.reduceBEq, Nat.reduceBNe, Nat.reduceAdd, Nat.reduceLeDiff, Nat.reduceLT, Nat.reduceMul, ↓reduceIte, reduceCtorEq, g15, pf15, b15, hp]
        refine ⟨i + 1, rfl, ⟨by omega, ?_⟩, by omega⟩
        rw [List.take_succ_eq_append_getElem h, List.all_append, ht, List.all_cons, hp]; rfl
      · have : okR ⟨n, l⟩ = false := by
          simp only [okR, Bool.and_eq_false_iff]
          exact .inr (by rw [← Bool.not_eq_true, List.all_eq_true]; exact fun hh => hp (hh _ (List.getElem_mem h)))
        rw [Bool.not_eq_true] at hp
        simp (disch := first | assumption | ((try simp only [LEN, LEN2]); omega)) only [push_cast, Int.reduceToNat, Int.reduceEq, Int.reduceNe, Int.reduceLT, Int.reduceLE, Int.reduceAdd, Int.reduceSub, Int.reduceMul, Int.reduceNeg, Nat.reduceEqDiff, Nat.reduceBEq, Nat.reduceBNe, Nat.reduceAdd, Nat.reduceLeDiff, Nat.reduceLT, Nat.reduceMul, ↓reduceIte, reduceCtorEq, g15, pf15, b15, hp, this]
    · obtain rfl : i = l.length := by omega
      rw [List.take_length] at ht
      have : okR ⟨n, l⟩ = true := by
        simp only [okR, ht, Bool.and_true, decide_eq_true_eq]; omega
      simp (disch := first | assumption | ((try simp only [LEN, LEN2]); omega)) only [push_cast, Int.reduceToNat, Int.reduceEq, Int.reduceNe, Int.reduceLT, Int.reduceLE, Int.reduceAdd, Int.reduceSub, Int.reduceMul, Int.reduceNeg, Nat.reduceEqDiff, Nat.reduceBEq, Nat.reduceBNe, Nat.reduceAdd, Nat.reduceLeDiff, Nat.reduceLT, Nat.reduceMul, ↓reduceIte, reduceCtorEq, g15, pf15, b15]
      rw [this]
  · have : okR ⟨n, l⟩ = false := by
      simp only [okR, Bool.and_eq_false_iff, decide_eq_false_iff_not]; left; omega
    simp (disch := first | assumption | ((try simp only [LEN, LEN2]); omega)) only [push_cast, Int.reduceToNat, Int.reduceEq, Int.reduceNe, Int.reduceLT, Int.reduceLE, Int.reduceAdd, Int.reduceSub, Int.reduceMul, Int.reduceNeg, Nat.reduceEqDiff, Nat.reduceBEq, Nat.reduceBNe, Nat.reduceAdd, Nat.reduceLeDiff, Nat.reduceLT, Nat.reduceMul, ↓reduceIte, reduceCtorEq, g15, pf15, b15, h1, this]
theorem f15c {n : Int} {l : List Write} (hs : smW l) {g : VG} {F : Fn} {lk : Bool} {e : Env} {dst : Option Nat} {ops : List Ins} {keep : Option (List Nat)} {K : List Fr} : CallC G g F 15 [.vs true [.d (.sc (.int .i64 n)), .d (.sl (l.map eW))]] lk e dst ops keep K = ThenL G g F (if lk && !(T.noSl (.bool (okR ⟨n, l⟩))) then none else e.put g.un dst (.bool (okR ⟨n, l⟩))) ops keep K := callC_eq (f15 hs)
attribute [push_cast] f15c

end Go.Mir.Try

/- Walks: a record's bytes. -/
set_option linter.unusedVariables false
set_option linter.unusedSimpArgs false
set_option maxRecDepth 100000
namespace Go.Mir.Try
open Go.Proofs Go.Mir.Q

/-- A write's bytes. -/
def wr (w : Write) : List UInt8 := be 1 w.Table ++ be 1 (if w.Gone then 1 else 0) ++ be 1 w.Key.length ++ w.Key ++ be 1 w.Value.length ++ w.Value
def wrs (l : List Write) : List UInt8 := l.flatMap wr
def spelt (r : Record) : List UInt8 := be 4 r.Commit ++ be 4 r.Writes.length ++ wrs r.Writes
theorem wrs_snoc (l : List Write) (w : Write) : wrs (l ++ [w]) = wrs l ++ wr w := by simp [wrs]
theorem wrs_len (l : List Write) (h : ∀ w ∈ l, w.Key.length ≤ 1048576 ∧ w.Value.length ≤ 1048576) : (wrs l).length ≤ l.length * 2097156 := by
  induction l with
  | nil => simp [wrs]
  | cons w l ih =>
    have h1 := h w (by simp)
    have h2 := ih fun x hx => h x (List.mem_cons_of_mem _ hx)
    have : (wrs (w :: l)).length = (wr w).length + (wrs l).length := by simp [wrs]
    have h3 : (wr w).length = 4 + w.Key.length + w.Value.length := by simp [wr, be_length]; omega
    rw [this, List.length_cons]
    omega

set_option maxHeartbeats 2000000 in
theorem f16 {n : Int} {l : List Write} (hs : smW l) (h64 : l.length ≤ 64) : Fun G 16 [.vs true [.d (.sc (.int .i64 n)), .d (.sl (l.map eW))]] (.str (bs (spelt ⟨n, l⟩)), []) := by
  refine Fun.of_run (g := g16) (pf := pf16) rfl rfl rfl rfl ?_
  obtain ⟨hl, hs⟩ := hs
  simp (disch := first | assumption | ((try simp only [LEN, LEN2]); omega)) only [push_cast, Int.reduceToNat, Int.reduceEq, Int.reduceNe, Int.reduceLT, Int.reduceLE, Int.reduceAdd, Int.reduceSub, Int.reduceMul, Int.reduceNeg, Nat.reduceEqDiff, Nat.reduceBEq, Nat.reduceBNe, Nat.reduceAdd, Nat.reduceLeDiff, Nat.reduceLT, Nat.reduceMul, ↓reduceIte, reduceCtorEq, g16, pf16, b16]
  refine run_loop' (fun i : Nat => [(1, T.one (.box [.d (.sc (.int .i64 n)), .d (.sl (l.map eW))])), (3, T.str (bs (be 4 n ++ be 4 l.length ++ wrs (l.take i)))), (4, T.int .i64 i)]) (fun i => i ≤ l.length) (fun i => l.length - i) 0 ?_ (Nat.zero_le _) (fun i hi => ?_)
  · simp [wrs]
  have hw := wrs_len (l.take i) fun w hw => hs w (List.mem_of_mem_take hw)
  rw [List.length_take] at hw
  simp (disch := first | assumption | ((try simp only [LEN, LEN2]); omega)) only [push_cast, Int.reduceToNat, Int.reduceEq, Int.reduceNe, Int.reduceLT, Int.reduceLE, Int.reduceAdd, Int.reduceSub, Int.reduceMul, Int.reduceNeg, Nat.reduceEqDiff, Nat.reduceBEq, Nat.reduceBNe, Nat.reduceAdd, Nat.reduceLeDiff, Nat.reduceLT, Nat.reduceMul, ↓reduceIte, reduceCtorEq, g16, pf16, b16]
  refine If.dec (fun h => ?_) (fun h => ?_)
  · replace h : i < l.length := by omega
    have hk := hs l[i] (List.getElem_mem h)
    simp (disch := first | assumption | ((try simp only [LEN, LEN2]); omega)) only [push_cast, Int.reduceToNat, Int.reduceEq, Int.reduceNe, Int.reduceLT, Int.reduceLE, Int.reduceAdd, Int.reduceSub, Int.reduceMul, Int.reduceNeg, Nat.reduceEqDiff, Nat.reduceBEq, Nat.reduceBNe, Nat.reduceAdd, Nat.reduceLeDiff, Nat.reduceLT, Nat.reduceMul, ↓reduceIte, reduceCtorEq, g16, pf16, b16, eW]
    refine If.split (fun hg => ?_) (fun hg => ?_)
    · simp (disch := first | assumption | ((try simp only [LEN, LEN2]); omega)) only [push_cast, Int.reduceToNat, Int.reduceEq, Int.reduceNe, Int.reduceLT, Int.reduceLE, Int.reduceAdd, Int.reduceSub, Int.reduceMul, Int.reduceNeg, Nat.reduceEqDiff, Nat.reduceBEq, Nat.reduceBNe, Nat.reduceAdd, Nat.reduceLeDiff, Nat.reduceLT, Nat.reduceMul, ↓reduceIte, reduceCtorEq, g16, pf16, b16]
      refine ⟨i + 1, ?_, by omega, by omega⟩
      rw [List.take_succ_eq_append_getElem h, wrs_snoc]
      simp [wr, hg]
    · simp (disch := first | assumption | ((try simp only [LEN, LEN2]); omega)) only [push_cast, Int.reduceToNat, Int.reduceEq, Int.reduceNe, Int.reduceLT, Int.reduceLE, Int.reduceAdd, Int.reduceSub, Int.reduceMul, Int.reduceNeg, Nat.reduceEqDiff, Nat.reduceBEq, Nat.reduceBNe, Nat.reduceAdd, Nat.reduceLeDiff, Nat.reduceLT, Nat.reduceMul, ↓reduceIte, reduceCtorEq, g16, pf16, b16]
      refine ⟨i + 1, ?_, by omega, by omega⟩
      rw [List.take_succ_eq_append_getElem h, wrs_snoc]
      simp [wr, hg]
  · obtain rfl : i = l.length := by omega
    simp (disch := first | assumption | ((try simp only [LEN, LEN2]); omega)) only [push_cast, Int.reduceToNat, Int.reduceEq, Int.reduceNe, Int.reduceLT, Int.reduceLE, Int.reduceAdd, Int.reduceSub, Int.reduceMul, Int.reduceNeg, Nat.reduceEqDiff, Nat.reduceBEq, Nat.reduceBNe, Nat.reduceAdd, Nat.reduceLeDiff, Nat.reduceLT, Nat.reduceMul, ↓reduceIte, reduceCtorEq, g16, pf16, b16]
    simp [spelt]
theorem f16c {n : Int} {l : List Write} (hs : smW l) (h64 : l.length ≤ 64) {g : VG} {F : Fn} {lk : Bool} {e : Env} {dst : Option Nat} {ops : List Ins} {keep : Option (List Nat)} {K : List Fr} : CallC G g F 16 [.vs true [.d (.sc (.int .i64 n)), .d (.sl (l.map eW))]] lk e dst ops keep K = ThenL G g F (if lk && !(T.noSl (.str (bs (spelt ⟨n, l⟩)))) then none else e.put g.un dst (.str (bs (spelt ⟨n, l⟩)))) ops keep K := callC_eq (f16 hs h64)
attribute [push_cast] f16c

set_option maxHeartbeats 2000000 in
theorem f47 {n : Int} {l : List Write} (hs : smW l) (h64 : l.length ≤ 64) : Fun G 47 [.vs true [.d (.sc (.int .i64 n)), .d (.sl (l.map eW))]] (.str (bs (spelt ⟨n, l⟩)), []) := by
  refine Fun.of_run (g := g47) (pf := pf47) rfl rfl rfl rfl ?_
  obtain ⟨hl, hs⟩ := hs
  have f0 := @f83t [] n (by simp)
  simp only [List.map_nil] at f0
  simp (disch := first | assumption | ((try simp only [LEN, LEN2]); omega)) only [push_cast, Int.reduceToNat, Int.reduceEq, Int.reduceNe, Int.reduceLT, Int.reduceLE, Int.reduceAdd, Int.reduceSub, Int.reduceMul, Int.reduceNeg, Nat.reduceEqDiff, Nat.reduceBEq, Nat.reduceBNe, Nat.reduceAdd, Nat.reduceLeDiff, Nat.reduceLT, Nat.reduceMul, ↓reduceIte, reduceCtorEq, g47, pf47, b47, f0]
  refine run_loop' (fun i : Nat => [(1, T.one (.box [.d (.sc (.int .i64 n)), .d (.sl (l.map eW))])), (3, T.one (.own 5 ((be 4 n ++ be 4 l.length ++ wrs (l.take i)).map oB))), (13, .at_ 1 0 [(0, 1)]), (14, T.one (.d (.sl (l.map eW)))), (15, T.int .i64 l.length), (16, T.int .i64 i)]) (fun i => i ≤ l.length) (fun i => l.length - i) 0 ?_ (Nat.zero_le _) (fun i hi => ?_)
  · simp [wrs]
  have hw := wrs_len (l.take i) fun w hw => hs w (List.mem_of_mem_take hw)
  rw [List.length_take] at hw
  simp (disch := first | assumption | ((try simp only [LEN, LEN2]); omega)) only [push_cast, Int.reduceToNat, Int.reduceEq, Int.reduceNe, Int.reduceLT, Int.reduceLE, Int.reduceAdd, Int.reduceSub, Int.reduceMul, Int.reduceNeg, Nat.reduceEqDiff, Nat.reduceBEq, Nat.reduceBNe, Nat.reduceAdd, Nat.reduceLeDiff, Nat.reduceLT, Nat.reduceMul, ↓reduceIte, reduceCtorEq, g47, pf47, b47]
  refine If.dec (fun h => ?_) (fun h => ?_)
  · replace h : i < l.length := by omega
    have hk := hs l[i] (List.getElem_mem h)
    simp (disch := first | assumption | ((try simp only [LEN, LEN2]); omega)) only [push_cast, Int.reduceToNat, Int.reduceEq, Int.reduceNe, Int.reduceLT, Int.reduceLE, Int.reduceAdd, Int.reduceSub, Int.reduceMul, Int.reduceNeg, Nat.reduceEqDiff, Nat.reduceBEq, Nat.reduceBNe, Nat.reduceAdd, Nat.reduceLeDiff, Nat.reduceLT, Nat.reduceMul, ↓reduceIte, reduceCtorEq, g47, pf47, b47, eW]
    refine ⟨i + 1, ?_, by omega, by omega⟩
    rw [List.take_succ_eq_append_getElem h, wrs_snoc]
    have e1 : ∀ n : Int, be 1 n = [byt n] := fun n => by simp [be]
    have e2 : ∀ b : Bool, (if b then (1 : Int) else 0) % 256 = if b then 1 else 0 := fun b => by cases b <;> rfl
    simp [wr, e1, oB_byt, e2, List.map_append]
  · obtain rfl : i = l.length := by omega
    simp (disch := first | assumption | ((try simp only [LEN, LEN2]); omega)) only [push_cast, Int.reduceToNat, Int.reduceEq, Int.reduceNe, Int.reduceLT, Int.reduceLE, Int.reduceAdd, Int.reduceSub, Int.reduceMul, Int.reduceNeg, Nat.reduceEqDiff, Nat.reduceBEq, Nat.reduceBNe, Nat.reduceAdd, Nat.reduceLeDiff, Nat.reduceLT, Nat.reduceMul, ↓reduceIte, reduceCtorEq, g47, pf47, b47]
    simp [spelt]
theorem f47c {n : Int} {l : List Write} (hs : smW l) (h64 : l.length ≤ 64) {g : VG} {F : Fn} {lk : Bool} {e : Env} {dst : Option Nat} {ops : List Ins} {keep : Option (List Nat)} {K : List Fr} : CallC G g F 47 [.vs true [.d (.sc (.int .i64 n)), .d (.sl (l.map eW))]] lk e dst ops keep K = ThenL G g F (if lk && !(T.noSl (.str (bs (spelt ⟨n, l⟩)))) then none else e.put g.un dst (.str (bs (spelt ⟨n, l⟩)))) ops keep K := callC_eq (f47 hs h64)
attribute [push_cast] f47c

set_option maxHeartbeats 2000000 in
theorem f14 {n : Int} {l : List Write} (hs : smW l) : Fun G 14 [.vs true [.d (.sc (.int .i64 n)), .d (.sl (l.map eW))]] (.tup [(false, [.d (.sc (.string (bs (if okR ⟨n, l⟩ then spelt ⟨n, l⟩ else []))))]), (false, [.d (.sc (.int .i64 (if okR ⟨n, l⟩ then 0 else 1)))])], []) := by
  refine Fun.of_run (g := g14) (pf := pf14) rfl rfl rfl rfl ?_
  have hl := hs.1
  by_cases hr : okR ⟨n, l⟩ = true
  · have h64 : l.length ≤ 64 := by simp [okR] at hr; omega
    simp (disch := first | assumption | ((try simp only [LEN, LEN2]); omega)) only [push_cast, Int.reduceToNat, Int.reduceEq, Int.reduceNe, Int.reduceLT, Int.reduceLE, Int.reduceAdd, Int.reduceSub, Int.reduceMul, Int.reduceNeg, Nat.reduceEqDiff, Nat.reduceBEq, Nat.reduceBNe, Nat.reduceAdd, Nat.reduceLeDiff, Nat.reduceLT, Nat.reduceMul, ↓reduceIte, reduceCtorEq, g14, pf14, b14, hr]
  · rw [Bool.not_eq_true] at hr
    simp (disch := first | assumption | ((try simp only [LEN, LEN2]); omega)) only [push_cast, Int.reduceToNat, Int.reduceEq, Int.reduceNe, Int.reduceLT, Int.reduceLE, Int.reduceAdd, Int.reduceSub, Int.reduceMul, Int.reduceNeg, Nat.reduceEqDiff, Nat.reduceBEq, Nat.reduceBNe, Nat.reduceAdd, Nat.reduceLeDiff, Nat.reduceLT, Nat.reduceMul, ↓reduceIte, reduceCtorEq, g14, pf14, b14, hr]
theorem f14c {n : Int} {l : List Write} (hs : smW l) {g : VG} {F : Fn} {lk : Bool} {e : Env} {dst : Option Nat} {ops : List Ins} {keep : Option (List Nat)} {K : List Fr} : CallC G g F 14 [.vs true [.d (.sc (.int .i64 n)), .d (.sl (l.map eW))]] lk e dst ops keep K = ThenL G g F (if lk && !(T.noSl (.tup [(false, [.d (.sc (.string (bs (if okR ⟨n, l⟩ then spelt ⟨n, l⟩ else []))))]), (false, [.d (.sc (.int .i64 (if okR ⟨n, l⟩ then 0 else 1)))])])) then none else e.put g.un dst (.tup [(false, [.d (.sc (.string (bs (if okR ⟨n, l⟩ then spelt ⟨n, l⟩ else []))))]), (false, [.d (.sc (.int .i64 (if okR ⟨n, l⟩ then 0 else 1)))])])) ops keep K := callC_eq (f14 hs)
attribute [push_cast] f14c

set_option maxHeartbeats 2000000 in
theorem f19 {n : Int} {l : List Write} (hl : l.length ≤ 1000000000) : Fun G 19 [.vs true [.d (.sc (.int .i64 n)), .d (.sl (l.map eW))]] (.int .i64 (if okR ⟨n, l⟩ then 0 else 1), []) := by
  refine Fun.of_run (g := g19) (pf := pf19) rfl rfl rfl rfl ?_
  by_cases hr : okR ⟨n, l⟩ = true
  · simp (disch := first | assumption | ((try simp only [LEN, LEN2]); omega)) only [push_cast, Int.reduceToNat, Int.reduceEq, Int.reduceNe, Int.reduceLT, Int.reduceLE, Int.reduceAdd, Int.reduceSub, Int.reduceMul, Int.reduceNeg, Nat.reduceEqDiff, Nat.reduceBEq, Nat.reduceBNe, Nat.reduceAdd, Nat.reduceLeDiff, Nat.reduceLT, Nat.reduceMul, ↓reduceIte, reduceCtorEq, g19, pf19, b19, hr]
  · rw [Bool.not_eq_true] at hr
    simp (disch := first | assumption | ((try simp only [LEN, LEN2]); omega)) only [push_cast, Int.reduceToNat, Int.reduceEq, Int.reduceNe, Int.reduceLT, Int.reduceLE, Int.reduceAdd, Int.reduceSub, Int.reduceMul, Int.reduceNeg, Nat.reduceEqDiff, Nat.reduceBEq, Nat.reduceBNe, Nat.reduceAdd, Nat.reduceLeDiff, Nat.reduceLT, Nat.reduceMul, ↓reduceIte, reduceCtorEq, g19, pf19, b19, hr]
theorem f19c {n : Int} {l : List Write} (hl : l.length ≤ 1000000000) {g : VG} {F : Fn} {lk : Bool} {e : Env} {dst : Option Nat} {ops : List Ins} {keep : Option (List Nat)} {K : List Fr} : CallC G g F 19 [.vs true [.d (.sc (.int .i64 n)), .d (.sl (l.map eW))]] lk e dst ops keep K = ThenL G g F (if lk && !(T.noSl (.int .i64 (if okR ⟨n, l⟩ then 0 else 1))) then none else e.put g.un dst (.int .i64 (if okR ⟨n, l⟩ then 0 else 1))) ops keep K := callC_eq (f19 hl)
attribute [push_cast] f19c

end Go.Mir.Try

/- Walks: reading bytes. -/
set_option linter.unusedVariables false
set_option linter.unusedSimpArgs false
set_option maxRecDepth 100000
namespace Go.Mir.Try
open Go.Proofs Go.Mir.Q

abbrev Rdr := List UInt8 × Bool
abbrev bR (r : Rdr) : V := .box [.d (.sc (.string (bs r.1))), .d (.sc (.bool r.2))]
def tk (n : Nat) (r : Rdr) : List UInt8 × Rdr := if r.2 = true ∨ r.1.length < n then ([], (r.1, true)) else (r.1.take n, (r.1.drop n, false))

set_option maxHeartbeats 2000000 in
theorem f87 {s : List UInt8} {b : Bool} {n : Int} (h0 : 0 ≤ n) (hs : s.length ≤ 1000000000) : Fun G 87 [.one (.box [.d (.sc (.string (bs s))), .d (.sc (.bool b))]), .int .i64 n] (.str (bs (tk n.toNat (s, b)).1), [bR (tk n.toNat (s, b)).2]) := by
  refine Fun.of_run (g := g87) (pf := pf87) rfl rfl rfl rfl ?_
  cases b with
  | true =>
    simp (disch := first | assumption | ((try simp only [LEN, LEN2]); omega)) only [push_cast, Int.reduceToNat, Int.reduceEq, Int.reduceNe, Int.reduceLT, Int.reduceLE, Int.reduceAdd, Int.reduceSub, Int.reduceMul, Int.reduceNeg, Nat.reduceEqDiff, Nat.reduceBEq, Nat.reduceBNe, Nat.reduceAdd, Nat.reduceLeDiff, Nat.reduceLT, Nat.reduceMul, ↓reduceIte, reduceCtorEq, g87, pf87, b87]
    simp [tk]
  | false =>
    by_cases h : (s.length : Int) < n
    · simp (disch := first | assumption | ((try simp only [LEN, LEN2]); omega)) only [push_cast, Int.reduceToNat, Int.reduceEq, Int.reduceNe, Int.reduceLT, Int.reduceLE, Int.reduceAdd, Int.reduceSub, Int.reduceMul, Int.reduceNeg, Nat.reduceEqDiff, Nat.reduceBEq, Nat.reduceBNe, Nat.reduceAdd, Nat.reduceLeDiff, Nat.reduceLT, Nat.reduceMul, ↓reduceIte, reduceCtorEq, g87, pf87, b87, h]
      have : s.length < n.toNat := by omega
      simp [tk, this]
    · simp (disch := first | assumption | ((try simp only [LEN, LEN2]); omega)) only [push_cast, Int.reduceToNat, Int.reduceEq, Int.reduceNe, Int.reduceLT, Int.reduceLE, Int.reduceAdd, Int.reduceSub, Int.reduceMul, Int.reduceNeg, Nat.reduceEqDiff, Nat.reduceBEq, Nat.reduceBNe, Nat.reduceAdd, Nat.reduceLeDiff, Nat.reduceLT, Nat.reduceMul, ↓reduceIte, reduceCtorEq, g87, pf87, b87, h]
      have : ¬ s.length < n.toNat := by omega
      simp [tk, this]
theorem f87t {s : List UInt8} {b : Bool} {n : Int} (h0 : 0 ≤ n) (hs : s.length ≤ 1000000000) {g : VG} {F : Fn} {lk : Bool} {ags : List Arg} {e0 e1 : Env} {dst : Option Nat} {ops : List Ins} {keep : Option (List Nat)} {K : List Fr} : CallT G g F 87 [.one (.box [.d (.sc (.string (bs s))), .d (.sc (.bool b))]), .int .i64 n] lk ags e0 e1 dst ops keep K = RetT G g F (.str (bs (tk n.toNat (s, b)).1)) [bR (tk n.toNat (s, b)).2] lk ags e0 e1 dst ops keep K := callT_eq (f87 h0 hs)
attribute [push_cast] f87t

theorem tk_len (n : Nat) (r : Rdr) : (tk n r).1.length ≤ n ∧ (tk n r).2.1.length ≤ r.1.length := by
  unfold tk; split <;> simp <;> omega

set_option maxHeartbeats 2000000 in
theorem f51 {s : List UInt8} {b : Bool} {n : Int} (h0 : 0 ≤ n) (h6 : n ≤ 6) (hs : s.length ≤ 1000000000) : Fun G 51 [.one (.box [.d (.sc (.string (bs s))), .d (.sc (.bool b))]), .int .i64 n] (.int .i64 (num (tk n.toNat (s, b)).1), [bR (tk n.toNat (s, b)).2]) := by
  refine Fun.of_run (g := g51) (pf := pf51) rfl rfl rfl rfl ?_
  simp (disch := first | assumption | ((try simp only [LEN, LEN2]); omega)) only [push_cast, Int.reduceToNat, Int.reduceEq, Int.reduceNe, Int.reduceLT, Int.reduceLE, Int.reduceAdd, Int.reduceSub, Int.reduceMul, Int.reduceNeg, Nat.reduceEqDiff, Nat.reduceBEq, Nat.reduceBNe, Nat.reduceAdd, Nat.reduceLeDiff, Nat.reduceLT, Nat.reduceMul, ↓reduceIte, reduceCtorEq, g51, pf51, b51]
  obtain ⟨t, ht⟩ : ∃ t, t = (tk n.toNat (s, b)).1 := ⟨_, rfl⟩
  have hl : t.length ≤ 6 := by have := (tk_len n.toNat (s, b)).1; rw [← ht] at this; omega
  rw [← ht]
  refine run_loop' (fun i : Nat => [(0, T.one (bR (tk n.toNat (s, b)).2)), (5, T.int .i64 (num (t.take i))), (11, T.one (.row (t.map oB))), (12, T.int .i64 t.length), (13, T.int .i64 i)]) (fun i => i ≤ t.length) (fun i => t.length - i) 0 rfl (Nat.zero_le _) (fun i hi => ?_)
  have hb := num_bd6 (t.take i) (by simp; omega)
  simp (disch := first | assumption | ((try simp only [LEN, LEN2]); omega)) only [push_cast, Int.reduceToNat, Int.reduceEq, Int.reduceNe, Int.reduceLT, Int.reduceLE, Int.reduceAdd, Int.reduceSub, Int.reduceMul, Int.reduceNeg, Nat.reduceEqDiff, Nat.reduceBEq, Nat.reduceBNe, Nat.reduceAdd, Nat.reduceLeDiff, Nat.reduceLT, Nat.reduceMul, ↓reduceIte, reduceCtorEq, g51, pf51, b51]
  refine If.dec (fun h => ?_) (fun h => ?_)
  · replace h : i < t.length := by omega
    have e := or_byte (a := num (t.take i)) (b := t[i].toNat) hb.1 (by omega) (by omega) (by have := t[i].toNat_lt; omega)
    simp (disch := first | assumption | ((try simp only [LEN, LEN2]); omega)) only [push_cast, Int.reduceToNat, Int.reduceEq, Int.reduceNe, Int.reduceLT, Int.reduceLE, Int.reduceAdd, Int.reduceSub, Int.reduceMul, Int.reduceNeg, Nat.reduceEqDiff, Nat.reduceBEq, Nat.reduceBNe, Nat.reduceAdd, Nat.reduceLeDiff, Nat.reduceLT, Nat.reduceMul, ↓reduceIte, reduceCtorEq, g51, pf51, b51, oB, e]
    refine ⟨i + 1, ?_, by omega, by omega⟩
    rw [List.take_succ_eq_append_getElem h, num_snoc]; rfl
  · obtain rfl : i = t.length := by omega
    simp (disch := first | assumption | ((try simp only [LEN, LEN2]); omega)) only [push_cast, Int.reduceToNat, Int.reduceEq, Int.reduceNe, Int.reduceLT, Int.reduceLE, Int.reduceAdd, Int.reduceSub, Int.reduceMul, Int.reduceNeg, Nat.reduceEqDiff, Nat.reduceBEq, Nat.reduceBNe, Nat.reduceAdd, Nat.reduceLeDiff, Nat.reduceLT, Nat.reduceMul, ↓reduceIte, reduceCtorEq, g51, pf51, b51]
    simp
theorem f51t {s : List UInt8} {b : Bool} {n : Int} (h0 : 0 ≤ n) (h6 : n ≤ 6) (hs : s.length ≤ 1000000000) {g : VG} {F : Fn} {lk : Bool} {ags : List Arg} {e0 e1 : Env} {dst : Option Nat} {ops : List Ins} {keep : Option (List Nat)} {K : List Fr} : CallT G g F 51 [.one (.box [.d (.sc (.string (bs s))), .d (.sc (.bool b))]), .int .i64 n] lk ags e0 e1 dst ops keep K = RetT G g F (.int .i64 (num (tk n.toNat (s, b)).1)) [bR (tk n.toNat (s, b)).2] lk ags e0 e1 dst ops keep K := callT_eq (f51 h0 h6 hs)
attribute [push_cast] f51t

theorem num_one (n : Nat) (hn : n ≤ 1) (r : Rdr) : 0 ≤ num (tk n r).1 ∧ num (tk n r).1 < 256 := by
  have h := (tk_len n r).1
  match hx : (tk n r).1 with
  | [] => simp [num]
  | [b] => have := b.toNat_lt; simp [num]; omega
  | _ :: _ :: _ => rw [hx] at h; simp at h; omega

/-- A write, read. -/
def rdK (r : Rdr) : List UInt8 × Rdr := let l := tk 1 r; tk (num l.1).toNat l.2
def rdG (r : Rdr) : Rdr := let a := tk 1 r; let g := tk 1 a.2; (g.2.1, g.2.2 || decide (1 < num g.1))
def rdW (r : Rdr) : Write × Rdr := (⟨num (tk 1 r).1, (rdK (rdG r)).1, (rdK (rdK (rdG r)).2).1, decide (num (tk 1 (tk 1 r).2).1 = 1)⟩, (rdK (rdK (rdG r)).2).2)

set_option maxHeartbeats 2000000 in
theorem f52 {s : List UInt8} {b : Bool} (hs : s.length ≤ 1000000000) : Fun G 52 [.one (.box [.d (.sc (.string (bs s))), .d (.sc (.bool b))])] (.vs true (cW (rdW (s, b)).1.Table (rdW (s, b)).1.Key (rdW (s, b)).1.Value (rdW (s, b)).1.Gone), [bR (rdW (s, b)).2]) := by
  refine Fun.of_run (g := g52) (pf := pf52) rfl rfl rfl rfl ?_
  obtain ⟨⟨a1, s1, b1⟩, e1⟩ : ∃ x, tk 1 (s, b) = x := ⟨_, rfl⟩
  obtain ⟨⟨a2, s2, b2⟩, e2⟩ : ∃ x, tk 1 (s1, b1) = x := ⟨_, rfl⟩
  obtain ⟨c, ec⟩ : ∃ c, c = (b2 || decide (1 < num a2)) := ⟨_, rfl⟩
  obtain ⟨⟨a3, s3, b3⟩, e3⟩ : ∃ x, tk 1 (s2, c) = x := ⟨_, rfl⟩
  obtain ⟨⟨a4, s4, b4⟩, e4⟩ : ∃ x, tk (num a3).toNat (s3, b3) = x := ⟨_, rfl⟩
  obtain ⟨⟨a5, s5, b5⟩, e5⟩ : ∃ x, tk 1 (s4, b4) = x := ⟨_, rfl⟩
  obtain ⟨⟨a6, s6, b6⟩, e6⟩ : ∃ x, tk (num a5).toNat (s5, b5) = x := ⟨_, rfl⟩
  have hr : rdW (s, b) = (⟨num a1, a4, a6, decide (num a2 = 1)⟩, s6, b6) := by simp only [rdW, rdK, rdG, e1, e2, ← ec, e3, e4, e5, e6]
  have l1 := (tk_len 1 (s, b)).2
  have l2 := (tk_len 1 (s1, b1)).2
  have l3 := (tk_len 1 (s2, c)).2
  have l4 := (tk_len (num a3).toNat (s3, b3)).2
  have l5 := (tk_len 1 (s4, b4)).2
  have n3 := num_one 1 (by omega) (s2, c)
  have n5 := num_one 1 (by omega) (s4, b4)
  rw [e1] at l1; rw [e2] at l2; rw [e3] at l3 n3; rw [e4] at l4; rw [e5] at l5 n5
  simp only at l1 l2 l3 l4 l5 n3 n5
  obtain ⟨n3, n3'⟩ := n3
  obtain ⟨n5, n5'⟩ := n5
  rw [hr]
  cases b2 with
  | true =>
    obtain rfl : c = true := by simpa using ec
    simp (disch := first | assumption | ((try simp only [LEN, LEN2]); omega)) only [push_cast, Int.reduceToNat, Int.reduceEq, Int.reduceNe, Int.reduceLT, Int.reduceLE, Int.reduceAdd, Int.reduceSub, Int.reduceMul, Int.reduceNeg, Nat.reduceEqDiff, Nat.reduceBEq, Nat.reduceBNe, Nat.reduceAdd, Nat.reduceLeDiff, Nat.reduceLT, Nat.reduceMul, ↓reduceIte, reduceCtorEq, g52, pf52, b52, e1, e2, e3, e4, e5, e6]
  | false =>
    rw [Bool.false_or] at ec
    simp (disch := first | assumption | ((try simp only [LEN, LEN2]); omega)) only [push_cast, Int.reduceToNat, Int.reduceEq, Int.reduceNe, Int.reduceLT, Int.reduceLE, Int.reduceAdd, Int.reduceSub, Int.reduceMul, Int.reduceNeg, Nat.reduceEqDiff, Nat.reduceBEq, Nat.reduceBNe, Nat.reduceAdd, Nat.reduceLeDiff, Nat.reduceLT, Nat.reduceMul, ↓reduceIte, reduceCtorEq, g52, pf52, b52, e1, e2, ← ec, e3, e4, e5, e6]
theorem f52t {s : List UInt8} {b : Bool} (hs : s.length ≤ 1000000000) {g : VG} {F : Fn} {lk : Bool} {ags : List Arg} {e0 e1 : Env} {dst : Option Nat} {ops : List Ins} {keep : Option (List Nat)} {K : List Fr} : CallT G g F 52 [.one (.box [.d (.sc (.string (bs s))), .d (.sc (.bool b))])] lk ags e0 e1 dst ops keep K = RetT G g F (.vs true (cW (rdW (s, b)).1.Table (rdW (s, b)).1.Key (rdW (s, b)).1.Value (rdW (s, b)).1.Gone)) [bR (rdW (s, b)).2] lk ags e0 e1 dst ops keep K := callT_eq (f52 hs)
attribute [push_cast] f52t

end Go.Mir.Try

/- Walks: Take. -/
set_option linter.unusedVariables false
set_option linter.unusedSimpArgs false
set_option maxRecDepth 100000
namespace Go.Mir.Try
open Go.Proofs Go.Mir.Q

/-- So many writes, read; behind something bad none. -/
def rdWs : Nat → Rdr → List Write × Rdr
  | 0, r => ([], r)
  | n + 1, r => if r.2 = true then ([], r) else ((rdW r).1 :: (rdWs n (rdW r).2).1, (rdWs n (rdW r).2).2)
/-- The record that bytes are, as the program reads it. -/
def rdRec (s : List UInt8) : Record × Rdr := let c := tk 4 (s, false); let k := tk 4 c.2; let w := rdWs (num k.1).toNat k.2; (⟨num c.1, w.1⟩, w.2)
def take (s : List UInt8) : Option Record := let x := rdRec s; if x.2.2 = true ∨ x.2.1 ≠ [] ∨ okR x.1 = false then none else some x.1

def rc (s : List UInt8) : Record := (take s).getD ⟨0, []⟩
theorem tk_good {n : Nat} {r : Rdr} (h : (tk n r).2.2 = false) : r.2 = false ∧ (tk n r).2.1.length + n = r.1.length := by
  unfold tk at *
  split at h
  · cases h
  · rename_i hn
    rw [if_neg hn]
    rw [not_or, Bool.not_eq_true] at hn
    refine ⟨hn.1, ?_⟩
    simp only [List.length_drop]; omega
theorem rdW_good {r : Rdr} (h : (rdW r).2.2 = false) : r.2 = false ∧ (rdW r).2.1.length + 4 ≤ r.1.length := by
  simp only [rdW, rdK] at *
  have h1 := tk_good h
  have h2 := tk_good h1.1
  have h3 := tk_good h2.1
  have h4 := tk_good h3.1
  have h5 : (tk 1 (tk 1 r).2).2.2 = false := by
    have := h4.1
    simp only [rdG, Bool.or_eq_false_iff] at this
    exact this.1
  have h6 := tk_good h5
  have h7 := tk_good h6.1
  have e : (rdG r).1 = (tk 1 (tk 1 r).2).2.1 := rfl
  rw [e] at h4
  exact ⟨h7.1, by omega⟩
theorem rdW_len (r : Rdr) : (rdW r).2.1.length ≤ r.1.length := by
  simp only [rdW, rdK]
  have h1 := (tk_len (num (tk 1 (tk (num (tk 1 (rdG r)).1).toNat (tk 1 (rdG r)).2).2).1).toNat (tk 1 (tk (num (tk 1 (rdG r)).1).toNat (tk 1 (rdG r)).2).2).2).2
  have h2 := (tk_len 1 (tk (num (tk 1 (rdG r)).1).toNat (tk 1 (rdG r)).2).2).2
  have h3 := (tk_len (num (tk 1 (rdG r)).1).toNat (tk 1 (rdG r)).2).2
  have h4 := (tk_len 1 (rdG r)).2
  have h5 := (tk_len 1 (tk 1 r).2).2
  have h6 := (tk_len 1 r).2
  have e : (rdG r).1 = (tk 1 (tk 1 r).2).2.1 := rfl
  rw [e] at h4
  omega

set_option maxHeartbeats 2000000 in
theorem f21 {s : List UInt8} (hs : s.length ≤ 100000000) : Fun G 21 [.str (bs s)] (.tup [(true, [.d (.sc (.int .i64 (rc s).Commit)), .own 84 ((rc s).Writes.map oW)]), (false, [.d (.sc (.int .i64 (if (take s).isSome then 0 else 10)))])], []) := by
  refine Fun.of_run (g := g21) (pf := pf21) rfl rfl rfl rfl ?_
  obtain ⟨⟨a1, s1, b1⟩, e1⟩ : ∃ x, tk 4 (s, false) = x := ⟨_, rfl⟩
  obtain ⟨⟨a2, s2, b2⟩, e2⟩ : ∃ x, tk 4 (s1, b1) = x := ⟨_, rfl⟩
  have l1 := (tk_len 4 (s, false)).2
  have l2 := (tk_len 4 (s1, b1)).2
  rw [e1] at l1; rw [e2] at l2
  simp only at l1 l2
  obtain ⟨ws, hws⟩ : ∃ x, x = rdWs (num a2).toNat (s2, b2) := ⟨_, rfl⟩
  have hrec : rdRec s = (⟨num a1, ws.1⟩, ws.2) := by simp only [rdRec, e1, e2, ← hws]
  have hn2 : 0 ≤ num a2 ∧ num a2 < 281474976710656 := num_bd6 a2 (by have := (tk_len 4 (s1, b1)).1; rw [e2] at this; simp only at this; omega)
  simp (disch := first | assumption | ((try simp only [LEN, LEN2]); omega)) only [push_cast, Int.reduceToNat, Int.reduceEq, Int.reduceNe, Int.reduceLT, Int.reduceLE, Int.reduceAdd, Int.reduceSub, Int.reduceMul, Int.reduceNeg, Nat.reduceEqDiff, Nat.reduceBEq, Nat.reduceBNe, Nat.reduceAdd, Nat.reduceLeDiff, Nat.reduceLT, Nat.reduceMul, ↓reduceIte, reduceCtorEq, g21, pf21, b21, e1, e2]
  refine run_loop' (fun x : Nat × List Write × Rdr => [(2, T.one (.box [.d (.sc (.int .i64 0)), .own 84 []])), (4, T.one (bR x.2.2)), (5, T.one (.box [.d (.sc (.int .i64 (num a1))), .own 84 (x.2.1.map oW)])), (6, T.int .i64 x.1)])
    (fun x => x.1 < 281474976710656 ∧ (x.2.1 ++ (rdWs x.1 x.2.2).1, (rdWs x.1 x.2.2).2) = ws ∧ x.2.2.1.length ≤ s.length ∧ (x.2.2.2 = false → x.2.1.length + x.2.2.1.length ≤ s.length) ∧ x.2.1.length ≤ s.length + 1)
    (fun x => x.1) ((num a2).toNat, [], (s2, b2)) ?_ ?_ (fun ⟨n, l, s3, b3⟩ hi => ?_)
  · simp only [Int.toNat_of_nonneg hn2.1]; rfl
  · simp only [List.nil_append, hws]; simp; omega
  obtain ⟨hn, hw, hs3, hl, hl2⟩ := hi
  simp only at hn hw hs3 hl hl2
  by_cases hx : 0 < n ∧ b3 = false
  · obtain ⟨m, rfl⟩ : ∃ m, n = m + 1 := ⟨n - 1, by omega⟩
    obtain ⟨h0, rfl⟩ := hx
    have hl := hl rfl
    have h1 : (0 : Int) < (m : Int) + 1 := by omega
    have g1 := @rdW_good (s3, false)
    have g2 := rdW_len (s3, false)
    have e3 : (m : Int) + 1 - 1 = m := by omega
    simp only at g1 g2
    simp (disch := first | assumption | ((try simp only [LEN, LEN2]); omega)) only [push_cast, Int.reduceToNat, Int.reduceEq, Int.reduceNe, Int.reduceLT, Int.reduceLE, Int.reduceAdd, Int.reduceSub, Int.reduceMul, Int.reduceNeg, Nat.reduceEqDiff, Nat.reduceBEq, Nat.reduceBNe, Nat.reduceAdd, Nat.reduceLeDiff, Nat.reduceLT, Nat.reduceMul, ↓reduceIte, reduceCtorEq, g21, pf21, b21, h1, e3]
    refine ⟨(m, l ++ [(rdW (s3, false)).1], (rdW (s3, false)).2), ?_, ⟨by simp only; omega, ?_, by simp only; omega, fun hf => ?_, by simp only [List.length_append, List.length_singleton]; omega⟩, by simp only; omega⟩
    · simp only [List.map_append, List.map_cons, List.map_nil, oW]
    · rw [← hw]; simp [rdWs]
    · have := g1 hf; simp only [List.length_append, List.length_singleton]; omega
  · have hw' : ws = (l, s3, b3) := by
      rw [← hw]
      cases n with
      | zero => simp [rdWs]
      | succ n =>
        have : b3 = true := by
          cases b3 with
          | true => rfl
          | false => exact (hx ⟨by omega, rfl⟩).elim
        subst this; simp [rdWs]
    have hrec' : rdRec s = (⟨num a1, l⟩, s3, b3) := by rw [hrec, hw']
    have ex : (decide (0 < (n : Int)) = false) ∨ (decide (0 < (n : Int)) = true ∧ b3 = true) := by
      by_cases h : 0 < n
      · right
        refine ⟨by simpa using h, ?_⟩
        cases b3 with
        | true => rfl
        | false => exact (hx ⟨h, rfl⟩).elim
      · left; simp; omega
    by_cases hb : b3 = true
    · have ht : take s = none := by simp [take, hrec', hb]
      subst hb
      rcases ex with h | ⟨h, _⟩ <;> simp (disch := first | assumption | ((try simp only [LEN, LEN2]); omega)) only [push_cast, Int.reduceToNat, Int.reduceEq, Int.reduceNe, Int.reduceLT, Int.reduceLE, Int.reduceAdd, Int.reduceSub, Int.reduceMul, Int.reduceNeg, Nat.reduceEqDiff, Nat.reduceBEq, Nat.reduceBNe, Nat.reduceAdd, Nat.reduceLeDiff, Nat.reduceLT, Nat.reduceMul, ↓reduceIte, reduceCtorEq, g21, pf21, b21, h, ht, rc] <;> try rfl
    · rw [Bool.not_eq_true] at hb
      subst hb
      have h : decide (0 < (n : Int)) = false := by rcases ex with h | ⟨_, h⟩; exact h; cases h
      by_cases h3 : s3 = []
      · by_cases hr : okR ⟨num a1, l⟩ = true
        · have ht : take s = some ⟨num a1, l⟩ := by simp [take, hrec', h3, hr]
          simp (disch := first | assumption | ((try simp only [LEN, LEN2]); omega)) only [push_cast, Int.reduceToNat, Int.reduceEq, Int.reduceNe, Int.reduceLT, Int.reduceLE, Int.reduceAdd, Int.reduceSub, Int.reduceMul, Int.reduceNeg, Nat.reduceEqDiff, Nat.reduceBEq, Nat.reduceBNe, Nat.reduceAdd, Nat.reduceLeDiff, Nat.reduceLT, Nat.reduceMul, ↓reduceIte, reduceCtorEq, g21, pf21, b21, h, h3, hr, ht, rc]
          try rfl
        · rw [Bool.not_eq_true] at hr
          have ht : take s = none := by simp [take, hrec', h3, hr]
          simp (disch := first | assumption | ((try simp only [LEN, LEN2]); omega)) only [push_cast, Int.reduceToNat, Int.reduceEq, Int.reduceNe, Int.reduceLT, Int.reduceLE, Int.reduceAdd, Int.reduceSub, Int.reduceMul, Int.reduceNeg, Nat.reduceEqDiff, Nat.reduceBEq, Nat.reduceBNe, Nat.reduceAdd, Nat.reduceLeDiff, Nat.reduceLT, Nat.reduceMul, ↓reduceIte, reduceCtorEq, g21, pf21, b21, h, h3, hr, ht, rc]
          try rfl
      · have ht : take s = none := by simp [take, hrec', h3]
        simp (disch := first | assumption | ((try simp only [LEN, LEN2]); omega)) only [push_cast, Int.reduceToNat, Int.reduceEq, Int.reduceNe, Int.reduceLT, Int.reduceLE, Int.reduceAdd, Int.reduceSub, Int.reduceMul, Int.reduceNeg, Nat.reduceEqDiff, Nat.reduceBEq, Nat.reduceBNe, Nat.reduceAdd, Nat.reduceLeDiff, Nat.reduceLT, Nat.reduceMul, ↓reduceIte, reduceCtorEq, g21, pf21, b21, h, h3, ht, rc]
        try rfl
theorem f21c {s : List UInt8} (hs : s.length ≤ 100000000) {g : VG} {F : Fn} {lk : Bool} {e : Env} {dst : Option Nat} {ops : List Ins} {keep : Option (List Nat)} {K : List Fr} : CallC G g F 21 [.str (bs s)] lk e dst ops keep K = ThenL G g F (if lk && !(T.noSl (.tup [(true, [.d (.sc (.int .i64 (rc s).Commit)), .own 84 ((rc s).Writes.map oW)]), (false, [.d (.sc (.int .i64 (if (take s).isSome then 0 else 10)))])])) then none else e.put g.un dst (.tup [(true, [.d (.sc (.int .i64 (rc s).Commit)), .own 84 ((rc s).Writes.map oW)]), (false, [.d (.sc (.int .i64 (if (take s).isSome then 0 else 10)))])])) ops keep K := callC_eq (f21 hs)
attribute [push_cast] f21c
theorem f21t {s : List UInt8} (hs : s.length ≤ 100000000) {g : VG} {F : Fn} {lk : Bool} {ags : List Arg} {e0 e1 : Env} {dst : Option Nat} {ops : List Ins} {keep : Option (List Nat)} {K : List Fr} : CallT G g F 21 [.str (bs s)] lk ags e0 e1 dst ops keep K = RetT G g F (.tup [(true, [.d (.sc (.int .i64 (rc s).Commit)), .own 84 ((rc s).Writes.map oW)]), (false, [.d (.sc (.int .i64 (if (take s).isSome then 0 else 10)))])]) [] lk ags e0 e1 dst ops keep K := callT_eq (f21 hs)
attribute [push_cast] f21t

end Go.Mir.Try

/- Walks: the page's Take. -/
set_option linter.unusedVariables false
set_option linter.unusedSimpArgs false
set_option maxRecDepth 100000
namespace Go.Mir.Try
open Go.Proofs Go.Mir.Q

theorem tk_drop {s : List UInt8} {a n : Nat} (h : a + n ≤ s.length) : tk n (s.drop a, false) = ((s.take (a + n)).drop a, (s.drop (a + n), false)) := by
  unfold tk
  rw [if_neg (by simp; omega)]
  simp [List.drop_take]
theorem tk_short {s : List UInt8} {a n : Nat} (h : s.length < a + n) (hn : 0 < n) : (tk n (s.drop a, false)).2.2 = true := by
  unfold tk
  rw [if_pos (by simp; omega)]
theorem tk_bad {n : Nat} {r : Rdr} (h : r.2 = true) : (tk n r).2.2 = true := by
  unfold tk
  rw [if_pos (.inl h)]
theorem num_at {s : List UInt8} {a : Nat} (h : a < s.length) : num ((s.take (a + 1)).drop a) = s[a].toNat := by
  rw [List.take_succ_eq_append_getElem h, List.drop_left' (by simp; omega)]
  simp [num]
theorem rdK_bad {r : Rdr} (h : r.2 = true) : (rdK r).2.2 = true := tk_bad (tk_bad h)
theorem rdWs_bad {r : Rdr} (h : r.2 = true) : ∀ n, (rdWs n r).2.2 = true
  | 0 => h
  | n + 1 => by simp [rdWs, h]
theorem rdWs_bad1 {n : Nat} {r : Rdr} (h : (rdW r).2.2 = true) : (rdWs (n + 1) r).2.2 = true := by
  unfold rdWs
  split
  · assumption
  · exact rdWs_bad h n

section
variable {s : List UInt8} {a : Nat} (h : a + 4 ≤ s.length)
include h
theorem rdG_at : rdG (s.drop a, false) = (s.drop (a + 2), decide (1 < (s[a + 1].toNat : Int))) := by
  simp only [rdG, tk_drop (n := 1) (show a + 1 ≤ s.length by omega), tk_drop (n := 1) (show a + 1 + 1 ≤ s.length by omega), num_at (show a + 1 < s.length by omega), Bool.false_or]
theorem rdW_gone (hg : 1 < (s[a + 1].toNat : Int)) : (rdW (s.drop a, false)).2.2 = true := by
  simp only [rdW]
  exact rdK_bad (rdK_bad (by rw [rdG_at h]; simp only [hg, decide_true]))
theorem rdK_at (hg : ¬ 1 < (s[a + 1].toNat : Int)) : rdK (rdG (s.drop a, false)) = tk s[a + 2].toNat (s.drop (a + 3), false) := by
  rw [rdG_at h, decide_eq_false hg]
  simp only [rdK, tk_drop (n := 1) (show a + 2 + 1 ≤ s.length by omega), num_at (show a + 2 < s.length by omega), Int.toNat_natCast]
theorem rdW_key (hg : ¬ 1 < (s[a + 1].toNat : Int)) (hk : s.length < a + 4 + s[a + 2].toNat) : (rdW (s.drop a, false)).2.2 = true := by
  simp only [rdW]
  rw [rdK_at h hg]
  by_cases h3 : a + 3 + s[a + 2].toNat ≤ s.length
  · rw [tk_drop h3]
    exact tk_bad (tk_short (by omega) (by omega))
  · by_cases h0 : s[a + 2].toNat = 0
    · omega
    · exact rdK_bad (tk_short (by omega) (by omega))
theorem rdK2_at (hg : ¬ 1 < (s[a + 1].toNat : Int)) (hk : a + 4 + s[a + 2].toNat ≤ s.length) : rdK (rdK (rdG (s.drop a, false))).2 = tk (s[a + 3 + s[a + 2].toNat]'(by omega)).toNat (s.drop (a + 4 + s[a + 2].toNat), false) := by
  rw [rdK_at h hg, tk_drop (by omega)]
  simp only [rdK, tk_drop (n := 1) (show a + 3 + s[a + 2].toNat + 1 ≤ s.length by omega), num_at (show a + 3 + s[a + 2].toNat < s.length by omega), Int.toNat_natCast]
  rw [show a + 3 + s[a + 2].toNat + 1 = a + 4 + s[a + 2].toNat by omega]
theorem rdW_val (hg : ¬ 1 < (s[a + 1].toNat : Int)) (hk : a + 4 + s[a + 2].toNat ≤ s.length) (hv : s.length < a + 4 + s[a + 2].toNat + (s[a + 3 + s[a + 2].toNat]'(by omega)).toNat) : (rdW (s.drop a, false)).2.2 = true := by
  simp only [rdW]
  rw [rdK2_at h hg hk]
  exact tk_short hv (by omega)
theorem rdW_at (hg : ¬ 1 < (s[a + 1].toNat : Int)) (hk : a + 4 + s[a + 2].toNat ≤ s.length) (hv : a + 4 + s[a + 2].toNat + (s[a + 3 + s[a + 2].toNat]'(by omega)).toNat ≤ s.length) :
    rdW (s.drop a, false) = (⟨s[a].toNat, (s.take (a + 3 + s[a + 2].toNat)).drop (a + 3), (s.take (a + 4 + s[a + 2].toNat + (s[a + 3 + s[a + 2].toNat]'(by omega)).toNat)).drop (a + 4 + s[a + 2].toNat), decide ((s[a + 1].toNat : Int) = 1)⟩, (s.drop (a + 4 + s[a + 2].toNat + (s[a + 3 + s[a + 2].toNat]'(by omega)).toNat), false)) := by
  simp only [rdW, rdK2_at h hg hk, tk_drop hv]
  simp only [rdK_at h hg, tk_drop (show a + 3 + s[a + 2].toNat ≤ s.length by omega), tk_drop (n := 1) (show a + 1 ≤ s.length by omega), tk_drop (n := 1) (show a + 1 + 1 ≤ s.length by omega), num_at (show a < s.length by omega), num_at (show a + 1 < s.length by omega)]
end

set_option maxHeartbeats 2000000 in
theorem f22 {s : List UInt8} (hs : s.length ≤ 1048576) : Fun G 22 [.str (bs s)] (.tup [(true, [.d (.sc (.int .i64 (rc s).Commit)), .own 84 ((rc s).Writes.map oW)]), (false, [.d (.sc (.bool (take s).isSome))])], []) := by
  refine Fun.of_run (g := g22) (pf := pf22) rfl rfl rfl rfl ?_
  by_cases h8 : (s.length : Int) < 8
  · have ht : take s = none := by
      have : (rdRec s).2.2 = true := by
        simp only [rdRec]
        refine rdWs_bad ?_ _
        by_cases h4 : 4 ≤ s.length
        · have := tk_drop (s := s) (a := 0) (n := 4) (by omega)
          simp only [List.drop_zero, Nat.zero_add] at this
          rw [this]
          exact tk_short (by omega) (by omega)
        · exact tk_bad (by have := @tk_short s 0 4 (by omega) (by omega); simpa using this)
      simp [take, this]
    simp (disch := first | assumption | ((try simp only [LEN, LEN2]); omega)) only [push_cast, Int.reduceToNat, Int.reduceEq, Int.reduceNe, Int.reduceLT, Int.reduceLE, Int.reduceAdd, Int.reduceSub, Int.reduceMul, Int.reduceNeg, Nat.reduceEqDiff, Nat.reduceBEq, Nat.reduceBNe, Nat.reduceAdd, Nat.reduceLeDiff, Nat.reduceLT, Nat.reduceMul, ↓reduceIte, reduceCtorEq, g22, pf22, b22, h8, ht, rc]
    try rfl
  have d4 := tk_drop (s := s) (a := 0) (n := 4) (by omega)
  simp only [List.drop_zero, Nat.zero_add] at d4
  have d8 := tk_drop (s := s) (a := 4) (n := 4) (by omega)
  obtain ⟨ws, hws⟩ : ∃ x, x = rdWs (num ((s.take 8).drop 4)).toNat (s.drop 8, false) := ⟨_, rfl⟩
  have hrec : rdRec s = (⟨num (s.take 4), ws.1⟩, ws.2) := by
    simp only [rdRec]
    rw [d4]
    simp only
    rw [d8, hws]
  obtain ⟨hN, hN2⟩ := num_bd6 ((s.take 8).drop 4) (by simp; omega)
  obtain ⟨N, hNN⟩ := Int.eq_ofNat_of_zero_le hN
  rw [hNN, Int.toNat_natCast] at hws
  simp (disch := first | assumption | ((try simp only [LEN, LEN2]); omega)) only [push_cast, Int.reduceToNat, Int.reduceEq, Int.reduceNe, Int.reduceLT, Int.reduceLE, Int.reduceAdd, Int.reduceSub, Int.reduceMul, Int.reduceNeg, Nat.reduceEqDiff, Nat.reduceBEq, Nat.reduceBNe, Nat.reduceAdd, Nat.reduceLeDiff, Nat.reduceLT, Nat.reduceMul, ↓reduceIte, reduceCtorEq, g22, pf22, b22, h8, hNN]
  refine run_loop' (fun x : Nat × Nat × List Write => [(0, T.str (bs s)), (2, T.one (.box [.d (.sc (.int .i64 0)), .own 84 []])), (4, T.one (.box [.d (.sc (.int .i64 (num (s.take 4)))), .own 84 (x.2.2.map oW)])), (5, T.int .i64 N), (6, T.int .i64 x.2.1), (7, T.int .i64 x.1)])
    (fun x => x.1 ≤ N ∧ 8 ≤ x.2.1 ∧ x.2.1 ≤ s.length ∧ x.2.2.length ≤ x.2.1 ∧ (∀ w ∈ x.2.2, w.Key.length ≤ 1048576 ∧ w.Value.length ≤ 1048576) ∧ (x.2.2 ++ (rdWs (N - x.1) (s.drop x.2.1, false)).1, (rdWs (N - x.1) (s.drop x.2.1, false)).2) = ws)
    (fun x => N - x.1) (0, 8, []) rfl ⟨Nat.zero_le _, by simp only; omega, by simp only; omega, by simp, by simp, by simp [hws]⟩ (fun ⟨i, a, l⟩ hi => ?_)
  obtain ⟨hi, ha8, ha, hl, hsm, hw⟩ := hi
  simp only at hi ha8 ha hl hsm hw
  by_cases h1 : (i : Int) < N
  · obtain ⟨m, hm⟩ : ∃ m, N - i = m + 1 := ⟨N - i - 1, by omega⟩
    rw [hm] at hw
    have hbad : (rdW (s.drop a, false)).2.2 = true → take s = none := fun hb => by
      have : ws.2.2 = true := by rw [← hw]; exact rdWs_bad1 hb
      simp [take, hrec, this]
    by_cases h4 : (s.length : Int) < (a : Int) + 4
    · have ht := hbad (by
        cases hc : (rdW (s.drop a, false)).2.2 with
        | true => rfl
        | false => have := (rdW_good hc).2; simp at this; omega)
      simp (disch := first | assumption | ((try simp only [LEN, LEN2]); omega)) only [push_cast, Int.reduceToNat, Int.reduceEq, Int.reduceNe, Int.reduceLT, Int.reduceLE, Int.reduceAdd, Int.reduceSub, Int.reduceMul, Int.reduceNeg, Nat.reduceEqDiff, Nat.reduceBEq, Nat.reduceBNe, Nat.reduceAdd, Nat.reduceLeDiff, Nat.reduceLT, Nat.reduceMul, ↓reduceIte, reduceCtorEq, g22, pf22, b22, h1, h4, ht, rc]
      try rfl
    have h4' : a + 4 ≤ s.length := by omega
    have i1 : ((a : Int) + 1).toNat = a + 1 := by omega
    have i2 : ((a : Int) + 2).toNat = a + 2 := by omega
    have i3 : ((a : Int) + 3).toNat = a + 3 := by omega
    simp (disch := first | assumption | ((try simp only [LEN, LEN2]); omega)) only [push_cast, Int.reduceToNat, Int.reduceEq, Int.reduceNe, Int.reduceLT, Int.reduceLE, Int.reduceAdd, Int.reduceSub, Int.reduceMul, Int.reduceNeg, Nat.reduceEqDiff, Nat.reduceBEq, Nat.reduceBNe, Nat.reduceAdd, Nat.reduceLeDiff, Nat.reduceLT, Nat.reduceMul, ↓reduceIte, reduceCtorEq, g22, pf22, b22, h1, h4, i1, i2, i3]
    by_cases hg : 1 < (s[a + 1].toNat : Int)
    · have ht := hbad (rdW_gone h4' hg)
      simp (disch := first | assumption | ((try simp only [LEN, LEN2]); omega)) only [push_cast, Int.reduceToNat, Int.reduceEq, Int.reduceNe, Int.reduceLT, Int.reduceLE, Int.reduceAdd, Int.reduceSub, Int.reduceMul, Int.reduceNeg, Nat.reduceEqDiff, Nat.reduceBEq, Nat.reduceBNe, Nat.reduceAdd, Nat.reduceLeDiff, Nat.reduceLT, Nat.reduceMul, ↓reduceIte, reduceCtorEq, g22, pf22, b22, hg, ht, rc]
      try rfl
    have r1 := @rdW_key s a h4' hg
    have r2 := @rdW_val s a h4' hg
    have r3 := @rdW_at s a h4' hg
    obtain ⟨k, hk⟩ : ∃ k, s[a + 2].toNat = k := ⟨_, rfl⟩
    have hk256 : k < 256 := by rw [← hk]; exact s[a + 2].toNat_lt
    simp only [hk] at r1 r2 r3
    by_cases hk2 : (s.length : Int) < (a : Int) + 4 + k
    · have ht := hbad (r1 (by omega))
      simp (disch := first | assumption | ((try simp only [LEN, LEN2]); omega)) only [push_cast, Int.reduceToNat, Int.reduceEq, Int.reduceNe, Int.reduceLT, Int.reduceLE, Int.reduceAdd, Int.reduceSub, Int.reduceMul, Int.reduceNeg, Nat.reduceEqDiff, Nat.reduceBEq, Nat.reduceBNe, Nat.reduceAdd, Nat.reduceLeDiff, Nat.reduceLT, Nat.reduceMul, ↓reduceIte, reduceCtorEq, g22, pf22, b22, hg, hk, hk2, ht, rc]
      try rfl
    have i4 : ((a : Int) + 3 + k).toNat = a + 3 + k := by omega
    have i5 : ((a : Int) + 4 + k).toNat = a + 4 + k := by omega
    have hkl : a + 4 + k ≤ s.length := by omega
    obtain ⟨v, hv⟩ : ∃ v, (s[a + 3 + k]'(by omega)).toNat = v := ⟨_, rfl⟩
    have hv256 : v < 256 := by rw [← hv]; exact (s[a + 3 + k]'(by omega)).toNat_lt
    simp only [hv] at r2 r3
    by_cases hv2 : (s.length : Int) < (a : Int) + 4 + k + v
    · have ht := hbad (r2 (by omega) (by omega))
      simp (disch := first | assumption | ((try simp only [LEN, LEN2]); omega)) only [push_cast, Int.reduceToNat, Int.reduceEq, Int.reduceNe, Int.reduceLT, Int.reduceLE, Int.reduceAdd, Int.reduceSub, Int.reduceMul, Int.reduceNeg, Nat.reduceEqDiff, Nat.reduceBEq, Nat.reduceBNe, Nat.reduceAdd, Nat.reduceLeDiff, Nat.reduceLT, Nat.reduceMul, ↓reduceIte, reduceCtorEq, g22, pf22, b22, hg, hk, hk2, i3, i4, hv, hv2, ht, rc]
      try rfl
    have i6 : ((a : Int) + 4 + k + v).toNat = a + 4 + k + v := by omega
    have r3 := r3 (by omega) (by omega)
    simp (disch := first | assumption | ((try simp only [LEN, LEN2]); omega)) only [push_cast, Int.reduceToNat, Int.reduceEq, Int.reduceNe, Int.reduceLT, Int.reduceLE, Int.reduceAdd, Int.reduceSub, Int.reduceMul, Int.reduceNeg, Nat.reduceEqDiff, Nat.reduceBEq, Nat.reduceBNe, Nat.reduceAdd, Nat.reduceLeDiff, Nat.reduceLT, Nat.reduceMul, ↓reduceIte, reduceCtorEq, g22, pf22, b22, hg, hk, hk2, i3, i4, hv, hv2, i5, i6]
    refine ⟨(i + 1, a + 4 + k + v, l ++ [(rdW (s.drop a, false)).1]), ?_, ⟨by simp only; omega, by simp only; omega, by simp only; omega, by simp only [List.length_append, List.length_singleton]; omega, fun w hw => ?_, ?_⟩, by simp only; omega⟩
    · simp only [r3, List.map_append, List.map_cons, List.map_nil, oW, Int.natCast_add, Int.cast_ofNat_Int]
    · rw [List.mem_append, List.mem_singleton] at hw
      rcases hw with hw | rfl
      · exact hsm w hw
      · rw [r3]; simp; omega
    · rw [← hw]
      have : N - (i + 1) = m := by omega
      simp only [this, rdWs, r3]
      simp
  · obtain rfl : i = N := by omega
    have hw' : ws = (l, s.drop a, false) := by rw [← hw]; simp [rdWs]
    by_cases hx : (a : Int) = s.length
    · have hd : s.drop a = [] := List.drop_eq_nil_of_le (by omega)
      have hlm : smW l := ⟨by omega, hsm⟩
      by_cases hr : okR ⟨num (s.take 4), l⟩ = true
      · have ht : take s = some ⟨num (s.take 4), l⟩ := by simp [take, hrec, hw', hd, hr]
        simp (disch := first | assumption | ((try simp only [LEN, LEN2]); omega)) only [push_cast, Int.reduceToNat, Int.reduceEq, Int.reduceNe, Int.reduceLT, Int.reduceLE, Int.reduceAdd, Int.reduceSub, Int.reduceMul, Int.reduceNeg, Nat.reduceEqDiff, Nat.reduceBEq, Nat.reduceBNe, Nat.reduceAdd, Nat.reduceLeDiff, Nat.reduceLT, Nat.reduceMul, ↓reduceIte, reduceCtorEq, g22, pf22, b22, h1, hx, hr, ht, rc]
        try rfl
      · rw [Bool.not_eq_true] at hr
        have ht : take s = none := by simp [take, hrec, hw', hd, hr]
        simp (disch := first | assumption | ((try simp only [LEN, LEN2]); omega)) only [push_cast, Int.reduceToNat, Int.reduceEq, Int.reduceNe, Int.reduceLT, Int.reduceLE, Int.reduceAdd, Int.reduceSub, Int.reduceMul, Int.reduceNeg, Nat.reduceEqDiff, Nat.reduceBEq, Nat.reduceBNe, Nat.reduceAdd, Nat.reduceLeDiff, Nat.reduceLT, Nat.reduceMul, ↓reduceIte, reduceCtorEq, g22, pf22, b22, h1, hx, hr, ht, rc]
        try rfl
    · have hd : s.drop a ≠ [] := by
        intro h; have := congrArg List.length h; simp at this; omega
      have ht : take s = none := by simp [take, hrec, hw', hd]
      simp (disch := first | assumption | ((try simp only [LEN, LEN2]); omega)) only [push_cast, Int.reduceToNat, Int.reduceEq, Int.reduceNe, Int.reduceLT, Int.reduceLE, Int.reduceAdd, Int.reduceSub, Int.reduceMul, Int.reduceNeg, Nat.reduceEqDiff, Nat.reduceBEq, Nat.reduceBNe, Nat.reduceAdd, Nat.reduceLeDiff, Nat.reduceLT, Nat.reduceMul, ↓reduceIte, reduceCtorEq, g22, pf22, b22, h1, hx, ht, rc]
      try rfl
theorem f22c {s : List UInt8} (hs : s.length ≤ 1048576) {g : VG} {F : Fn} {lk : Bool} {e : Env} {dst : Option Nat} {ops : List Ins} {keep : Option (List Nat)} {K : List Fr} : CallC G g F 22 [.str (bs s)] lk e dst ops keep K = ThenL G g F (if lk && !(T.noSl (.tup [(true, [.d (.sc (.int .i64 (rc s).Commit)), .own 84 ((rc s).Writes.map oW)]), (false, [.d (.sc (.bool (take s).isSome))])])) then none else e.put g.un dst (.tup [(true, [.d (.sc (.int .i64 (rc s).Commit)), .own 84 ((rc s).Writes.map oW)]), (false, [.d (.sc (.bool (take s).isSome))])])) ops keep K := callC_eq (f22 hs)
attribute [push_cast] f22c
theorem f22t {s : List UInt8} (hs : s.length ≤ 1048576) {g : VG} {F : Fn} {lk : Bool} {ags : List Arg} {e0 e1 : Env} {dst : Option Nat} {ops : List Ins} {keep : Option (List Nat)} {K : List Fr} : CallT G g F 22 [.str (bs s)] lk ags e0 e1 dst ops keep K = RetT G g F (.tup [(true, [.d (.sc (.int .i64 (rc s).Commit)), .own 84 ((rc s).Writes.map oW)]), (false, [.d (.sc (.bool (take s).isSome))])]) [] lk ags e0 e1 dst ops keep K := callT_eq (f22 hs)
attribute [push_cast] f22t

end Go.Mir.Try

/- Walks: the law. -/
set_option linter.unusedVariables false
set_option linter.unusedSimpArgs false
set_option maxRecDepth 100000
namespace Go.Mir.Try
open Go.Proofs Go.Mir.Q

def spoilt : Write := ⟨-9, [], [], false⟩

set_option maxHeartbeats 2000000 in
theorem f23 {l : List Write} (hl : l.length ≤ 1000000000) : Fun G 23 [.one (.own 84 (l.map oW))] (.tup [], [.own 84 ((List.replicate l.length spoilt).map oW)]) := by
  refine Fun.of_run (g := g23) (pf := pf23) rfl rfl rfl rfl ?_
  simp (disch := first | assumption | ((try simp only [LEN, LEN2]); omega)) only [push_cast, Int.reduceToNat, Int.reduceEq, Int.reduceNe, Int.reduceLT, Int.reduceLE, Int.reduceAdd, Int.reduceSub, Int.reduceMul, Int.reduceNeg, Nat.reduceEqDiff, Nat.reduceBEq, Nat.reduceBNe, Nat.reduceAdd, Nat.reduceLeDiff, Nat.reduceLT, Nat.reduceMul, ↓reduceIte, reduceCtorEq, g23, pf23, b23]
  refine run_loop' (fun i : Nat => [(0, T.one (.own 84 ((List.replicate i spoilt ++ l.drop i).map oW))), (2, T.int .i64 i)]) (fun i => i ≤ l.length) (fun i => l.length - i) 0 ?_ (Nat.zero_le _) (fun i hi => ?_)
  · simp
  obtain ⟨m, hm⟩ : ∃ m, m = List.replicate i spoilt ++ l.drop i := ⟨_, rfl⟩
  have hml : m.length = l.length := by rw [hm]; simp; omega
  rw [← hm]
  by_cases h : (i : Int) < l.length
  · have hi' : i < m.length := by omega
    simp (disch := first | assumption | ((try simp only [LEN, LEN2]); omega)) only [push_cast, Int.reduceToNat, Int.reduceEq, Int.reduceNe, Int.reduceLT, Int.reduceLE, Int.reduceAdd, Int.reduceSub, Int.reduceMul, Int.reduceNeg, Nat.reduceEqDiff, Nat.reduceBEq, Nat.reduceBNe, Nat.reduceAdd, Nat.reduceLeDiff, Nat.reduceLT, Nat.reduceMul, ↓reduceIte, reduceCtorEq, g23, pf23, b23, hml, h, oW]
    refine ⟨i + 1, ?_, by omega, by omega⟩
    have e : m.set i spoilt = List.replicate (i + 1) spoilt ++ l.drop (i + 1) := by
      rw [hm, List.replicate_succ']
      rw [List.set_append_right _ _ (by simp), List.length_replicate, Nat.sub_self, List.drop_eq_getElem_cons (by omega : i < l.length), List.set_cons_zero, List.append_assoc, List.singleton_append]
    rw [← e, List.map_set]
    simp only [oW, spoilt, Int.natCast_add, Int.cast_ofNat_Int]
  · obtain rfl : i = l.length := by omega
    simp (disch := first | assumption | ((try simp only [LEN, LEN2]); omega)) only [push_cast, Int.reduceToNat, Int.reduceEq, Int.reduceNe, Int.reduceLT, Int.reduceLE, Int.reduceAdd, Int.reduceSub, Int.reduceMul, Int.reduceNeg, Nat.reduceEqDiff, Nat.reduceBEq, Nat.reduceBNe, Nat.reduceAdd, Nat.reduceLeDiff, Nat.reduceLT, Nat.reduceMul, ↓reduceIte, reduceCtorEq, g23, pf23, b23, hml, h]
    simp [hm]
theorem f23t {l : List Write} (hl : l.length ≤ 1000000000) {g : VG} {F : Fn} {lk : Bool} {ags : List Arg} {e0 e1 : Env} {dst : Option Nat} {ops : List Ins} {keep : Option (List Nat)} {K : List Fr} : CallT G g F 23 [.one (.own 84 (l.map oW))] lk ags e0 e1 dst ops keep K = RetT G g F (.tup []) [.own 84 ((List.replicate l.length spoilt).map oW)] lk ags e0 e1 dst ops keep K := callT_eq (f23 hl)
attribute [push_cast] f23t

theorem f24 : Fun G 24 [] (.bool true, []) := ⟨30, by kernel_rfl⟩

def eL (l : List (List UInt8)) : List D := [.sl (l.map eS)]
abbrev askV (R : List Record) (S : List (List UInt8)) (N : List Int) (L : List (List (List UInt8))) : List V := [.d (.sl (R.map eR)), .d (.sl (S.map eS)), .d (.sl (N.map eN)), .d (.sl (L.map fun l => [.sl (l.map eS)]))]

theorem okR_len {r : Record} (h : okR r = true) : (spelt r).length ≤ 3000 ∧ 8 ≤ (spelt r).length := by
  simp only [okR, Bool.and_eq_true, decide_eq_true_eq, List.all_eq_true] at h
  have : ∀ l : List Write, (∀ w ∈ l, okW w = true) → (wrs l).length ≤ l.length * 36 := by
    intro l
    induction l with
    | nil => intro _; simp [wrs]
    | cons w l ih =>
      intro hw
      have h1 := hw w (by simp)
      simp only [okW, decide_eq_true_eq] at h1
      have h2 := ih fun x hx => hw x (List.mem_cons_of_mem _ hx)
      have h3 : (wrs (w :: l)).length = (wr w).length + (wrs l).length := by simp [wrs]
      have h4 : (wr w).length = 4 + w.Key.length + w.Value.length := by simp [wr, be_length]; omega
      rw [h3, List.length_cons]; omega
  have h1 := this r.Writes h.2
  have h2 : (spelt r).length = 8 + (wrs r.Writes).length := by simp [spelt, be_length]; omega
  omega

theorem set_oBx (l : List UInt8) (i : Nat) (n : Int) : (l.map oB).set i [.d (.sc (.int .u8 (n % 256)))] = (l.set i (byt n)).map oB := by
  rw [← oB_byt, List.map_set]

theorem take_ok {s : List UInt8} {r : Record} (h : take s = some r) : okR r = true := by
  simp only [take] at h
  split at h
  · cases h
  · rename_i hn
    simp only [not_or, Bool.not_eq_false] at hn
    cases h
    exact hn.2.2
theorem foldS (l : List (List UInt8)) (x : List UInt8) (r : List (List V)) : l.map oS ++ ([.d (.sc (.string (bs x)))] :: r) = (l ++ [x]).map oS ++ r := by simp [oS]

set_option maxHeartbeats 2000000 in
theorem f3 {R : List Record} {S : List (List UInt8)} {N : List Int} {L : List (List (List UInt8))} (hR : smR R) (hS : smS S) (hN : N.length ≤ 1048576) (hL : L.length ≤ 1048576 ∧ ∀ l ∈ L, smS l) : Fun G 3 [.vs true (askV R S N L)] (.bool true, []) := by
  refine Fun.of_run (g := g3) (pf := pf3) rfl rfl rfl rfl ?_
  obtain ⟨hv, hhv⟩ := f11 hR hS hN hL
  obtain ⟨hRl, hR⟩ := hR
  obtain ⟨hSl, hS⟩ := hS
  simp (disch := first | assumption | ((try simp only [LEN, LEN2]); omega)) only [push_cast, Int.reduceToNat, Int.reduceEq, Int.reduceNe, Int.reduceLT, Int.reduceLE, Int.reduceAdd, Int.reduceSub, Int.reduceMul, Int.reduceNeg, Nat.reduceEqDiff, Nat.reduceBEq, Nat.reduceBNe, Nat.reduceAdd, Nat.reduceLeDiff, Nat.reduceLT, Nat.reduceMul, ↓reduceIte, reduceCtorEq, g3, pf3, b3, callC_eq hhv, callC_eq f24]
  refine If.split (fun h => ?_) (fun h => ?_)
  · simp (disch := first | assumption | ((try simp only [LEN, LEN2]); omega)) only [push_cast, Int.reduceToNat, Int.reduceEq, Int.reduceNe, Int.reduceLT, Int.reduceLE, Int.reduceAdd, Int.reduceSub, Int.reduceMul, Int.reduceNeg, Nat.reduceEqDiff, Nat.reduceBEq, Nat.reduceBNe, Nat.reduceAdd, Nat.reduceLeDiff, Nat.reduceLT, Nat.reduceMul, ↓reduceIte, reduceCtorEq, g3, pf3, b3]
  simp (disch := first | assumption | ((try simp only [LEN, LEN2]); omega)) only [push_cast, Int.reduceToNat, Int.reduceEq, Int.reduceNe, Int.reduceLT, Int.reduceLE, Int.reduceAdd, Int.reduceSub, Int.reduceMul, Int.reduceNeg, Nat.reduceEqDiff, Nat.reduceBEq, Nat.reduceBNe, Nat.reduceAdd, Nat.reduceLeDiff, Nat.reduceLT, Nat.reduceMul, ↓reduceIte, reduceCtorEq, g3, pf3, b3]
  refine run_loop' (fun x : Nat × List (List UInt8) => [(1, T.one (.box (askV R S N L))), (3, T.one (.own 9 (x.2.map oS))), (4, T.int .i64 x.1)]) (fun x => x.1 ≤ R.length ∧ x.2.length ≤ 1048576 + x.1 * 11 ∧ ∀ s ∈ x.2, s.length ≤ 1048576) (fun x => R.length - x.1) (0, S) rfl ⟨Nat.zero_le _, by simp only; omega, hS⟩ (fun ⟨i, ts⟩ hi => ?_)
  obtain ⟨hi, htl, hts⟩ := hi
  simp only at hi htl hts
  rcases (show ((i : Int) < R.length ∧ (i : Int) < 6) ∨ ((i : Int) < R.length ∧ ¬ (i : Int) < 6) ∨ ¬ (i : Int) < R.length by omega) with ⟨h1, h6⟩ | ⟨h1, h6⟩ | h1
  · have hi' : i < R.length := by omega
    obtain ⟨⟨c, ws⟩, hr⟩ : ∃ r, R[i] = r := ⟨_, rfl⟩
    obtain ⟨hw, hc⟩ := hR R[i] (List.getElem_mem hi')
    rw [hr] at hw hc
    simp only at hw hc
    have hwl := hw.1
    by_cases hok : okR ⟨c, ws⟩ = true
    · obtain ⟨hl1, hl2⟩ := okR_len hok
      have h64 : ws.length ≤ 64 := by simp [okR] at hok; omega
      obtain ⟨w, hwd⟩ : ∃ w, spelt ⟨c, ws⟩ = w := ⟨_, rfl⟩
      rw [hwd] at hl1 hl2
      have t1 : ((w.length : Int) - 1).toNat = w.length - 1 := by omega
      simp (disch := first | assumption | ((try simp only [LEN, LEN2]); omega)) only [push_cast, Int.reduceToNat, Int.reduceEq, Int.reduceNe, Int.reduceLT, Int.reduceLE, Int.reduceAdd, Int.reduceSub, Int.reduceMul, Int.reduceNeg, Nat.reduceEqDiff, Nat.reduceBEq, Nat.reduceBNe, Nat.reduceAdd, Nat.reduceLeDiff, Nat.reduceLT, Nat.reduceMul, ↓reduceIte, reduceCtorEq, g3, pf3, b3, h1, h6, eR, hr, hok, hwd, t1]
      refine run_loop' (fun x : Nat × List (List UInt8) => [(1, T.one (.box (askV R S N L))), (3, T.one (.own 9 (x.2.map oS))), (4, T.int .i64 i), (5, T.one (.box [.d (.sc (.int .i64 c)), .own 84 (ws.map oW)])), (6, T.str (bs w)), (7, T.int .i64 0), (8, T.int .i64 0), (9, T.str (bs w)), (10, T.int .i64 x.1)])
        (fun x => x.1 ≤ 8 ∧ x.2.length ≤ 1048576 + i * 11 + 3 + x.1 ∧ ∀ s ∈ x.2, s.length ≤ 1048576) (fun x => 8 - x.1) (0, ts ++ [w, w ++ [120], w.take (w.length - 1)]) ?_ ⟨by simp only; omega, by simp; omega, ?_⟩ (fun ⟨k, us⟩ hk => ?_)
      · simp [oS]
      · intro s hs
        simp only [List.mem_append, List.mem_cons, List.not_mem_nil, or_false] at hs
        rcases hs with hs | rfl | rfl | rfl
        · exact hts s hs
        · omega
        · simp; omega
        · simp; omega
      obtain ⟨hk, hul, hus⟩ := hk
      simp only at hk hul hus
      by_cases h8 : (k : Int) < 8
      · have hkk : ((k : Int) * w.length) ≤ 8 * 3000 := by
          have := Int.mul_le_mul (show (k : Int) ≤ 8 by omega) (show (w.length : Int) ≤ 3000 by omega) (by omega) (by omega)
          omega
        have hkk0 : 0 ≤ ((k : Int) * w.length) := Int.mul_nonneg (by omega) (by omega)
        obtain ⟨q, hq⟩ : ∃ q, ((k : Int) * w.length) = q := ⟨_, rfl⟩
        rw [hq] at hkk hkk0
        have hqi : (q / 8 + (i : Int)) % 18446744073709551616 = q / 8 + i := Int.emod_eq_of_lt (by omega) (by omega)
        have hok2 : okN (q / 8 + i) := ⟨by omega, by omega⟩
        obtain ⟨a, ha⟩ := Int.eq_ofNat_of_zero_le (Int.emod_nonneg (q / 8 + (i : Int)) (show (w.length : Int) ≠ 0 by omega))
        have ha2 := Int.emod_lt_of_pos (q / 8 + (i : Int)) (show (0 : Int) < (w.length : Int) by omega)
        rw [ha] at ha2
        have haw : a < w.length := by omega
        simp (disch := first | assumption | ((try simp only [LEN, LEN2]); omega)) only [push_cast, Int.reduceToNat, Int.reduceEq, Int.reduceNe, Int.reduceLT, Int.reduceLE, Int.reduceAdd, Int.reduceSub, Int.reduceMul, Int.reduceNeg, Nat.reduceEqDiff, Nat.reduceBEq, Nat.reduceBNe, Nat.reduceAdd, Nat.reduceLeDiff, Nat.reduceLT, Nat.reduceMul, ↓reduceIte, reduceCtorEq, g3, pf3, b3, h8, hq, hqi, ha, oB, shv_rules]
        simp (disch := first | assumption | ((try simp only [LEN, LEN2]); omega)) only [push_cast, Int.reduceToNat, Int.reduceEq, Int.reduceNe, Int.reduceLT, Int.reduceLE, Int.reduceAdd, Int.reduceSub, Int.reduceMul, Int.reduceNeg, Nat.reduceEqDiff, Nat.reduceBEq, Nat.reduceBNe, Nat.reduceAdd, Nat.reduceLeDiff, Nat.reduceLT, Nat.reduceMul, ↓reduceIte, reduceCtorEq, g3, pf3, b3, set_oBx, foldS]
        exact ⟨(k + 1, _), rfl, ⟨by simp only; omega, by simp; omega, fun s hs => by
          rw [List.mem_append, List.mem_singleton] at hs
          rcases hs with hs | rfl
          · exact hus s hs
          · simp; omega⟩, by simp only; omega⟩
      · simp (disch := first | assumption | ((try simp only [LEN, LEN2]); omega)) only [push_cast, Int.reduceToNat, Int.reduceEq, Int.reduceNe, Int.reduceLT, Int.reduceLE, Int.reduceAdd, Int.reduceSub, Int.reduceMul, Int.reduceNeg, Nat.reduceEqDiff, Nat.reduceBEq, Nat.reduceBNe, Nat.reduceAdd, Nat.reduceLeDiff, Nat.reduceLT, Nat.reduceMul, ↓reduceIte, reduceCtorEq, g3, pf3, b3, h8, hok, hwd, hr, h1, eR]
        exact ⟨(i + 1, us), rfl, ⟨by simp only; omega, by simp only; omega, hus⟩, by simp only; omega⟩
    · rw [Bool.not_eq_true] at hok
      simp (disch := first | assumption | ((try simp only [LEN, LEN2]); omega)) only [push_cast, Int.reduceToNat, Int.reduceEq, Int.reduceNe, Int.reduceLT, Int.reduceLE, Int.reduceAdd, Int.reduceSub, Int.reduceMul, Int.reduceNeg, Nat.reduceEqDiff, Nat.reduceBEq, Nat.reduceBNe, Nat.reduceAdd, Nat.reduceLeDiff, Nat.reduceLT, Nat.reduceMul, ↓reduceIte, reduceCtorEq, g3, pf3, b3, h1, h6, eR, hr, hok]
      exact ⟨(i + 1, ts), rfl, ⟨by simp only; omega, by simp only; omega, hts⟩, by simp only; omega⟩
  all_goals (first | simp (disch := first | assumption | ((try simp only [LEN, LEN2]); omega)) only [push_cast, Int.reduceToNat, Int.reduceEq, Int.reduceNe, Int.reduceLT, Int.reduceLE, Int.reduceAdd, Int.reduceSub, Int.reduceMul, Int.reduceNeg, Nat.reduceEqDiff, Nat.reduceBEq, Nat.reduceBNe, Nat.reduceAdd, Nat.reduceLeDiff, Nat.reduceLT, Nat.reduceMul, ↓reduceIte, reduceCtorEq, g3, pf3, b3, h1, h6] | simp (disch := first | assumption | ((try simp only [LEN, LEN2]); omega)) only [push_cast, Int.reduceToNat, Int.reduceEq, Int.reduceNe, Int.reduceLT, Int.reduceLE, Int.reduceAdd, Int.reduceSub, Int.reduceMul, Int.reduceNeg, Nat.reduceEqDiff, Nat.reduceBEq, Nat.reduceBNe, Nat.reduceAdd, Nat.reduceLeDiff, Nat.reduceLT, Nat.reduceMul, ↓reduceIte, reduceCtorEq, g3, pf3, b3, h1])
  all_goals
    refine run_loop' (fun j : Nat => [(3, T.one (.own 9 (ts.map oS))), (13, T.int .i64 j)]) (fun j => j ≤ ts.length) (fun j => ts.length - j) 0 rfl (Nat.zero_le _) (fun j hj => ?_)
    by_cases h2 : (j : Int) < ts.length
    · have hj' : j < ts.length := by omega
      have hjl := hts ts[j] (List.getElem_mem hj')
      have hrl : (rc ts[j]).Writes.length ≤ 64 := by
        unfold rc
        cases htk : take ts[j] with
        | none => simp
        | some r => have hk := take_ok htk; simp [okR] at hk; simp; omega
      obtain ⟨b, hb⟩ : ∃ b, (take ts[j]).isSome = b := ⟨_, rfl⟩
      cases b <;> simp (disch := first | assumption | ((try simp only [LEN, LEN2]); omega)) only [push_cast, Int.reduceToNat, Int.reduceEq, Int.reduceNe, Int.reduceLT, Int.reduceLE, Int.reduceAdd, Int.reduceSub, Int.reduceMul, Int.reduceNeg, Nat.reduceEqDiff, Nat.reduceBEq, Nat.reduceBNe, Nat.reduceAdd, Nat.reduceLeDiff, Nat.reduceLT, Nat.reduceMul, ↓reduceIte, reduceCtorEq, g3, pf3, b3, h2, oS, hb] <;> exact ⟨j + 1, rfl, by omega, by omega⟩
    · simp (disch := first | assumption | ((try simp only [LEN, LEN2]); omega)) only [push_cast, Int.reduceToNat, Int.reduceEq, Int.reduceNe, Int.reduceLT, Int.reduceLE, Int.reduceAdd, Int.reduceSub, Int.reduceMul, Int.reduceNeg, Nat.reduceEqDiff, Nat.reduceBEq, Nat.reduceBNe, Nat.reduceAdd, Nat.reduceLeDiff, Nat.reduceLT, Nat.reduceMul, ↓reduceIte, reduceCtorEq, g3, pf3, b3, h2, callC_eq f24]
theorem f3t {R : List Record} {S : List (List UInt8)} {N : List Int} {L : List (List (List UInt8))} (hR : smR R) (hS : smS S) (hN : N.length ≤ 1048576) (hL : L.length ≤ 1048576 ∧ ∀ l ∈ L, smS l) {g : VG} {F : Fn} {lk : Bool} {ags : List Arg} {e0 e1 : Env} {dst : Option Nat} {ops : List Ins} {keep : Option (List Nat)} {K : List Fr} : CallT G g F 3 [.vs true (askV R S N L)] lk ags e0 e1 dst ops keep K = RetT G g F (.bool true) [] lk ags e0 e1 dst ops keep K := callT_eq (f3 hR hS hN hL)
attribute [push_cast] f3t

end Go.Mir.Try
